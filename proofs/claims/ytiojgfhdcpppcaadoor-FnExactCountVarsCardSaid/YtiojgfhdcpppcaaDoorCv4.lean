/-
  Contracts and lemmas that the card needs, part 4.
-/
import Derived.Test.YtiojgfhdcpppcaaDoorCv3
import Derived.Test.YtiojgfhdcpppcaaDoorRows
import Derived.Laws.RangeAny
import Derived.Laws.RangeString
namespace Go.Proofs.YtiojgfhdcpppcaaDoor
open Go Go.Aw
set_option maxRecDepth 100000
abbrev n_laws_szStringS : FuncId := 70
abbrev n_laws_szExpr : FuncId := 119
abbrev n_laws_szExprS : FuncId := 108
abbrev n_laws_szStmt : FuncId := 95
abbrev n_laws_szStmtS : FuncId := 71
abbrev n_laws_szFn : FuncId := 39
abbrev n_laws_szFnS : FuncId := 17
abbrev n_laws_szProgram : FuncId := 7
abbrev n_laws_toStringS : FuncId := 79
abbrev n_laws_toExpr : FuncId := 123
abbrev n_laws_toExprS : FuncId := 113
abbrev n_laws_toStmt : FuncId := 99
abbrev n_laws_toStmtS : FuncId := 80
abbrev n_laws_toFn : FuncId := 46
abbrev n_laws_toFnS : FuncId := 20
abbrev n_laws_toProgram : FuncId := 9
abbrev n_spec_l1In : FuncId := 35
abbrev n_spec_l30Find : FuncId := 120
abbrev n_spec_l1Class : FuncId := 109
abbrev n_spec_l1All : FuncId := 96
abbrev n_spec_KeyWords : FuncId := 110
abbrev n_spec_l1Key : FuncId := 97
abbrev n_spec_IsName : FuncId := 72
abbrev n_spec_l3Args : FuncId := 111
abbrev n_spec_l2Kids : FuncId := 128
abbrev n_spec_l2Form : FuncId := 121
abbrev n_spec_l2Parts : FuncId := 122
abbrev n_spec_ExprValid : FuncId := 112
abbrev n_spec_l3Stmt : FuncId := 98
abbrev n_spec_l3Stmts : FuncId := 73
abbrev n_spec_l3Fn : FuncId := 40
abbrev n_spec_l3Count : FuncId := 74
abbrev n_spec_l3All : FuncId := 41
abbrev n_spec_ProgramValid : FuncId := 18
abbrev n_spec_FnAt : FuncId := 42
abbrev n_spec_l4Walk_fail : FuncId := 43
abbrev n_spec_l4Walk_find : FuncId := 75
abbrev n_spec_l4Name : FuncId := 76
abbrev n_spec_l4Walk_put : FuncId := 44
abbrev n_spec_l4Walk_use : FuncId := 78
abbrev n_spec_l4Walk_expr : FuncId := 77
abbrev n_spec_l4Walk_stmts : FuncId := 45
abbrev n_spec_l4Fn : FuncId := 19
abbrev n_spec_CheckProgram : FuncId := 8
abbrev n_impl_within : FuncId := 28
abbrev n_strings_indexFunc : FuncId := 89
abbrev n_strings_IndexFunc : FuncId := 58
abbrev n_slices_Index_string : FuncId := 90
abbrev n_slices_Contains_string : FuncId := 60
abbrev n_impl_IsName_1 : FuncId := 59
abbrev n_impl_IsName : FuncId := 29
abbrev n_slices_IndexFunc_string : FuncId := 61
abbrev n_slices_ContainsFunc_string : FuncId := 30
abbrev n_slices_IndexFunc_impl_Stmt : FuncId := 91
abbrev n_slices_ContainsFunc_impl_Stmt : FuncId := 62
abbrev n_impl_argCount : FuncId := 92
abbrev n_impl_isByte : FuncId := 116
abbrev n_impl_levelOf : FuncId := 117
abbrev n_impl_exprSize : FuncId := 105
abbrev n_impl_ExprValid : FuncId := 93
abbrev n_impl_stmtOk : FuncId := 64
abbrev n_impl_blockOk_1 : FuncId := 63
abbrev n_impl_blockOk : FuncId := 32
abbrev n_impl_stmts : FuncId := 65
abbrev n_impl_measure_1 : FuncId := 66
abbrev n_impl_measure : FuncId := 33
abbrev n_impl_ProgramValid_1 : FuncId := 31
abbrev n_impl_ProgramValid : FuncId := 13
abbrev n_slices_IndexFunc_impl_Fn : FuncId := 47
abbrev n_impl_FnAt_1 : FuncId := 48
abbrev n_impl_FnAt : FuncId := 21
abbrev n_impl_checker_fail : FuncId := 22
abbrev n_impl_scope_open : FuncId := 23
abbrev n_impl_parts : FuncId := 81
abbrev n_impl_scope_find : FuncId := 50
abbrev n_impl_checker_expr_1 : FuncId := 82
abbrev n_impl_checker_expr : FuncId := 49
abbrev n_impl_checker_block : FuncId := 24
abbrev n_impl_CheckProgram : FuncId := 10
abbrev n_laws_eqStringS : FuncId := 83
abbrev n_laws_eqExpr : FuncId := 124
abbrev n_laws_eqExprS : FuncId := 114
abbrev n_laws_eqStmt : FuncId := 100
abbrev n_laws_eqStmtS : FuncId := 84
abbrev n_laws_eqFn : FuncId := 51
abbrev n_laws_eqFnS : FuncId := 25
abbrev n_laws_eqProgram : FuncId := 11
def F_laws_szStringS : FK := ⟨28, [.t 4],
 .seq (.reg [⟨(some 4), none, .mov (.c (.p (.int .i64 0)))⟩])
 (.seq (.reg [⟨(some 6), none, .mov (.t 1)⟩,
   ⟨(some 7), none, .mov (.t 0)⟩,
   ⟨(some 8), none, .len false (.t 7)⟩,
   ⟨(some 9), none, .bin .sub (.t 6) (.t 8)⟩,
   ⟨(some 1), none, .mov (.t 9)⟩])
 (.seq (.seq (.reg [⟨(some 10), none, .mov (.t 1)⟩,
   ⟨(some 11), none, .bin .lss (.t 10) (.c (.p (.int .i64 0)))⟩])
 (.cond (.t 11)
  (.seq (.reg [⟨(some 4), none, .mov (.c (.p (.int .i64 (-1))))⟩])
  (.ret))
  (.skip)))
 (.seq (.seq (.reg [⟨(some 5), none, .mov (.c (.p (.int .i64 0)))⟩])
 (.blk 0 (.loop (.seq (.seq (.reg [⟨(some 12), none, .mov (.t 5)⟩,
   ⟨(some 13), none, .mov (.t 0)⟩,
   ⟨(some 14), none, .len false (.t 13)⟩,
   ⟨(some 15), none, .bin .lss (.t 12) (.t 14)⟩])
 (.cond (.t 15)
  (.skip)
  (.exit 0)))
 (.seq (.blk 1 (.seq (.reg [⟨(some 18), none, .mov (.t 1)⟩,
   ⟨(some 19), none, .mov (.t 0)⟩,
   ⟨(some 20), none, .mov (.t 5)⟩,
   ⟨(some 21), none, .idxS 1 (.t 19) (.t 20)⟩,
   ⟨(some 22), none, .ld none (.t 21)⟩,
   ⟨(some 23), none, .len true (.t 22)⟩,
   ⟨(some 24), none, .bin .sub (.t 18) (.t 23)⟩,
   ⟨(some 1), none, .mov (.t 24)⟩])
 (.seq (.reg [⟨(some 25), none, .mov (.t 1)⟩,
   ⟨(some 26), none, .bin .lss (.t 25) (.c (.p (.int .i64 0)))⟩])
 (.cond (.t 26)
  (.seq (.reg [⟨(some 4), none, .mov (.c (.p (.int .i64 (-1))))⟩])
  (.ret))
  (.skip)))))
 (.reg [⟨(some 16), none, .mov (.t 5)⟩,
   ⟨(some 17), none, .bin .add (.t 16) (.c (.p (.int .i64 1)))⟩,
   ⟨(some 5), none, .mov (.t 17)⟩]))))))
 (.seq (.reg [⟨(some 27), none, .mov (.t 1)⟩,
   ⟨(some 4), none, .mov (.t 27)⟩])
 (.ret)))))⟩
theorem k_laws_szStringS : compF Tryd.prog n_laws_szStringS = some F_laws_szStringS := by kernel_rfl
def F_laws_szExpr : FK := ⟨19, [.t 4],
 .seq (.reg [⟨(some 2), none, .box 4 (.t 0)⟩,
   ⟨(some 4), none, .mov (.c (.p (.int .i64 0)))⟩])
 (.seq (.reg [⟨(some 5), none, .mov (.t 1)⟩,
   ⟨(some 6), none, .fldA 2 (.t 2)⟩,
   ⟨(some 7), none, .ld none (.t 6)⟩,
   ⟨(some 8), none, .len true (.t 7)⟩,
   ⟨(some 9), none, .bin .sub (.t 5) (.t 8)⟩,
   ⟨(some 1), none, .mov (.t 9)⟩])
 (.seq (.seq (.reg [⟨(some 10), none, .mov (.t 1)⟩,
   ⟨(some 11), none, .bin .lss (.t 10) (.c (.p (.int .i64 0)))⟩])
 (.cond (.t 11)
  (.seq (.reg [⟨(some 4), none, .mov (.c (.p (.int .i64 (-1))))⟩])
  (.ret))
  (.skip)))
 (.seq (.reg [⟨(some 12), none, .fldA 3 (.t 2)⟩,
   ⟨(some 13), none, .ld none (.t 12)⟩,
   ⟨(some 14), none, .mov (.t 1)⟩,
   ⟨(some 15), none, .call n_laws_szExprS [(.t 13), (.t 14)]⟩,
   ⟨(some 1), none, .mov (.t 15)⟩])
 (.seq (.seq (.reg [⟨(some 16), none, .mov (.t 1)⟩,
   ⟨(some 17), none, .bin .lss (.t 16) (.c (.p (.int .i64 0)))⟩])
 (.cond (.t 17)
  (.seq (.reg [⟨(some 4), none, .mov (.c (.p (.int .i64 (-1))))⟩])
  (.ret))
  (.skip)))
 (.seq (.reg [⟨(some 18), none, .mov (.t 1)⟩,
   ⟨(some 4), none, .mov (.t 18)⟩])
 (.ret))))))⟩
theorem k_laws_szExpr : compF Tryd.prog n_laws_szExpr = some F_laws_szExpr := by kernel_rfl
def F_laws_szExprS : FK := ⟨27, [.t 4],
 .seq (.reg [⟨(some 4), none, .mov (.c (.p (.int .i64 0)))⟩])
 (.seq (.reg [⟨(some 6), none, .mov (.t 1)⟩,
   ⟨(some 7), none, .mov (.t 0)⟩,
   ⟨(some 8), none, .len false (.t 7)⟩,
   ⟨(some 9), none, .bin .sub (.t 6) (.t 8)⟩,
   ⟨(some 1), none, .mov (.t 9)⟩])
 (.seq (.seq (.reg [⟨(some 10), none, .mov (.t 1)⟩,
   ⟨(some 11), none, .bin .lss (.t 10) (.c (.p (.int .i64 0)))⟩])
 (.cond (.t 11)
  (.seq (.reg [⟨(some 4), none, .mov (.c (.p (.int .i64 (-1))))⟩])
  (.ret))
  (.skip)))
 (.seq (.seq (.reg [⟨(some 5), none, .mov (.c (.p (.int .i64 0)))⟩])
 (.blk 0 (.loop (.seq (.seq (.reg [⟨(some 12), none, .mov (.t 5)⟩,
   ⟨(some 13), none, .mov (.t 0)⟩,
   ⟨(some 14), none, .len false (.t 13)⟩,
   ⟨(some 15), none, .bin .lss (.t 12) (.t 14)⟩])
 (.cond (.t 15)
  (.skip)
  (.exit 0)))
 (.seq (.blk 1 (.seq (.reg [⟨(some 18), none, .mov (.t 0)⟩,
   ⟨(some 19), none, .mov (.t 5)⟩,
   ⟨(some 20), none, .idxS 4 (.t 18) (.t 19)⟩,
   ⟨(some 21), none, .ld (some 4) (.t 20)⟩,
   ⟨(some 22), none, .mov (.t 1)⟩,
   ⟨(some 23), none, .call n_laws_szExpr [(.t 21), (.t 22)]⟩,
   ⟨(some 1), none, .mov (.t 23)⟩])
 (.seq (.reg [⟨(some 24), none, .mov (.t 1)⟩,
   ⟨(some 25), none, .bin .lss (.t 24) (.c (.p (.int .i64 0)))⟩])
 (.cond (.t 25)
  (.seq (.reg [⟨(some 4), none, .mov (.c (.p (.int .i64 (-1))))⟩])
  (.ret))
  (.skip)))))
 (.reg [⟨(some 16), none, .mov (.t 5)⟩,
   ⟨(some 17), none, .bin .add (.t 16) (.c (.p (.int .i64 1)))⟩,
   ⟨(some 5), none, .mov (.t 17)⟩]))))))
 (.seq (.reg [⟨(some 26), none, .mov (.t 1)⟩,
   ⟨(some 4), none, .mov (.t 26)⟩])
 (.ret)))))⟩
theorem k_laws_szExprS : compF Tryd.prog n_laws_szExprS = some F_laws_szExprS := by kernel_rfl
def F_laws_szStmt : FK := ⟨31, [.t 4],
 .seq (.reg [⟨(some 2), none, .box 5 (.t 0)⟩,
   ⟨(some 4), none, .mov (.c (.p (.int .i64 0)))⟩])
 (.seq (.reg [⟨(some 5), none, .mov (.t 1)⟩,
   ⟨(some 6), none, .fldA 1 (.t 2)⟩,
   ⟨(some 7), none, .ld none (.t 6)⟩,
   ⟨(some 8), none, .len true (.t 7)⟩,
   ⟨(some 9), none, .bin .sub (.t 5) (.t 8)⟩,
   ⟨(some 1), none, .mov (.t 9)⟩])
 (.seq (.seq (.reg [⟨(some 10), none, .mov (.t 1)⟩,
   ⟨(some 11), none, .bin .lss (.t 10) (.c (.p (.int .i64 0)))⟩])
 (.cond (.t 11)
  (.seq (.reg [⟨(some 4), none, .mov (.c (.p (.int .i64 (-1))))⟩])
  (.ret))
  (.skip)))
 (.seq (.reg [⟨(some 12), none, .fldA 2 (.t 2)⟩,
   ⟨(some 13), none, .ld none (.t 12)⟩,
   ⟨(some 14), none, .mov (.t 1)⟩,
   ⟨(some 15), none, .call n_laws_szExprS [(.t 13), (.t 14)]⟩,
   ⟨(some 1), none, .mov (.t 15)⟩])
 (.seq (.seq (.reg [⟨(some 16), none, .mov (.t 1)⟩,
   ⟨(some 17), none, .bin .lss (.t 16) (.c (.p (.int .i64 0)))⟩])
 (.cond (.t 17)
  (.seq (.reg [⟨(some 4), none, .mov (.c (.p (.int .i64 (-1))))⟩])
  (.ret))
  (.skip)))
 (.seq (.reg [⟨(some 18), none, .fldA 3 (.t 2)⟩,
   ⟨(some 19), none, .ld none (.t 18)⟩,
   ⟨(some 20), none, .mov (.t 1)⟩,
   ⟨(some 21), none, .call n_laws_szStmtS [(.t 19), (.t 20)]⟩,
   ⟨(some 1), none, .mov (.t 21)⟩])
 (.seq (.seq (.reg [⟨(some 22), none, .mov (.t 1)⟩,
   ⟨(some 23), none, .bin .lss (.t 22) (.c (.p (.int .i64 0)))⟩])
 (.cond (.t 23)
  (.seq (.reg [⟨(some 4), none, .mov (.c (.p (.int .i64 (-1))))⟩])
  (.ret))
  (.skip)))
 (.seq (.reg [⟨(some 24), none, .fldA 4 (.t 2)⟩,
   ⟨(some 25), none, .ld none (.t 24)⟩,
   ⟨(some 26), none, .mov (.t 1)⟩,
   ⟨(some 27), none, .call n_laws_szStmtS [(.t 25), (.t 26)]⟩,
   ⟨(some 1), none, .mov (.t 27)⟩])
 (.seq (.seq (.reg [⟨(some 28), none, .mov (.t 1)⟩,
   ⟨(some 29), none, .bin .lss (.t 28) (.c (.p (.int .i64 0)))⟩])
 (.cond (.t 29)
  (.seq (.reg [⟨(some 4), none, .mov (.c (.p (.int .i64 (-1))))⟩])
  (.ret))
  (.skip)))
 (.seq (.reg [⟨(some 30), none, .mov (.t 1)⟩,
   ⟨(some 4), none, .mov (.t 30)⟩])
 (.ret))))))))))⟩
theorem k_laws_szStmt : compF Tryd.prog n_laws_szStmt = some F_laws_szStmt := by kernel_rfl
def F_laws_szStmtS : FK := ⟨27, [.t 4],
 .seq (.reg [⟨(some 4), none, .mov (.c (.p (.int .i64 0)))⟩])
 (.seq (.reg [⟨(some 6), none, .mov (.t 1)⟩,
   ⟨(some 7), none, .mov (.t 0)⟩,
   ⟨(some 8), none, .len false (.t 7)⟩,
   ⟨(some 9), none, .bin .sub (.t 6) (.t 8)⟩,
   ⟨(some 1), none, .mov (.t 9)⟩])
 (.seq (.seq (.reg [⟨(some 10), none, .mov (.t 1)⟩,
   ⟨(some 11), none, .bin .lss (.t 10) (.c (.p (.int .i64 0)))⟩])
 (.cond (.t 11)
  (.seq (.reg [⟨(some 4), none, .mov (.c (.p (.int .i64 (-1))))⟩])
  (.ret))
  (.skip)))
 (.seq (.seq (.reg [⟨(some 5), none, .mov (.c (.p (.int .i64 0)))⟩])
 (.blk 0 (.loop (.seq (.seq (.reg [⟨(some 12), none, .mov (.t 5)⟩,
   ⟨(some 13), none, .mov (.t 0)⟩,
   ⟨(some 14), none, .len false (.t 13)⟩,
   ⟨(some 15), none, .bin .lss (.t 12) (.t 14)⟩])
 (.cond (.t 15)
  (.skip)
  (.exit 0)))
 (.seq (.blk 1 (.seq (.reg [⟨(some 18), none, .mov (.t 0)⟩,
   ⟨(some 19), none, .mov (.t 5)⟩,
   ⟨(some 20), none, .idxS 5 (.t 18) (.t 19)⟩,
   ⟨(some 21), none, .ld (some 5) (.t 20)⟩,
   ⟨(some 22), none, .mov (.t 1)⟩,
   ⟨(some 23), none, .call n_laws_szStmt [(.t 21), (.t 22)]⟩,
   ⟨(some 1), none, .mov (.t 23)⟩])
 (.seq (.reg [⟨(some 24), none, .mov (.t 1)⟩,
   ⟨(some 25), none, .bin .lss (.t 24) (.c (.p (.int .i64 0)))⟩])
 (.cond (.t 25)
  (.seq (.reg [⟨(some 4), none, .mov (.c (.p (.int .i64 (-1))))⟩])
  (.ret))
  (.skip)))))
 (.reg [⟨(some 16), none, .mov (.t 5)⟩,
   ⟨(some 17), none, .bin .add (.t 16) (.c (.p (.int .i64 1)))⟩,
   ⟨(some 5), none, .mov (.t 17)⟩]))))))
 (.seq (.reg [⟨(some 26), none, .mov (.t 1)⟩,
   ⟨(some 4), none, .mov (.t 26)⟩])
 (.ret)))))⟩
theorem k_laws_szStmtS : compF Tryd.prog n_laws_szStmtS = some F_laws_szStmtS := by kernel_rfl
def F_laws_szFn : FK := ⟨25, [.t 4],
 .seq (.reg [⟨(some 2), none, .box 3 (.t 0)⟩,
   ⟨(some 4), none, .mov (.c (.p (.int .i64 0)))⟩])
 (.seq (.reg [⟨(some 5), none, .mov (.t 1)⟩,
   ⟨(some 6), none, .fldA 0 (.t 2)⟩,
   ⟨(some 7), none, .ld none (.t 6)⟩,
   ⟨(some 8), none, .len true (.t 7)⟩,
   ⟨(some 9), none, .bin .sub (.t 5) (.t 8)⟩,
   ⟨(some 1), none, .mov (.t 9)⟩])
 (.seq (.seq (.reg [⟨(some 10), none, .mov (.t 1)⟩,
   ⟨(some 11), none, .bin .lss (.t 10) (.c (.p (.int .i64 0)))⟩])
 (.cond (.t 11)
  (.seq (.reg [⟨(some 4), none, .mov (.c (.p (.int .i64 (-1))))⟩])
  (.ret))
  (.skip)))
 (.seq (.reg [⟨(some 12), none, .fldA 1 (.t 2)⟩,
   ⟨(some 13), none, .ld none (.t 12)⟩,
   ⟨(some 14), none, .mov (.t 1)⟩,
   ⟨(some 15), none, .call n_laws_szStringS [(.t 13), (.t 14)]⟩,
   ⟨(some 1), none, .mov (.t 15)⟩])
 (.seq (.seq (.reg [⟨(some 16), none, .mov (.t 1)⟩,
   ⟨(some 17), none, .bin .lss (.t 16) (.c (.p (.int .i64 0)))⟩])
 (.cond (.t 17)
  (.seq (.reg [⟨(some 4), none, .mov (.c (.p (.int .i64 (-1))))⟩])
  (.ret))
  (.skip)))
 (.seq (.reg [⟨(some 18), none, .fldA 2 (.t 2)⟩,
   ⟨(some 19), none, .ld none (.t 18)⟩,
   ⟨(some 20), none, .mov (.t 1)⟩,
   ⟨(some 21), none, .call n_laws_szStmtS [(.t 19), (.t 20)]⟩,
   ⟨(some 1), none, .mov (.t 21)⟩])
 (.seq (.seq (.reg [⟨(some 22), none, .mov (.t 1)⟩,
   ⟨(some 23), none, .bin .lss (.t 22) (.c (.p (.int .i64 0)))⟩])
 (.cond (.t 23)
  (.seq (.reg [⟨(some 4), none, .mov (.c (.p (.int .i64 (-1))))⟩])
  (.ret))
  (.skip)))
 (.seq (.reg [⟨(some 24), none, .mov (.t 1)⟩,
   ⟨(some 4), none, .mov (.t 24)⟩])
 (.ret))))))))⟩
theorem k_laws_szFn : compF Tryd.prog n_laws_szFn = some F_laws_szFn := by kernel_rfl
def F_laws_szFnS : FK := ⟨27, [.t 4],
 .seq (.reg [⟨(some 4), none, .mov (.c (.p (.int .i64 0)))⟩])
 (.seq (.reg [⟨(some 6), none, .mov (.t 1)⟩,
   ⟨(some 7), none, .mov (.t 0)⟩,
   ⟨(some 8), none, .len false (.t 7)⟩,
   ⟨(some 9), none, .bin .sub (.t 6) (.t 8)⟩,
   ⟨(some 1), none, .mov (.t 9)⟩])
 (.seq (.seq (.reg [⟨(some 10), none, .mov (.t 1)⟩,
   ⟨(some 11), none, .bin .lss (.t 10) (.c (.p (.int .i64 0)))⟩])
 (.cond (.t 11)
  (.seq (.reg [⟨(some 4), none, .mov (.c (.p (.int .i64 (-1))))⟩])
  (.ret))
  (.skip)))
 (.seq (.seq (.reg [⟨(some 5), none, .mov (.c (.p (.int .i64 0)))⟩])
 (.blk 0 (.loop (.seq (.seq (.reg [⟨(some 12), none, .mov (.t 5)⟩,
   ⟨(some 13), none, .mov (.t 0)⟩,
   ⟨(some 14), none, .len false (.t 13)⟩,
   ⟨(some 15), none, .bin .lss (.t 12) (.t 14)⟩])
 (.cond (.t 15)
  (.skip)
  (.exit 0)))
 (.seq (.blk 1 (.seq (.reg [⟨(some 18), none, .mov (.t 0)⟩,
   ⟨(some 19), none, .mov (.t 5)⟩,
   ⟨(some 20), none, .idxS 3 (.t 18) (.t 19)⟩,
   ⟨(some 21), none, .ld (some 3) (.t 20)⟩,
   ⟨(some 22), none, .mov (.t 1)⟩,
   ⟨(some 23), none, .call n_laws_szFn [(.t 21), (.t 22)]⟩,
   ⟨(some 1), none, .mov (.t 23)⟩])
 (.seq (.reg [⟨(some 24), none, .mov (.t 1)⟩,
   ⟨(some 25), none, .bin .lss (.t 24) (.c (.p (.int .i64 0)))⟩])
 (.cond (.t 25)
  (.seq (.reg [⟨(some 4), none, .mov (.c (.p (.int .i64 (-1))))⟩])
  (.ret))
  (.skip)))))
 (.reg [⟨(some 16), none, .mov (.t 5)⟩,
   ⟨(some 17), none, .bin .add (.t 16) (.c (.p (.int .i64 1)))⟩,
   ⟨(some 5), none, .mov (.t 17)⟩]))))))
 (.seq (.reg [⟨(some 26), none, .mov (.t 1)⟩,
   ⟨(some 4), none, .mov (.t 26)⟩])
 (.ret)))))⟩
theorem k_laws_szFnS : compF Tryd.prog n_laws_szFnS = some F_laws_szFnS := by kernel_rfl
def F_laws_szProgram : FK := ⟨12, [.t 4],
 .seq (.reg [⟨(some 2), none, .box 1 (.t 0)⟩,
   ⟨(some 4), none, .mov (.c (.p (.int .i64 0)))⟩])
 (.seq (.reg [⟨(some 5), none, .fldA 0 (.t 2)⟩,
   ⟨(some 6), none, .ld none (.t 5)⟩,
   ⟨(some 7), none, .mov (.t 1)⟩,
   ⟨(some 8), none, .call n_laws_szFnS [(.t 6), (.t 7)]⟩,
   ⟨(some 1), none, .mov (.t 8)⟩])
 (.seq (.seq (.reg [⟨(some 9), none, .mov (.t 1)⟩,
   ⟨(some 10), none, .bin .lss (.t 9) (.c (.p (.int .i64 0)))⟩])
 (.cond (.t 10)
  (.seq (.reg [⟨(some 4), none, .mov (.c (.p (.int .i64 (-1))))⟩])
  (.ret))
  (.skip)))
 (.seq (.reg [⟨(some 11), none, .mov (.t 1)⟩,
   ⟨(some 4), none, .mov (.t 11)⟩])
 (.ret))))⟩
theorem k_laws_szProgram : compF Tryd.prog n_laws_szProgram = some F_laws_szProgram := by kernel_rfl
def F_laws_toStringS : FK := ⟨22, [.t 2],
 .seq (.reg [⟨(some 2), none, .mov (.c .nils)⟩])
 (.seq (.reg [⟨(some 5), none, .mov (.t 0)⟩,
   ⟨(some 6), none, .len false (.t 5)⟩,
   ⟨(some 7), none, .mks 1 16 [(.p (.str []))] (.t 6) (.t 6)⟩,
   ⟨(some 3), none, .mov (.t 7)⟩])
 (.seq (.seq (.reg [⟨(some 4), none, .mov (.c (.p (.int .i64 0)))⟩])
 (.blk 0 (.loop (.seq (.seq (.reg [⟨(some 8), none, .mov (.t 4)⟩,
   ⟨(some 9), none, .mov (.t 0)⟩,
   ⟨(some 10), none, .len false (.t 9)⟩,
   ⟨(some 11), none, .bin .lss (.t 8) (.t 10)⟩])
 (.cond (.t 11)
  (.skip)
  (.exit 0)))
 (.seq (.blk 1 (.reg [⟨(some 14), none, .mov (.t 3)⟩,
   ⟨(some 15), none, .mov (.t 4)⟩,
   ⟨(some 16), none, .mov (.t 0)⟩,
   ⟨(some 17), none, .mov (.t 4)⟩,
   ⟨(some 18), none, .idxS 1 (.t 16) (.t 17)⟩,
   ⟨(some 19), none, .ld none (.t 18)⟩,
   ⟨(some 20), none, .idxS 1 (.t 14) (.t 15)⟩,
   ⟨none, none, .st 1 (.t 20) (.t 19)⟩]))
 (.reg [⟨(some 12), none, .mov (.t 4)⟩,
   ⟨(some 13), none, .bin .add (.t 12) (.c (.p (.int .i64 1)))⟩,
   ⟨(some 4), none, .mov (.t 13)⟩]))))))
 (.seq (.reg [⟨(some 21), none, .mov (.t 3)⟩,
   ⟨(some 2), none, .mov (.t 21)⟩])
 (.ret))))⟩
theorem k_laws_toStringS : compF Tryd.prog n_laws_toStringS = some F_laws_toStringS := by kernel_rfl
def F_laws_toExpr : FK := ⟨18, [.c 2 (some 4)],
 .seq (.reg [⟨(some 1), none, .box 4 (.t 0)⟩,
   ⟨(some 2), none, .alloc [(.p (.int .i64 0)), (.p (.int .i64 0)), (.p (.str [])), .nils]⟩])
 (.seq (.reg [⟨(some 3), none, .alloc [(.p (.int .i64 0)), (.p (.int .i64 0)), (.p (.str [])), .nils]⟩])
 (.seq (.reg [⟨(some 4), none, .fldA 0 (.t 1)⟩,
   ⟨(some 5), none, .ld none (.t 4)⟩,
   ⟨(some 6), none, .fldA 0 (.t 3)⟩,
   ⟨none, none, .st 1 (.t 6) (.t 5)⟩])
 (.seq (.reg [⟨(some 7), none, .fldA 1 (.t 1)⟩,
   ⟨(some 8), none, .ld none (.t 7)⟩,
   ⟨(some 9), none, .fldA 1 (.t 3)⟩,
   ⟨none, none, .st 1 (.t 9) (.t 8)⟩])
 (.seq (.reg [⟨(some 10), none, .fldA 2 (.t 1)⟩,
   ⟨(some 11), none, .ld none (.t 10)⟩,
   ⟨(some 12), none, .fldA 2 (.t 3)⟩,
   ⟨none, none, .st 1 (.t 12) (.t 11)⟩])
 (.seq (.reg [⟨(some 13), none, .fldA 3 (.t 1)⟩,
   ⟨(some 14), none, .ld none (.t 13)⟩,
   ⟨(some 15), none, .call n_laws_toExprS [(.t 14)]⟩,
   ⟨(some 16), none, .fldA 3 (.t 3)⟩,
   ⟨none, none, .st 1 (.t 16) (.t 15)⟩])
 (.seq (.reg [⟨(some 17), none, .ld (some 4) (.t 3)⟩,
   ⟨none, none, .st 4 (.t 2) (.t 17)⟩])
 (.ret)))))))⟩
theorem k_laws_toExpr : compF Tryd.prog n_laws_toExpr = some F_laws_toExpr := by kernel_rfl
def F_laws_toExprS : FK := ⟨23, [.t 2],
 .seq (.reg [⟨(some 2), none, .mov (.c .nils)⟩])
 (.seq (.reg [⟨(some 5), none, .mov (.t 0)⟩,
   ⟨(some 6), none, .len false (.t 5)⟩,
   ⟨(some 7), none, .mks 4 56 [(.p (.int .i64 0)), (.p (.int .i64 0)), (.p (.str [])), .nils] (.t 6) (.t 6)⟩,
   ⟨(some 3), none, .mov (.t 7)⟩])
 (.seq (.seq (.reg [⟨(some 4), none, .mov (.c (.p (.int .i64 0)))⟩])
 (.blk 0 (.loop (.seq (.seq (.reg [⟨(some 8), none, .mov (.t 4)⟩,
   ⟨(some 9), none, .mov (.t 0)⟩,
   ⟨(some 10), none, .len false (.t 9)⟩,
   ⟨(some 11), none, .bin .lss (.t 8) (.t 10)⟩])
 (.cond (.t 11)
  (.skip)
  (.exit 0)))
 (.seq (.blk 1 (.reg [⟨(some 14), none, .mov (.t 3)⟩,
   ⟨(some 15), none, .mov (.t 4)⟩,
   ⟨(some 16), none, .mov (.t 0)⟩,
   ⟨(some 17), none, .mov (.t 4)⟩,
   ⟨(some 18), none, .idxS 4 (.t 16) (.t 17)⟩,
   ⟨(some 19), none, .ld (some 4) (.t 18)⟩,
   ⟨(some 20), none, .call n_laws_toExpr [(.t 19)]⟩,
   ⟨(some 21), none, .idxS 4 (.t 14) (.t 15)⟩,
   ⟨none, none, .st 4 (.t 21) (.t 20)⟩]))
 (.reg [⟨(some 12), none, .mov (.t 4)⟩,
   ⟨(some 13), none, .bin .add (.t 12) (.c (.p (.int .i64 1)))⟩,
   ⟨(some 4), none, .mov (.t 13)⟩]))))))
 (.seq (.reg [⟨(some 22), none, .mov (.t 3)⟩,
   ⟨(some 2), none, .mov (.t 22)⟩])
 (.ret))))⟩
theorem k_laws_toExprS : compF Tryd.prog n_laws_toExprS = some F_laws_toExprS := by kernel_rfl
def F_laws_toStmt : FK := ⟨23, [.c 2 (some 5)],
 .seq (.reg [⟨(some 1), none, .box 5 (.t 0)⟩,
   ⟨(some 2), none, .alloc [(.p (.int .i64 0)), (.p (.str [])), .nils, .nils, .nils]⟩])
 (.seq (.reg [⟨(some 3), none, .alloc [(.p (.int .i64 0)), (.p (.str [])), .nils, .nils, .nils]⟩])
 (.seq (.reg [⟨(some 4), none, .fldA 0 (.t 1)⟩,
   ⟨(some 5), none, .ld none (.t 4)⟩,
   ⟨(some 6), none, .fldA 0 (.t 3)⟩,
   ⟨none, none, .st 1 (.t 6) (.t 5)⟩])
 (.seq (.reg [⟨(some 7), none, .fldA 1 (.t 1)⟩,
   ⟨(some 8), none, .ld none (.t 7)⟩,
   ⟨(some 9), none, .fldA 1 (.t 3)⟩,
   ⟨none, none, .st 1 (.t 9) (.t 8)⟩])
 (.seq (.reg [⟨(some 10), none, .fldA 2 (.t 1)⟩,
   ⟨(some 11), none, .ld none (.t 10)⟩,
   ⟨(some 12), none, .call n_laws_toExprS [(.t 11)]⟩,
   ⟨(some 13), none, .fldA 2 (.t 3)⟩,
   ⟨none, none, .st 1 (.t 13) (.t 12)⟩])
 (.seq (.reg [⟨(some 14), none, .fldA 3 (.t 1)⟩,
   ⟨(some 15), none, .ld none (.t 14)⟩,
   ⟨(some 16), none, .call n_laws_toStmtS [(.t 15)]⟩,
   ⟨(some 17), none, .fldA 3 (.t 3)⟩,
   ⟨none, none, .st 1 (.t 17) (.t 16)⟩])
 (.seq (.reg [⟨(some 18), none, .fldA 4 (.t 1)⟩,
   ⟨(some 19), none, .ld none (.t 18)⟩,
   ⟨(some 20), none, .call n_laws_toStmtS [(.t 19)]⟩,
   ⟨(some 21), none, .fldA 4 (.t 3)⟩,
   ⟨none, none, .st 1 (.t 21) (.t 20)⟩])
 (.seq (.reg [⟨(some 22), none, .ld (some 5) (.t 3)⟩,
   ⟨none, none, .st 5 (.t 2) (.t 22)⟩])
 (.ret))))))))⟩
theorem k_laws_toStmt : compF Tryd.prog n_laws_toStmt = some F_laws_toStmt := by kernel_rfl
def F_laws_toStmtS : FK := ⟨23, [.t 2],
 .seq (.reg [⟨(some 2), none, .mov (.c .nils)⟩])
 (.seq (.reg [⟨(some 5), none, .mov (.t 0)⟩,
   ⟨(some 6), none, .len false (.t 5)⟩,
   ⟨(some 7), none, .mks 5 96 [(.p (.int .i64 0)), (.p (.str [])), .nils, .nils, .nils] (.t 6) (.t 6)⟩,
   ⟨(some 3), none, .mov (.t 7)⟩])
 (.seq (.seq (.reg [⟨(some 4), none, .mov (.c (.p (.int .i64 0)))⟩])
 (.blk 0 (.loop (.seq (.seq (.reg [⟨(some 8), none, .mov (.t 4)⟩,
   ⟨(some 9), none, .mov (.t 0)⟩,
   ⟨(some 10), none, .len false (.t 9)⟩,
   ⟨(some 11), none, .bin .lss (.t 8) (.t 10)⟩])
 (.cond (.t 11)
  (.skip)
  (.exit 0)))
 (.seq (.blk 1 (.reg [⟨(some 14), none, .mov (.t 3)⟩,
   ⟨(some 15), none, .mov (.t 4)⟩,
   ⟨(some 16), none, .mov (.t 0)⟩,
   ⟨(some 17), none, .mov (.t 4)⟩,
   ⟨(some 18), none, .idxS 5 (.t 16) (.t 17)⟩,
   ⟨(some 19), none, .ld (some 5) (.t 18)⟩,
   ⟨(some 20), none, .call n_laws_toStmt [(.t 19)]⟩,
   ⟨(some 21), none, .idxS 5 (.t 14) (.t 15)⟩,
   ⟨none, none, .st 5 (.t 21) (.t 20)⟩]))
 (.reg [⟨(some 12), none, .mov (.t 4)⟩,
   ⟨(some 13), none, .bin .add (.t 12) (.c (.p (.int .i64 1)))⟩,
   ⟨(some 4), none, .mov (.t 13)⟩]))))))
 (.seq (.reg [⟨(some 22), none, .mov (.t 3)⟩,
   ⟨(some 2), none, .mov (.t 22)⟩])
 (.ret))))⟩
theorem k_laws_toStmtS : compF Tryd.prog n_laws_toStmtS = some F_laws_toStmtS := by kernel_rfl
def F_laws_toFn : FK := ⟨16, [.c 2 (some 3)],
 .seq (.reg [⟨(some 1), none, .box 3 (.t 0)⟩,
   ⟨(some 2), none, .alloc [(.p (.str [])), .nils, .nils]⟩])
 (.seq (.reg [⟨(some 3), none, .alloc [(.p (.str [])), .nils, .nils]⟩])
 (.seq (.reg [⟨(some 4), none, .fldA 0 (.t 1)⟩,
   ⟨(some 5), none, .ld none (.t 4)⟩,
   ⟨(some 6), none, .fldA 0 (.t 3)⟩,
   ⟨none, none, .st 1 (.t 6) (.t 5)⟩])
 (.seq (.reg [⟨(some 7), none, .fldA 1 (.t 1)⟩,
   ⟨(some 8), none, .ld none (.t 7)⟩,
   ⟨(some 9), none, .call n_laws_toStringS [(.t 8)]⟩,
   ⟨(some 10), none, .fldA 1 (.t 3)⟩,
   ⟨none, none, .st 1 (.t 10) (.t 9)⟩])
 (.seq (.reg [⟨(some 11), none, .fldA 2 (.t 1)⟩,
   ⟨(some 12), none, .ld none (.t 11)⟩,
   ⟨(some 13), none, .call n_laws_toStmtS [(.t 12)]⟩,
   ⟨(some 14), none, .fldA 2 (.t 3)⟩,
   ⟨none, none, .st 1 (.t 14) (.t 13)⟩])
 (.seq (.reg [⟨(some 15), none, .ld (some 3) (.t 3)⟩,
   ⟨none, none, .st 3 (.t 2) (.t 15)⟩])
 (.ret))))))⟩
theorem k_laws_toFn : compF Tryd.prog n_laws_toFn = some F_laws_toFn := by kernel_rfl
def F_laws_toFnS : FK := ⟨23, [.t 2],
 .seq (.reg [⟨(some 2), none, .mov (.c .nils)⟩])
 (.seq (.reg [⟨(some 5), none, .mov (.t 0)⟩,
   ⟨(some 6), none, .len false (.t 5)⟩,
   ⟨(some 7), none, .mks 3 64 [(.p (.str [])), .nils, .nils] (.t 6) (.t 6)⟩,
   ⟨(some 3), none, .mov (.t 7)⟩])
 (.seq (.seq (.reg [⟨(some 4), none, .mov (.c (.p (.int .i64 0)))⟩])
 (.blk 0 (.loop (.seq (.seq (.reg [⟨(some 8), none, .mov (.t 4)⟩,
   ⟨(some 9), none, .mov (.t 0)⟩,
   ⟨(some 10), none, .len false (.t 9)⟩,
   ⟨(some 11), none, .bin .lss (.t 8) (.t 10)⟩])
 (.cond (.t 11)
  (.skip)
  (.exit 0)))
 (.seq (.blk 1 (.reg [⟨(some 14), none, .mov (.t 3)⟩,
   ⟨(some 15), none, .mov (.t 4)⟩,
   ⟨(some 16), none, .mov (.t 0)⟩,
   ⟨(some 17), none, .mov (.t 4)⟩,
   ⟨(some 18), none, .idxS 3 (.t 16) (.t 17)⟩,
   ⟨(some 19), none, .ld (some 3) (.t 18)⟩,
   ⟨(some 20), none, .call n_laws_toFn [(.t 19)]⟩,
   ⟨(some 21), none, .idxS 3 (.t 14) (.t 15)⟩,
   ⟨none, none, .st 3 (.t 21) (.t 20)⟩]))
 (.reg [⟨(some 12), none, .mov (.t 4)⟩,
   ⟨(some 13), none, .bin .add (.t 12) (.c (.p (.int .i64 1)))⟩,
   ⟨(some 4), none, .mov (.t 13)⟩]))))))
 (.seq (.reg [⟨(some 22), none, .mov (.t 3)⟩,
   ⟨(some 2), none, .mov (.t 22)⟩])
 (.ret))))⟩
theorem k_laws_toFnS : compF Tryd.prog n_laws_toFnS = some F_laws_toFnS := by kernel_rfl
def F_laws_toProgram : FK := ⟨9, [.c 2 (some 1)],
 .seq (.reg [⟨(some 1), none, .box 1 (.t 0)⟩,
   ⟨(some 2), none, .alloc [.nils]⟩])
 (.seq (.reg [⟨(some 3), none, .alloc [.nils]⟩])
 (.seq (.reg [⟨(some 4), none, .fldA 0 (.t 1)⟩,
   ⟨(some 5), none, .ld none (.t 4)⟩,
   ⟨(some 6), none, .call n_laws_toFnS [(.t 5)]⟩,
   ⟨(some 7), none, .fldA 0 (.t 3)⟩,
   ⟨none, none, .st 1 (.t 7) (.t 6)⟩])
 (.seq (.reg [⟨(some 8), none, .ld (some 1) (.t 3)⟩,
   ⟨none, none, .st 1 (.t 2) (.t 8)⟩])
 (.ret))))⟩
theorem k_laws_toProgram : compF Tryd.prog n_laws_toProgram = some F_laws_toProgram := by kernel_rfl
def F_spec_l1In : FK := ⟨15, [.t 6],
 .seq (.reg [⟨(some 6), none, .mov (.c (.p (.bool false)))⟩])
 (.seq (.reg [⟨(some 7), none, .mov (.t 0)⟩,
   ⟨(some 8), none, .mov (.t 1)⟩,
   ⟨(some 9), none, .bin .geq (.t 7) (.t 8)⟩,
   ⟨(some 10), none, .mov (.t 9)⟩,
   ⟨(some 11), (some (10, true)), .mov (.t 0)⟩,
   ⟨(some 12), (some (10, true)), .mov (.t 2)⟩,
   ⟨(some 13), (some (10, true)), .bin .leq (.t 11) (.t 12)⟩,
   ⟨(some 14), none, .pick (.t 10) (.t 13) (.c (.p (.bool false)))⟩,
   ⟨(some 6), none, .mov (.t 14)⟩])
 (.ret))⟩
theorem k_spec_l1In : compF Tryd.prog n_spec_l1In = some F_spec_l1In := by kernel_rfl
def F_spec_l30Find : FK := ⟨18, [.t 4],
 .seq (.reg [⟨(some 4), none, .mov (.c (.p (.int .i64 0)))⟩])
 (.seq (.seq (.reg [⟨(some 5), none, .mov (.c (.p (.int .i64 0)))⟩])
 (.blk 0 (.loop (.seq (.seq (.reg [⟨(some 6), none, .mov (.t 5)⟩,
   ⟨(some 7), none, .mov (.t 0)⟩,
   ⟨(some 8), none, .len true (.t 7)⟩,
   ⟨(some 9), none, .bin .lss (.t 6) (.t 8)⟩])
 (.cond (.t 9)
  (.skip)
  (.exit 0)))
 (.seq (.blk 1 (.seq (.reg [⟨(some 12), none, .mov (.t 0)⟩,
   ⟨(some 13), none, .mov (.t 5)⟩,
   ⟨(some 14), none, .idxStr (.t 12) (.t 13)⟩,
   ⟨(some 15), none, .mov (.t 1)⟩,
   ⟨(some 16), none, .bin .eql (.t 14) (.t 15)⟩])
 (.cond (.t 16)
  (.seq (.reg [⟨(some 17), none, .mov (.t 5)⟩,
    ⟨(some 4), none, .mov (.t 17)⟩])
  (.ret))
  (.skip))))
 (.reg [⟨(some 10), none, .mov (.t 5)⟩,
   ⟨(some 11), none, .bin .add (.t 10) (.c (.p (.int .i64 1)))⟩,
   ⟨(some 5), none, .mov (.t 11)⟩]))))))
 (.seq (.reg [⟨(some 4), none, .mov (.c (.p (.int .i64 (-1))))⟩])
 (.ret)))⟩
theorem k_spec_l30Find : compF Tryd.prog n_spec_l30Find = some F_spec_l30Find := by kernel_rfl
def F_spec_l1Class : FK := ⟨28, [.t 2],
 .seq (.reg [⟨(some 2), none, .mov (.c (.p (.int .i64 0)))⟩])
 (.seq (.blk 0 (.seq (.reg [⟨(some 4), none, .mov (.t 0)⟩,
   ⟨(some 5), none, .bin .geq (.t 4) (.c (.p (.int .u8 97)))⟩,
   ⟨(some 6), none, .mov (.t 5)⟩,
   ⟨(some 7), (some (6, true)), .mov (.t 0)⟩,
   ⟨(some 8), (some (6, true)), .bin .leq (.t 7) (.c (.p (.int .u8 122)))⟩,
   ⟨(some 9), none, .pick (.t 6) (.t 8) (.c (.p (.bool false)))⟩,
   ⟨(some 3), none, .mov (.t 9)⟩])
 (.cond (.t 3)
  (.seq (.reg [⟨(some 2), none, .mov (.c (.p (.int .i64 1)))⟩])
  (.ret))
  (.seq (.reg [⟨(some 11), none, .mov (.t 0)⟩,
    ⟨(some 12), none, .bin .geq (.t 11) (.c (.p (.int .u8 48)))⟩,
    ⟨(some 13), none, .mov (.t 12)⟩,
    ⟨(some 14), (some (13, true)), .mov (.t 0)⟩,
    ⟨(some 15), (some (13, true)), .bin .leq (.t 14) (.c (.p (.int .u8 57)))⟩,
    ⟨(some 16), none, .pick (.t 13) (.t 15) (.c (.p (.bool false)))⟩,
    ⟨(some 10), none, .mov (.t 16)⟩])
  (.cond (.t 10)
   (.seq (.reg [⟨(some 2), none, .mov (.c (.p (.int .i64 2)))⟩])
   (.ret))
   (.seq (.reg [⟨(some 18), none, .mov (.t 0)⟩,
     ⟨(some 19), none, .call n_spec_l30Find [(.c (.p (.str [40, 41, 123, 125, 59, 44, 43, 45, 42, 47, 37, 60, 61, 38, 33, 64]))), (.t 18)]⟩,
     ⟨(some 20), none, .bin .geq (.t 19) (.c (.p (.int .i64 0)))⟩,
     ⟨(some 17), none, .mov (.t 20)⟩])
   (.cond (.t 17)
    (.seq (.reg [⟨(some 2), none, .mov (.c (.p (.int .i64 3)))⟩])
    (.ret))
    (.seq (.reg [⟨(some 22), none, .mov (.t 0)⟩,
      ⟨(some 23), none, .bin .eql (.t 22) (.c (.p (.int .u8 32)))⟩,
      ⟨(some 24), none, .mov (.t 23)⟩,
      ⟨(some 25), (some (24, false)), .mov (.t 0)⟩,
      ⟨(some 26), (some (24, false)), .bin .eql (.t 25) (.c (.p (.int .u8 10)))⟩,
      ⟨(some 27), none, .pick (.t 24) (.c (.p (.bool true))) (.t 26)⟩,
      ⟨(some 21), none, .mov (.t 27)⟩])
    (.cond (.t 21)
     (.seq (.reg [⟨(some 2), none, .mov (.c (.p (.int .i64 4)))⟩])
     (.ret))
     (.skip))))))))))
 (.seq (.reg [⟨(some 2), none, .mov (.c (.p (.int .i64 0)))⟩])
 (.ret)))⟩
theorem k_spec_l1Class : compF Tryd.prog n_spec_l1Class = some F_spec_l1Class := by kernel_rfl
def F_spec_l1All : FK := ⟨21, [.t 4],
 .seq (.reg [⟨(some 4), none, .mov (.c (.p (.bool false)))⟩])
 (.seq (.seq (.reg [⟨(some 5), none, .mov (.c (.p (.int .i64 0)))⟩])
 (.blk 0 (.loop (.seq (.seq (.reg [⟨(some 6), none, .mov (.t 5)⟩,
   ⟨(some 7), none, .mov (.t 0)⟩,
   ⟨(some 8), none, .len true (.t 7)⟩,
   ⟨(some 9), none, .bin .lss (.t 6) (.t 8)⟩])
 (.cond (.t 9)
  (.skip)
  (.exit 0)))
 (.seq (.blk 1 (.seq (.reg [⟨(some 12), none, .mov (.t 0)⟩,
   ⟨(some 13), none, .mov (.t 5)⟩,
   ⟨(some 14), none, .idxStr (.t 12) (.t 13)⟩,
   ⟨(some 15), none, .call n_spec_l1Class [(.t 14)]⟩,
   ⟨(some 16), none, .mov (.t 1)⟩,
   ⟨(some 17), none, .bin .neq (.t 15) (.t 16)⟩])
 (.cond (.t 17)
  (.seq (.reg [⟨(some 4), none, .mov (.c (.p (.bool false)))⟩])
  (.ret))
  (.skip))))
 (.reg [⟨(some 10), none, .mov (.t 5)⟩,
   ⟨(some 11), none, .bin .add (.t 10) (.c (.p (.int .i64 1)))⟩,
   ⟨(some 5), none, .mov (.t 11)⟩]))))))
 (.seq (.reg [⟨(some 18), none, .mov (.t 0)⟩,
   ⟨(some 19), none, .len true (.t 18)⟩,
   ⟨(some 20), none, .bin .gtr (.t 19) (.c (.p (.int .i64 0)))⟩,
   ⟨(some 4), none, .mov (.t 20)⟩])
 (.ret)))⟩
theorem k_spec_l1All : compF Tryd.prog n_spec_l1All = some F_spec_l1All := by kernel_rfl
def F_spec_KeyWords : FK := ⟨2, [.t 0],
 .seq (.reg [⟨(some 0), none, .mov (.c .nils)⟩])
 (.seq (.reg [⟨(some 1), none, .bsl 1 [(.p (.str []))] 9 [(0, 1, (.c (.p (.str [102, 110])))), (1, 1, (.c (.p (.str [108, 101, 116])))), (2, 1, (.c (.p (.str [115, 97, 121])))), (3, 1, (.c (.p (.str [112, 117, 116])))), (4, 1, (.c (.p (.str [105, 102])))), (5, 1, (.c (.p (.str [101, 108, 115, 101])))), (6, 1, (.c (.p (.str [108, 111, 111, 112])))), (7, 1, (.c (.p (.str [98, 97, 99, 107])))), (8, 1, (.c (.p (.str [100, 111]))))]⟩,
   ⟨(some 0), none, .mov (.t 1)⟩])
 (.ret))⟩
theorem k_spec_KeyWords : compF Tryd.prog n_spec_KeyWords = some F_spec_KeyWords := by kernel_rfl
def F_spec_l1Key : FK := ⟨18, [.t 2],
 .seq (.reg [⟨(some 2), none, .mov (.c (.p (.bool false)))⟩])
 (.seq (.reg [⟨(some 5), none, .call n_spec_KeyWords []⟩,
   ⟨(some 3), none, .mov (.t 5)⟩])
 (.seq (.seq (.reg [⟨(some 4), none, .mov (.c (.p (.int .i64 0)))⟩])
 (.blk 0 (.loop (.seq (.seq (.reg [⟨(some 6), none, .mov (.t 4)⟩,
   ⟨(some 7), none, .mov (.t 3)⟩,
   ⟨(some 8), none, .len false (.t 7)⟩,
   ⟨(some 9), none, .bin .lss (.t 6) (.t 8)⟩])
 (.cond (.t 9)
  (.skip)
  (.exit 0)))
 (.seq (.blk 1 (.seq (.reg [⟨(some 12), none, .mov (.t 3)⟩,
   ⟨(some 13), none, .mov (.t 4)⟩,
   ⟨(some 14), none, .idxS 1 (.t 12) (.t 13)⟩,
   ⟨(some 15), none, .ld none (.t 14)⟩,
   ⟨(some 16), none, .mov (.t 0)⟩,
   ⟨(some 17), none, .bins .eql (.t 15) (.t 16)⟩])
 (.cond (.t 17)
  (.seq (.reg [⟨(some 2), none, .mov (.c (.p (.bool true)))⟩])
  (.ret))
  (.skip))))
 (.reg [⟨(some 10), none, .mov (.t 4)⟩,
   ⟨(some 11), none, .bin .add (.t 10) (.c (.p (.int .i64 1)))⟩,
   ⟨(some 4), none, .mov (.t 11)⟩]))))))
 (.seq (.reg [⟨(some 2), none, .mov (.c (.p (.bool false)))⟩])
 (.ret))))⟩
theorem k_spec_l1Key : compF Tryd.prog n_spec_l1Key = some F_spec_l1Key := by kernel_rfl
def F_spec_IsName : FK := ⟨15, [.t 2],
 .seq (.reg [⟨(some 2), none, .mov (.c (.p (.bool false)))⟩])
 (.seq (.reg [⟨(some 3), none, .mov (.t 0)⟩,
   ⟨(some 4), none, .call n_spec_l1All [(.t 3), (.c (.p (.int .i64 1)))]⟩,
   ⟨(some 5), none, .mov (.t 4)⟩,
   ⟨(some 6), (some (5, true)), .mov (.t 0)⟩,
   ⟨(some 7), (some (5, true)), .len true (.t 6)⟩,
   ⟨(some 8), (some (5, true)), .bin .leq (.t 7) (.c (.p (.int .i64 4)))⟩,
   ⟨(some 9), none, .pick (.t 5) (.t 8) (.c (.p (.bool false)))⟩,
   ⟨(some 10), none, .mov (.t 9)⟩,
   ⟨(some 11), (some (10, true)), .mov (.t 0)⟩,
   ⟨(some 12), (some (10, true)), .call n_spec_l1Key [(.t 11)]⟩,
   ⟨(some 13), (some (10, true)), .not (.t 12)⟩,
   ⟨(some 14), none, .pick (.t 10) (.t 13) (.c (.p (.bool false)))⟩,
   ⟨(some 2), none, .mov (.t 14)⟩])
 (.ret))⟩
theorem k_spec_IsName : compF Tryd.prog n_spec_IsName = some F_spec_IsName := by kernel_rfl
def F_spec_l3Args : FK := ⟨5, [.t 2],
 .seq (.reg [⟨(some 2), none, .mov (.c (.p (.int .i64 0)))⟩])
 (.seq (.seq (.reg [⟨(some 3), none, .mov (.t 0)⟩,
   ⟨(some 4), none, .bin .eql (.t 3) (.c (.p (.int .i64 4)))⟩])
 (.cond (.t 4)
  (.seq (.reg [⟨(some 2), none, .mov (.c (.p (.int .i64 2)))⟩])
  (.ret))
  (.skip)))
 (.seq (.reg [⟨(some 2), none, .mov (.c (.p (.int .i64 1)))⟩])
 (.ret)))⟩
theorem k_spec_l3Args : compF Tryd.prog n_spec_l3Args = some F_spec_l3Args := by kernel_rfl
def F_spec_l2Kids : FK := ⟨13, [.t 2, .t 3],
 .seq (.reg [⟨(some 2), none, .mov (.c (.p (.int .i64 0)))⟩,
   ⟨(some 3), none, .mov (.c (.p (.int .i64 0)))⟩])
 (.seq (.seq (.reg [⟨(some 4), none, .mov (.t 0)⟩])
 (.blk 0 (.seq (.seq (.reg [⟨(some 6), none, .bin .eql (.t 4) (.c (.p (.int .i64 1)))⟩,
   ⟨(some 5), none, .mov (.t 6)⟩])
 (.cond (.t 5)
  (.skip)
  (.reg [⟨(some 7), none, .bin .eql (.t 4) (.c (.p (.int .i64 2)))⟩,
    ⟨(some 5), none, .mov (.t 7)⟩])))
 (.cond (.t 5)
  (.seq (.reg [⟨(some 2), none, .mov (.c (.p (.int .i64 0)))⟩,
    ⟨(some 3), none, .mov (.c (.p (.int .i64 0)))⟩])
  (.ret))
  (.seq (.seq (.reg [⟨(some 9), none, .bin .eql (.t 4) (.c (.p (.int .i64 11)))⟩,
    ⟨(some 8), none, .mov (.t 9)⟩])
  (.cond (.t 8)
   (.skip)
   (.reg [⟨(some 10), none, .bin .eql (.t 4) (.c (.p (.int .i64 12)))⟩,
     ⟨(some 8), none, .mov (.t 10)⟩])))
  (.cond (.t 8)
   (.seq (.reg [⟨(some 2), none, .mov (.c (.p (.int .i64 1)))⟩,
     ⟨(some 3), none, .mov (.c (.p (.int .i64 1)))⟩])
   (.ret))
   (.seq (.reg [⟨(some 12), none, .bin .eql (.t 4) (.c (.p (.int .i64 13)))⟩,
     ⟨(some 11), none, .mov (.t 12)⟩])
   (.cond (.t 11)
    (.seq (.reg [⟨(some 2), none, .mov (.c (.p (.int .i64 0)))⟩,
      ⟨(some 3), none, .mov (.c (.p (.int .i64 3)))⟩])
    (.ret))
    (.skip)))))))))
 (.seq (.reg [⟨(some 2), none, .mov (.c (.p (.int .i64 2)))⟩,
   ⟨(some 3), none, .mov (.c (.p (.int .i64 2)))⟩])
 (.ret)))⟩
theorem k_spec_l2Kids : compF Tryd.prog n_spec_l2Kids = some F_spec_l2Kids := by kernel_rfl
def F_spec_l2Form : FK := ⟨86, [.t 4],
 .seq (.reg [⟨(some 2), none, .box 4 (.t 0)⟩,
   ⟨(some 4), none, .mov (.c (.p (.bool false)))⟩])
 (.seq (.reg [⟨(some 10), none, .fldA 0 (.t 2)⟩,
   ⟨(some 11), none, .ld none (.t 10)⟩,
   ⟨(some 12), none, .call n_spec_l2Kids [(.t 11)]⟩,
   ⟨(some 9), none, .mov (.t 12)⟩,
   ⟨(some 13), none, .ext 0 (.t 9)⟩,
   ⟨(some 14), none, .ext 1 (.t 9)⟩,
   ⟨(some 5), none, .mov (.t 13)⟩,
   ⟨(some 6), none, .mov (.t 14)⟩])
 (.seq (.seq (.reg [⟨(some 15), none, .mov (.t 1)⟩,
   ⟨(some 16), none, .bin .lss (.t 15) (.c (.p (.int .i64 1)))⟩,
   ⟨(some 17), none, .mov (.t 16)⟩,
   ⟨(some 18), (some (17, false)), .fldA 0 (.t 2)⟩,
   ⟨(some 19), (some (17, false)), .ld none (.t 18)⟩,
   ⟨(some 20), (some (17, false)), .call n_spec_l1In [(.t 19), (.c (.p (.int .i64 1))), (.c (.p (.int .i64 13)))]⟩,
   ⟨(some 21), (some (17, false)), .not (.t 20)⟩,
   ⟨(some 22), none, .pick (.t 17) (.c (.p (.bool true))) (.t 21)⟩,
   ⟨(some 23), none, .mov (.t 22)⟩,
   ⟨(some 24), (some (23, false)), .fldA 3 (.t 2)⟩,
   ⟨(some 25), (some (23, false)), .ld none (.t 24)⟩,
   ⟨(some 26), (some (23, false)), .len false (.t 25)⟩,
   ⟨(some 27), (some (23, false)), .mov (.t 5)⟩,
   ⟨(some 28), (some (23, false)), .mov (.t 6)⟩,
   ⟨(some 29), (some (23, false)), .call n_spec_l1In [(.t 26), (.t 27), (.t 28)]⟩,
   ⟨(some 30), (some (23, false)), .not (.t 29)⟩,
   ⟨(some 31), none, .pick (.t 23) (.c (.p (.bool true))) (.t 30)⟩])
 (.cond (.t 31)
  (.seq (.reg [⟨(some 4), none, .mov (.c (.p (.bool false)))⟩])
  (.ret))
  (.skip)))
 (.seq (.reg [⟨(some 32), none, .fldA 0 (.t 2)⟩,
   ⟨(some 33), none, .ld none (.t 32)⟩,
   ⟨(some 34), none, .bin .eql (.t 33) (.c (.p (.int .i64 2)))⟩,
   ⟨(some 35), none, .mov (.t 34)⟩,
   ⟨(some 36), (some (35, false)), .fldA 0 (.t 2)⟩,
   ⟨(some 37), (some (35, false)), .ld none (.t 36)⟩,
   ⟨(some 38), (some (35, false)), .bin .eql (.t 37) (.c (.p (.int .i64 13)))⟩,
   ⟨(some 39), none, .pick (.t 35) (.c (.p (.bool true))) (.t 38)⟩,
   ⟨(some 7), none, .mov (.t 39)⟩])
 (.seq (.seq (.reg [⟨(some 40), none, .mov (.t 7)⟩,
   ⟨(some 41), none, .fldA 2 (.t 2)⟩,
   ⟨(some 42), none, .ld none (.t 41)⟩,
   ⟨(some 43), none, .call n_spec_IsName [(.t 42)]⟩,
   ⟨(some 44), none, .beq true (.t 40) (.t 43)⟩,
   ⟨(some 45), none, .mov (.t 44)⟩,
   ⟨(some 46), (some (45, false)), .mov (.t 7)⟩,
   ⟨(some 47), (some (45, false)), .not (.t 46)⟩,
   ⟨(some 48), (some (45, false)), .mov (.t 47)⟩,
   ⟨(some 49), (some (48, true)), .fldA 2 (.t 2)⟩,
   ⟨(some 50), (some (48, true)), .ld none (.t 49)⟩,
   ⟨(some 51), (some (48, true)), .bins .neq (.t 50) (.c (.p (.str [])))⟩,
   ⟨(some 52), (some (45, false)), .pick (.t 48) (.t 51) (.c (.p (.bool false)))⟩,
   ⟨(some 53), none, .pick (.t 45) (.c (.p (.bool true))) (.t 52)⟩,
   ⟨(some 54), none, .mov (.t 53)⟩,
   ⟨(some 55), (some (54, false)), .fldA 1 (.t 2)⟩,
   ⟨(some 56), (some (54, false)), .ld none (.t 55)⟩,
   ⟨(some 57), (some (54, false)), .call n_spec_l1In [(.t 56), (.c (.p (.int .i64 0))), (.c (.p (.int .i64 255)))]⟩,
   ⟨(some 58), (some (54, false)), .not (.t 57)⟩,
   ⟨(some 59), none, .pick (.t 54) (.c (.p (.bool true))) (.t 58)⟩,
   ⟨(some 60), none, .mov (.t 59)⟩,
   ⟨(some 61), (some (60, false)), .fldA 0 (.t 2)⟩,
   ⟨(some 62), (some (60, false)), .ld none (.t 61)⟩,
   ⟨(some 63), (some (60, false)), .bin .neq (.t 62) (.c (.p (.int .i64 1)))⟩,
   ⟨(some 64), (some (60, false)), .mov (.t 63)⟩,
   ⟨(some 65), (some (64, true)), .fldA 1 (.t 2)⟩,
   ⟨(some 66), (some (64, true)), .ld none (.t 65)⟩,
   ⟨(some 67), (some (64, true)), .bin .neq (.t 66) (.c (.p (.int .i64 0)))⟩,
   ⟨(some 68), (some (60, false)), .pick (.t 64) (.t 67) (.c (.p (.bool false)))⟩,
   ⟨(some 69), none, .pick (.t 60) (.c (.p (.bool true))) (.t 68)⟩])
 (.cond (.t 69)
  (.seq (.reg [⟨(some 4), none, .mov (.c (.p (.bool false)))⟩])
  (.ret))
  (.skip)))
 (.seq (.seq (.reg [⟨(some 8), none, .mov (.c (.p (.int .i64 0)))⟩])
 (.blk 0 (.loop (.seq (.seq (.reg [⟨(some 70), none, .mov (.t 8)⟩,
   ⟨(some 71), none, .fldA 3 (.t 2)⟩,
   ⟨(some 72), none, .ld none (.t 71)⟩,
   ⟨(some 73), none, .len false (.t 72)⟩,
   ⟨(some 74), none, .bin .lss (.t 70) (.t 73)⟩])
 (.cond (.t 74)
  (.skip)
  (.exit 0)))
 (.seq (.blk 1 (.seq (.reg [⟨(some 77), none, .fldA 3 (.t 2)⟩,
   ⟨(some 78), none, .ld none (.t 77)⟩,
   ⟨(some 79), none, .mov (.t 8)⟩,
   ⟨(some 80), none, .idxS 4 (.t 78) (.t 79)⟩,
   ⟨(some 81), none, .ld (some 4) (.t 80)⟩,
   ⟨(some 82), none, .mov (.t 1)⟩,
   ⟨(some 83), none, .bin .sub (.t 82) (.c (.p (.int .i64 1)))⟩,
   ⟨(some 84), none, .call n_spec_l2Form [(.t 81), (.t 83)]⟩,
   ⟨(some 85), none, .not (.t 84)⟩])
 (.cond (.t 85)
  (.seq (.reg [⟨(some 4), none, .mov (.c (.p (.bool false)))⟩])
  (.ret))
  (.skip))))
 (.reg [⟨(some 75), none, .mov (.t 8)⟩,
   ⟨(some 76), none, .bin .add (.t 75) (.c (.p (.int .i64 1)))⟩,
   ⟨(some 8), none, .mov (.t 76)⟩]))))))
 (.seq (.reg [⟨(some 4), none, .mov (.c (.p (.bool true)))⟩])
 (.ret)))))))⟩
theorem k_spec_l2Form : compF Tryd.prog n_spec_l2Form = some F_spec_l2Form := by kernel_rfl
def F_spec_l2Parts : FK := ⟨21, [.t 2],
 .seq (.reg [⟨(some 1), none, .box 4 (.t 0)⟩,
   ⟨(some 2), none, .mov (.c (.p (.int .i64 0)))⟩])
 (.seq (.reg [⟨(some 3), none, .mov (.c (.p (.int .i64 1)))⟩])
 (.seq (.seq (.reg [⟨(some 4), none, .mov (.c (.p (.int .i64 0)))⟩])
 (.blk 0 (.loop (.seq (.seq (.reg [⟨(some 5), none, .mov (.t 4)⟩,
   ⟨(some 6), none, .fldA 3 (.t 1)⟩,
   ⟨(some 7), none, .ld none (.t 6)⟩,
   ⟨(some 8), none, .len false (.t 7)⟩,
   ⟨(some 9), none, .bin .lss (.t 5) (.t 8)⟩])
 (.cond (.t 9)
  (.skip)
  (.exit 0)))
 (.seq (.blk 1 (.reg [⟨(some 12), none, .mov (.t 3)⟩,
   ⟨(some 13), none, .fldA 3 (.t 1)⟩,
   ⟨(some 14), none, .ld none (.t 13)⟩,
   ⟨(some 15), none, .mov (.t 4)⟩,
   ⟨(some 16), none, .idxS 4 (.t 14) (.t 15)⟩,
   ⟨(some 17), none, .ld (some 4) (.t 16)⟩,
   ⟨(some 18), none, .call n_spec_l2Parts [(.t 17)]⟩,
   ⟨(some 19), none, .bin .add (.t 12) (.t 18)⟩,
   ⟨(some 3), none, .mov (.t 19)⟩]))
 (.reg [⟨(some 10), none, .mov (.t 4)⟩,
   ⟨(some 11), none, .bin .add (.t 10) (.c (.p (.int .i64 1)))⟩,
   ⟨(some 4), none, .mov (.t 11)⟩]))))))
 (.seq (.reg [⟨(some 20), none, .mov (.t 3)⟩,
   ⟨(some 2), none, .mov (.t 20)⟩])
 (.ret))))⟩
theorem k_spec_l2Parts : compF Tryd.prog n_spec_l2Parts = some F_spec_l2Parts := by kernel_rfl
def F_spec_ExprValid : FK := ⟨10, [.t 2],
 .seq (.reg [⟨(some 1), none, .box 4 (.t 0)⟩,
   ⟨(some 2), none, .mov (.c (.p (.bool false)))⟩])
 (.seq (.reg [⟨(some 3), none, .ld (some 4) (.t 1)⟩,
   ⟨(some 4), none, .call n_spec_l2Form [(.t 3), (.c (.p (.int .i64 6)))]⟩,
   ⟨(some 5), none, .mov (.t 4)⟩,
   ⟨(some 6), (some (5, true)), .ld (some 4) (.t 1)⟩,
   ⟨(some 7), (some (5, true)), .call n_spec_l2Parts [(.t 6)]⟩,
   ⟨(some 8), (some (5, true)), .bin .leq (.t 7) (.c (.p (.int .i64 30)))⟩,
   ⟨(some 9), none, .pick (.t 5) (.t 8) (.c (.p (.bool false)))⟩,
   ⟨(some 2), none, .mov (.t 9)⟩])
 (.ret))⟩
theorem k_spec_ExprValid : compF Tryd.prog n_spec_ExprValid = some F_spec_ExprValid := by kernel_rfl
def F_spec_l3Stmt : FK := ⟨108, [.t 4],
 .seq (.reg [⟨(some 2), none, .box 5 (.t 0)⟩,
   ⟨(some 4), none, .mov (.c (.p (.bool false)))⟩])
 (.seq (.seq (.reg [⟨(some 7), none, .mov (.t 1)⟩,
   ⟨(some 8), none, .bin .lss (.t 7) (.c (.p (.int .i64 1)))⟩,
   ⟨(some 9), none, .mov (.t 8)⟩,
   ⟨(some 10), (some (9, false)), .fldA 0 (.t 2)⟩,
   ⟨(some 11), (some (9, false)), .ld none (.t 10)⟩,
   ⟨(some 12), (some (9, false)), .call n_spec_l1In [(.t 11), (.c (.p (.int .i64 1))), (.c (.p (.int .i64 8)))]⟩,
   ⟨(some 13), (some (9, false)), .not (.t 12)⟩,
   ⟨(some 14), none, .pick (.t 9) (.c (.p (.bool true))) (.t 13)⟩,
   ⟨(some 15), none, .mov (.t 14)⟩,
   ⟨(some 16), (some (15, false)), .fldA 2 (.t 2)⟩,
   ⟨(some 19), (some (15, false)), .fldA 0 (.t 2)⟩,
   ⟨(some 17), (some (15, false)), .ld none (.t 16)⟩,
   ⟨(some 18), (some (15, false)), .len false (.t 17)⟩,
   ⟨(some 20), (some (15, false)), .ld none (.t 19)⟩,
   ⟨(some 21), (some (15, false)), .qcall n_spec_l3Args [(.t 20)]⟩,
   ⟨(some 22), (some (15, false)), .bin .neq (.t 18) (.t 21)⟩,
   ⟨(some 23), none, .pick (.t 15) (.c (.p (.bool true))) (.t 22)⟩])
 (.cond (.t 23)
  (.seq (.reg [⟨(some 4), none, .mov (.c (.p (.bool false)))⟩])
  (.ret))
  (.skip)))
 (.seq (.reg [⟨(some 24), none, .fldA 0 (.t 2)⟩,
   ⟨(some 25), none, .ld none (.t 24)⟩,
   ⟨(some 26), none, .bin .eql (.t 25) (.c (.p (.int .i64 1)))⟩,
   ⟨(some 27), none, .mov (.t 26)⟩,
   ⟨(some 28), (some (27, false)), .fldA 0 (.t 2)⟩,
   ⟨(some 29), (some (27, false)), .ld none (.t 28)⟩,
   ⟨(some 30), (some (27, false)), .bin .eql (.t 29) (.c (.p (.int .i64 2)))⟩,
   ⟨(some 31), none, .pick (.t 27) (.c (.p (.bool true))) (.t 30)⟩,
   ⟨(some 5), none, .mov (.t 31)⟩])
 (.seq (.seq (.reg [⟨(some 32), none, .mov (.t 5)⟩,
   ⟨(some 33), none, .fldA 1 (.t 2)⟩,
   ⟨(some 34), none, .ld none (.t 33)⟩,
   ⟨(some 35), none, .call n_spec_IsName [(.t 34)]⟩,
   ⟨(some 36), none, .beq true (.t 32) (.t 35)⟩,
   ⟨(some 37), none, .mov (.t 36)⟩,
   ⟨(some 38), (some (37, false)), .mov (.t 5)⟩,
   ⟨(some 39), (some (37, false)), .not (.t 38)⟩,
   ⟨(some 40), (some (37, false)), .mov (.t 39)⟩,
   ⟨(some 41), (some (40, true)), .fldA 1 (.t 2)⟩,
   ⟨(some 42), (some (40, true)), .ld none (.t 41)⟩,
   ⟨(some 43), (some (40, true)), .bins .neq (.t 42) (.c (.p (.str [])))⟩,
   ⟨(some 44), (some (37, false)), .pick (.t 40) (.t 43) (.c (.p (.bool false)))⟩,
   ⟨(some 45), none, .pick (.t 37) (.c (.p (.bool true))) (.t 44)⟩])
 (.cond (.t 45)
  (.seq (.reg [⟨(some 4), none, .mov (.c (.p (.bool false)))⟩])
  (.ret))
  (.skip)))
 (.seq (.seq (.reg [⟨(some 6), none, .mov (.c (.p (.int .i64 0)))⟩])
 (.blk 0 (.loop (.seq (.seq (.reg [⟨(some 46), none, .mov (.t 6)⟩,
   ⟨(some 47), none, .fldA 2 (.t 2)⟩,
   ⟨(some 48), none, .ld none (.t 47)⟩,
   ⟨(some 49), none, .len false (.t 48)⟩,
   ⟨(some 50), none, .bin .lss (.t 46) (.t 49)⟩])
 (.cond (.t 50)
  (.skip)
  (.exit 0)))
 (.seq (.blk 1 (.seq (.reg [⟨(some 53), none, .fldA 2 (.t 2)⟩,
   ⟨(some 54), none, .ld none (.t 53)⟩,
   ⟨(some 55), none, .mov (.t 6)⟩,
   ⟨(some 56), none, .idxS 4 (.t 54) (.t 55)⟩,
   ⟨(some 57), none, .ld (some 4) (.t 56)⟩,
   ⟨(some 58), none, .call n_spec_ExprValid [(.t 57)]⟩,
   ⟨(some 59), none, .not (.t 58)⟩])
 (.cond (.t 59)
  (.seq (.reg [⟨(some 4), none, .mov (.c (.p (.bool false)))⟩])
  (.ret))
  (.skip))))
 (.reg [⟨(some 51), none, .mov (.t 6)⟩,
   ⟨(some 52), none, .bin .add (.t 51) (.c (.p (.int .i64 1)))⟩,
   ⟨(some 6), none, .mov (.t 52)⟩]))))))
 (.seq (.seq (.reg [⟨(some 60), none, .fldA 0 (.t 2)⟩,
   ⟨(some 61), none, .ld none (.t 60)⟩,
   ⟨(some 62), none, .bin .eql (.t 61) (.c (.p (.int .i64 8)))⟩,
   ⟨(some 63), none, .mov (.t 62)⟩,
   ⟨(some 64), (some (63, true)), .fldA 2 (.t 2)⟩,
   ⟨(some 65), (some (63, true)), .ld none (.t 64)⟩,
   ⟨(some 66), (some (63, true)), .idxS 4 (.t 65) (.c (.p (.int .i64 0)))⟩,
   ⟨(some 67), (some (63, true)), .fldA 0 (.t 66)⟩,
   ⟨(some 68), (some (63, true)), .ld none (.t 67)⟩,
   ⟨(some 69), (some (63, true)), .bin .neq (.t 68) (.c (.p (.int .i64 13)))⟩,
   ⟨(some 70), none, .pick (.t 63) (.t 69) (.c (.p (.bool false)))⟩])
 (.cond (.t 70)
  (.seq (.reg [⟨(some 4), none, .mov (.c (.p (.bool false)))⟩])
  (.ret))
  (.skip)))
 (.seq (.seq (.reg [⟨(some 71), none, .fldA 4 (.t 2)⟩,
   ⟨(some 72), none, .ld none (.t 71)⟩,
   ⟨(some 73), none, .len false (.t 72)⟩,
   ⟨(some 74), none, .bin .gtr (.t 73) (.c (.p (.int .i64 0)))⟩,
   ⟨(some 75), none, .mov (.t 74)⟩,
   ⟨(some 76), (some (75, true)), .fldA 0 (.t 2)⟩,
   ⟨(some 77), (some (75, true)), .ld none (.t 76)⟩,
   ⟨(some 78), (some (75, true)), .bin .neq (.t 77) (.c (.p (.int .i64 5)))⟩,
   ⟨(some 79), none, .pick (.t 75) (.t 78) (.c (.p (.bool false)))⟩,
   ⟨(some 80), none, .mov (.t 79)⟩,
   ⟨(some 81), (some (80, false)), .fldA 3 (.t 2)⟩,
   ⟨(some 82), (some (80, false)), .ld none (.t 81)⟩,
   ⟨(some 83), (some (80, false)), .len false (.t 82)⟩,
   ⟨(some 84), (some (80, false)), .bin .gtr (.t 83) (.c (.p (.int .i64 0)))⟩,
   ⟨(some 85), (some (80, false)), .mov (.t 84)⟩,
   ⟨(some 86), (some (85, true)), .fldA 0 (.t 2)⟩,
   ⟨(some 87), (some (85, true)), .ld none (.t 86)⟩,
   ⟨(some 88), (some (85, true)), .bin .neq (.t 87) (.c (.p (.int .i64 5)))⟩,
   ⟨(some 89), (some (80, false)), .pick (.t 85) (.t 88) (.c (.p (.bool false)))⟩,
   ⟨(some 90), (some (80, false)), .mov (.t 89)⟩,
   ⟨(some 91), (some (90, true)), .fldA 0 (.t 2)⟩,
   ⟨(some 92), (some (90, true)), .ld none (.t 91)⟩,
   ⟨(some 93), (some (90, true)), .bin .neq (.t 92) (.c (.p (.int .i64 6)))⟩,
   ⟨(some 94), (some (80, false)), .pick (.t 90) (.t 93) (.c (.p (.bool false)))⟩,
   ⟨(some 95), none, .pick (.t 80) (.c (.p (.bool true))) (.t 94)⟩])
 (.cond (.t 95)
  (.seq (.reg [⟨(some 4), none, .mov (.c (.p (.bool false)))⟩])
  (.ret))
  (.skip)))
 (.seq (.reg [⟨(some 96), none, .fldA 3 (.t 2)⟩,
   ⟨(some 97), none, .ld none (.t 96)⟩,
   ⟨(some 98), none, .mov (.t 1)⟩,
   ⟨(some 99), none, .bin .sub (.t 98) (.c (.p (.int .i64 1)))⟩,
   ⟨(some 100), none, .call n_spec_l3Stmts [(.t 97), (.t 99)]⟩,
   ⟨(some 101), none, .mov (.t 100)⟩,
   ⟨(some 102), (some (101, true)), .fldA 4 (.t 2)⟩,
   ⟨(some 103), (some (101, true)), .ld none (.t 102)⟩,
   ⟨(some 104), (some (101, true)), .mov (.t 1)⟩,
   ⟨(some 105), (some (101, true)), .bin .sub (.t 104) (.c (.p (.int .i64 1)))⟩,
   ⟨(some 106), (some (101, true)), .call n_spec_l3Stmts [(.t 103), (.t 105)]⟩,
   ⟨(some 107), none, .pick (.t 101) (.t 106) (.c (.p (.bool false)))⟩,
   ⟨(some 4), none, .mov (.t 107)⟩])
 (.ret))))))))⟩
theorem k_spec_l3Stmt : compF Tryd.prog n_spec_l3Stmt = some F_spec_l3Stmt := by kernel_rfl
def F_spec_l3Stmts : FK := ⟨19, [.t 4],
 .seq (.reg [⟨(some 4), none, .mov (.c (.p (.bool false)))⟩])
 (.seq (.seq (.reg [⟨(some 5), none, .mov (.c (.p (.int .i64 0)))⟩])
 (.blk 0 (.loop (.seq (.seq (.reg [⟨(some 6), none, .mov (.t 5)⟩,
   ⟨(some 7), none, .mov (.t 0)⟩,
   ⟨(some 8), none, .len false (.t 7)⟩,
   ⟨(some 9), none, .bin .lss (.t 6) (.t 8)⟩])
 (.cond (.t 9)
  (.skip)
  (.exit 0)))
 (.seq (.blk 1 (.seq (.reg [⟨(some 12), none, .mov (.t 0)⟩,
   ⟨(some 13), none, .mov (.t 5)⟩,
   ⟨(some 14), none, .idxS 5 (.t 12) (.t 13)⟩,
   ⟨(some 15), none, .ld (some 5) (.t 14)⟩,
   ⟨(some 16), none, .mov (.t 1)⟩,
   ⟨(some 17), none, .call n_spec_l3Stmt [(.t 15), (.t 16)]⟩,
   ⟨(some 18), none, .not (.t 17)⟩])
 (.cond (.t 18)
  (.seq (.reg [⟨(some 4), none, .mov (.c (.p (.bool false)))⟩])
  (.ret))
  (.skip))))
 (.reg [⟨(some 10), none, .mov (.t 5)⟩,
   ⟨(some 11), none, .bin .add (.t 10) (.c (.p (.int .i64 1)))⟩,
   ⟨(some 5), none, .mov (.t 11)⟩]))))))
 (.seq (.reg [⟨(some 4), none, .mov (.c (.p (.bool true)))⟩])
 (.ret)))⟩
theorem k_spec_l3Stmts : compF Tryd.prog n_spec_l3Stmts = some F_spec_l3Stmts := by kernel_rfl
def F_spec_l3Fn : FK := ⟨32, [.t 2],
 .seq (.reg [⟨(some 1), none, .box 3 (.t 0)⟩,
   ⟨(some 2), none, .mov (.c (.p (.bool false)))⟩])
 (.seq (.seq (.reg [⟨(some 3), none, .mov (.c (.p (.int .i64 0)))⟩])
 (.blk 0 (.loop (.seq (.seq (.reg [⟨(some 4), none, .mov (.t 3)⟩,
   ⟨(some 5), none, .fldA 1 (.t 1)⟩,
   ⟨(some 6), none, .ld none (.t 5)⟩,
   ⟨(some 7), none, .len false (.t 6)⟩,
   ⟨(some 8), none, .bin .lss (.t 4) (.t 7)⟩])
 (.cond (.t 8)
  (.skip)
  (.exit 0)))
 (.seq (.blk 1 (.seq (.reg [⟨(some 11), none, .fldA 1 (.t 1)⟩,
   ⟨(some 12), none, .ld none (.t 11)⟩,
   ⟨(some 13), none, .mov (.t 3)⟩,
   ⟨(some 14), none, .idxS 1 (.t 12) (.t 13)⟩,
   ⟨(some 15), none, .ld none (.t 14)⟩,
   ⟨(some 16), none, .call n_spec_IsName [(.t 15)]⟩,
   ⟨(some 17), none, .not (.t 16)⟩])
 (.cond (.t 17)
  (.seq (.reg [⟨(some 2), none, .mov (.c (.p (.bool false)))⟩])
  (.ret))
  (.skip))))
 (.reg [⟨(some 9), none, .mov (.t 3)⟩,
   ⟨(some 10), none, .bin .add (.t 9) (.c (.p (.int .i64 1)))⟩,
   ⟨(some 3), none, .mov (.t 10)⟩]))))))
 (.seq (.reg [⟨(some 18), none, .fldA 0 (.t 1)⟩,
   ⟨(some 19), none, .ld none (.t 18)⟩,
   ⟨(some 20), none, .call n_spec_IsName [(.t 19)]⟩,
   ⟨(some 21), none, .mov (.t 20)⟩,
   ⟨(some 22), (some (21, true)), .fldA 1 (.t 1)⟩,
   ⟨(some 23), (some (21, true)), .ld none (.t 22)⟩,
   ⟨(some 24), (some (21, true)), .len false (.t 23)⟩,
   ⟨(some 25), (some (21, true)), .bin .leq (.t 24) (.c (.p (.int .i64 3)))⟩,
   ⟨(some 26), none, .pick (.t 21) (.t 25) (.c (.p (.bool false)))⟩,
   ⟨(some 27), none, .mov (.t 26)⟩,
   ⟨(some 28), (some (27, true)), .fldA 2 (.t 1)⟩,
   ⟨(some 29), (some (27, true)), .ld none (.t 28)⟩,
   ⟨(some 30), (some (27, true)), .call n_spec_l3Stmts [(.t 29), (.c (.p (.int .i64 4)))]⟩,
   ⟨(some 31), none, .pick (.t 27) (.t 30) (.c (.p (.bool false)))⟩,
   ⟨(some 2), none, .mov (.t 31)⟩])
 (.ret)))⟩
theorem k_spec_l3Fn : compF Tryd.prog n_spec_l3Fn = some F_spec_l3Fn := by kernel_rfl
def F_spec_l3Count : FK := ⟨29, [.t 2],
 .seq (.reg [⟨(some 2), none, .mov (.c (.p (.int .i64 0)))⟩])
 (.seq (.reg [⟨(some 5), none, .mov (.t 0)⟩,
   ⟨(some 6), none, .len false (.t 5)⟩,
   ⟨(some 3), none, .mov (.t 6)⟩])
 (.seq (.seq (.reg [⟨(some 4), none, .mov (.c (.p (.int .i64 0)))⟩])
 (.blk 0 (.loop (.seq (.seq (.reg [⟨(some 7), none, .mov (.t 4)⟩,
   ⟨(some 8), none, .mov (.t 0)⟩,
   ⟨(some 9), none, .len false (.t 8)⟩,
   ⟨(some 10), none, .bin .lss (.t 7) (.t 9)⟩])
 (.cond (.t 10)
  (.skip)
  (.exit 0)))
 (.seq (.blk 1 (.reg [⟨(some 13), none, .mov (.t 3)⟩,
   ⟨(some 14), none, .mov (.t 0)⟩,
   ⟨(some 15), none, .mov (.t 4)⟩,
   ⟨(some 16), none, .idxS 5 (.t 14) (.t 15)⟩,
   ⟨(some 17), none, .fldA 3 (.t 16)⟩,
   ⟨(some 21), none, .mov (.t 0)⟩,
   ⟨(some 22), none, .mov (.t 4)⟩,
   ⟨(some 23), none, .idxS 5 (.t 21) (.t 22)⟩,
   ⟨(some 24), none, .fldA 4 (.t 23)⟩,
   ⟨(some 18), none, .ld none (.t 17)⟩,
   ⟨(some 25), none, .ld none (.t 24)⟩,
   ⟨(some 19), none, .call n_spec_l3Count [(.t 18)]⟩,
   ⟨none, none, .chk none 24 25⟩,
   ⟨(some 20), none, .bin .add (.t 13) (.t 19)⟩,
   ⟨(some 26), none, .call n_spec_l3Count [(.t 25)]⟩,
   ⟨(some 27), none, .bin .add (.t 20) (.t 26)⟩,
   ⟨(some 3), none, .mov (.t 27)⟩]))
 (.reg [⟨(some 11), none, .mov (.t 4)⟩,
   ⟨(some 12), none, .bin .add (.t 11) (.c (.p (.int .i64 1)))⟩,
   ⟨(some 4), none, .mov (.t 12)⟩]))))))
 (.seq (.reg [⟨(some 28), none, .mov (.t 3)⟩,
   ⟨(some 2), none, .mov (.t 28)⟩])
 (.ret))))⟩
theorem k_spec_l3Count : compF Tryd.prog n_spec_l3Count = some F_spec_l3Count := by kernel_rfl
def F_spec_l3All : FK := ⟨22, [.t 2],
 .seq (.reg [⟨(some 1), none, .box 1 (.t 0)⟩,
   ⟨(some 2), none, .mov (.c (.p (.int .i64 0)))⟩])
 (.seq (.reg [⟨(some 3), none, .mov (.c (.p (.int .i64 0)))⟩])
 (.seq (.seq (.reg [⟨(some 4), none, .mov (.c (.p (.int .i64 0)))⟩])
 (.blk 0 (.loop (.seq (.seq (.reg [⟨(some 5), none, .mov (.t 4)⟩,
   ⟨(some 6), none, .fldA 0 (.t 1)⟩,
   ⟨(some 7), none, .ld none (.t 6)⟩,
   ⟨(some 8), none, .len false (.t 7)⟩,
   ⟨(some 9), none, .bin .lss (.t 5) (.t 8)⟩])
 (.cond (.t 9)
  (.skip)
  (.exit 0)))
 (.seq (.blk 1 (.reg [⟨(some 12), none, .mov (.t 3)⟩,
   ⟨(some 13), none, .fldA 0 (.t 1)⟩,
   ⟨(some 14), none, .ld none (.t 13)⟩,
   ⟨(some 15), none, .mov (.t 4)⟩,
   ⟨(some 16), none, .idxS 3 (.t 14) (.t 15)⟩,
   ⟨(some 17), none, .fldA 2 (.t 16)⟩,
   ⟨(some 18), none, .ld none (.t 17)⟩,
   ⟨(some 19), none, .call n_spec_l3Count [(.t 18)]⟩,
   ⟨(some 20), none, .bin .add (.t 12) (.t 19)⟩,
   ⟨(some 3), none, .mov (.t 20)⟩]))
 (.reg [⟨(some 10), none, .mov (.t 4)⟩,
   ⟨(some 11), none, .bin .add (.t 10) (.c (.p (.int .i64 1)))⟩,
   ⟨(some 4), none, .mov (.t 11)⟩]))))))
 (.seq (.reg [⟨(some 21), none, .mov (.t 3)⟩,
   ⟨(some 2), none, .mov (.t 21)⟩])
 (.ret))))⟩
theorem k_spec_l3All : compF Tryd.prog n_spec_l3All = some F_spec_l3All := by kernel_rfl
def F_spec_ProgramValid : FK := ⟨26, [.t 2],
 .seq (.reg [⟨(some 1), none, .box 1 (.t 0)⟩,
   ⟨(some 2), none, .mov (.c (.p (.bool false)))⟩])
 (.seq (.seq (.reg [⟨(some 4), none, .fldA 0 (.t 1)⟩,
   ⟨(some 5), none, .ld none (.t 4)⟩,
   ⟨(some 6), none, .len false (.t 5)⟩,
   ⟨(some 7), none, .call n_spec_l1In [(.t 6), (.c (.p (.int .i64 1))), (.c (.p (.int .i64 4)))]⟩,
   ⟨(some 8), none, .not (.t 7)⟩])
 (.cond (.t 8)
  (.seq (.reg [⟨(some 2), none, .mov (.c (.p (.bool false)))⟩])
  (.ret))
  (.skip)))
 (.seq (.seq (.reg [⟨(some 3), none, .mov (.c (.p (.int .i64 0)))⟩])
 (.blk 0 (.loop (.seq (.seq (.reg [⟨(some 9), none, .mov (.t 3)⟩,
   ⟨(some 10), none, .fldA 0 (.t 1)⟩,
   ⟨(some 11), none, .ld none (.t 10)⟩,
   ⟨(some 12), none, .len false (.t 11)⟩,
   ⟨(some 13), none, .bin .lss (.t 9) (.t 12)⟩])
 (.cond (.t 13)
  (.skip)
  (.exit 0)))
 (.seq (.blk 1 (.seq (.reg [⟨(some 16), none, .fldA 0 (.t 1)⟩,
   ⟨(some 17), none, .ld none (.t 16)⟩,
   ⟨(some 18), none, .mov (.t 3)⟩,
   ⟨(some 19), none, .idxS 3 (.t 17) (.t 18)⟩,
   ⟨(some 20), none, .ld (some 3) (.t 19)⟩,
   ⟨(some 21), none, .call n_spec_l3Fn [(.t 20)]⟩,
   ⟨(some 22), none, .not (.t 21)⟩])
 (.cond (.t 22)
  (.seq (.reg [⟨(some 2), none, .mov (.c (.p (.bool false)))⟩])
  (.ret))
  (.skip))))
 (.reg [⟨(some 14), none, .mov (.t 3)⟩,
   ⟨(some 15), none, .bin .add (.t 14) (.c (.p (.int .i64 1)))⟩,
   ⟨(some 3), none, .mov (.t 15)⟩]))))))
 (.seq (.reg [⟨(some 23), none, .ld (some 1) (.t 1)⟩,
   ⟨(some 24), none, .call n_spec_l3All [(.t 23)]⟩,
   ⟨(some 25), none, .bin .leq (.t 24) (.c (.p (.int .i64 40)))⟩,
   ⟨(some 2), none, .mov (.t 25)⟩])
 (.ret))))⟩
theorem k_spec_ProgramValid : compF Tryd.prog n_spec_ProgramValid = some F_spec_ProgramValid := by kernel_rfl
def F_spec_FnAt : FK := ⟨22, [.t 4],
 .seq (.reg [⟨(some 2), none, .box 1 (.t 0)⟩,
   ⟨(some 4), none, .mov (.c (.p (.int .i64 0)))⟩])
 (.seq (.seq (.reg [⟨(some 5), none, .mov (.c (.p (.int .i64 0)))⟩])
 (.blk 0 (.loop (.seq (.seq (.reg [⟨(some 6), none, .mov (.t 5)⟩,
   ⟨(some 7), none, .fldA 0 (.t 2)⟩,
   ⟨(some 8), none, .ld none (.t 7)⟩,
   ⟨(some 9), none, .len false (.t 8)⟩,
   ⟨(some 10), none, .bin .lss (.t 6) (.t 9)⟩])
 (.cond (.t 10)
  (.skip)
  (.exit 0)))
 (.seq (.blk 1 (.seq (.reg [⟨(some 13), none, .fldA 0 (.t 2)⟩,
   ⟨(some 14), none, .ld none (.t 13)⟩,
   ⟨(some 15), none, .mov (.t 5)⟩,
   ⟨(some 16), none, .idxS 3 (.t 14) (.t 15)⟩,
   ⟨(some 17), none, .fldA 0 (.t 16)⟩,
   ⟨(some 18), none, .ld none (.t 17)⟩,
   ⟨(some 19), none, .mov (.t 1)⟩,
   ⟨(some 20), none, .bins .eql (.t 18) (.t 19)⟩])
 (.cond (.t 20)
  (.seq (.reg [⟨(some 21), none, .mov (.t 5)⟩,
    ⟨(some 4), none, .mov (.t 21)⟩])
  (.ret))
  (.skip))))
 (.reg [⟨(some 11), none, .mov (.t 5)⟩,
   ⟨(some 12), none, .bin .add (.t 11) (.c (.p (.int .i64 1)))⟩,
   ⟨(some 5), none, .mov (.t 12)⟩]))))))
 (.seq (.reg [⟨(some 4), none, .mov (.c (.p (.int .i64 (-1))))⟩])
 (.ret)))⟩
theorem k_spec_FnAt : compF Tryd.prog n_spec_FnAt = some F_spec_FnAt := by kernel_rfl
def F_spec_l4Walk_fail : FK := ⟨13, [],
 .seq (.reg [⟨(some 4), none, .mov (.t 0)⟩,
   ⟨(some 5), none, .nilck (.t 4)⟩,
   ⟨(some 6), none, .fldA 4 (.t 5)⟩,
   ⟨(some 7), none, .ld none (.t 6)⟩,
   ⟨(some 8), none, .bin .eql (.t 7) (.c (.p (.int .i64 0)))⟩])
 (.cond (.t 8)
  (.reg [⟨(some 9), none, .mov (.t 0)⟩,
    ⟨(some 10), none, .mov (.t 1)⟩,
    ⟨(some 11), none, .nilck (.t 9)⟩,
    ⟨(some 12), none, .fldA 4 (.t 11)⟩,
    ⟨none, none, .st 1 (.t 12) (.t 10)⟩])
  (.skip))⟩
theorem k_spec_l4Walk_fail : compF Tryd.prog n_spec_l4Walk_fail = some F_spec_l4Walk_fail := by kernel_rfl
def F_spec_l4Walk_find : FK := ⟨27, [.t 4],
 .seq (.reg [⟨(some 4), none, .mov (.c (.p (.int .i64 0)))⟩])
 (.seq (.seq (.reg [⟨(some 6), none, .mov (.t 0)⟩,
   ⟨(some 7), none, .nilck (.t 6)⟩,
   ⟨(some 8), none, .fldA 2 (.t 7)⟩,
   ⟨(some 9), none, .ld none (.t 8)⟩,
   ⟨(some 10), none, .len false (.t 9)⟩,
   ⟨(some 11), none, .bin .sub (.t 10) (.c (.p (.int .i64 1)))⟩,
   ⟨(some 5), none, .mov (.t 11)⟩])
 (.blk 0 (.loop (.seq (.seq (.reg [⟨(some 12), none, .mov (.t 5)⟩,
   ⟨(some 13), none, .bin .geq (.t 12) (.c (.p (.int .i64 0)))⟩])
 (.cond (.t 13)
  (.skip)
  (.exit 0)))
 (.seq (.blk 1 (.seq (.reg [⟨(some 16), none, .mov (.t 0)⟩,
   ⟨(some 17), none, .nilck (.t 16)⟩,
   ⟨(some 18), none, .fldA 2 (.t 17)⟩,
   ⟨(some 19), none, .ld none (.t 18)⟩,
   ⟨(some 20), none, .mov (.t 5)⟩,
   ⟨(some 21), none, .idxS 3 (.t 19) (.t 20)⟩,
   ⟨(some 22), none, .fldA 0 (.t 21)⟩,
   ⟨(some 23), none, .ld none (.t 22)⟩,
   ⟨(some 24), none, .mov (.t 1)⟩,
   ⟨(some 25), none, .bins .eql (.t 23) (.t 24)⟩])
 (.cond (.t 25)
  (.seq (.reg [⟨(some 26), none, .mov (.t 5)⟩,
    ⟨(some 4), none, .mov (.t 26)⟩])
  (.ret))
  (.skip))))
 (.reg [⟨(some 14), none, .mov (.t 5)⟩,
   ⟨(some 15), none, .bin .sub (.t 14) (.c (.p (.int .i64 1)))⟩,
   ⟨(some 5), none, .mov (.t 15)⟩]))))))
 (.seq (.reg [⟨(some 4), none, .mov (.c (.p (.int .i64 (-1))))⟩])
 (.ret)))⟩
theorem k_spec_l4Walk_find : compF Tryd.prog n_spec_l4Walk_find = some F_spec_l4Walk_find := by kernel_rfl
def F_spec_l4Name : FK := ⟨11, [.t 2],
 .seq (.reg [⟨(some 2), none, .mov (.c (.p (.str [])))⟩])
 (.seq (.reg [⟨(some 4), none, .mov (.t 0)⟩,
   ⟨(some 5), none, .bin .rem (.t 4) (.c (.p (.int .i64 26)))⟩,
   ⟨(some 3), none, .mov (.t 5)⟩])
 (.seq (.reg [⟨(some 6), none, .mov (.t 3)⟩,
   ⟨(some 7), none, .mov (.t 3)⟩,
   ⟨(some 8), none, .bin .add (.t 7) (.c (.p (.int .i64 1)))⟩,
   ⟨(some 9), none, .slStr (.c (.p (.str [97, 98, 99, 100, 101, 102, 103, 104, 105, 106, 107, 108, 109, 110, 111, 112, 113, 114, 115, 116, 117, 118, 119, 120, 121, 122]))) (some (.t 6)) (some (.t 8))⟩,
   ⟨(some 10), none, .bins .add (.c (.p (.str [118]))) (.t 9)⟩,
   ⟨(some 2), none, .mov (.t 10)⟩])
 (.ret)))⟩
theorem k_spec_l4Name : compF Tryd.prog n_spec_l4Name = some F_spec_l4Name := by kernel_rfl
def F_spec_l4Walk_put : FK := ⟨57, [.t 6],
 .seq (.reg [⟨(some 6), none, .mov (.c (.p (.str [])))⟩])
 (.seq (.reg [⟨(some 8), none, .mov (.t 0)⟩,
   ⟨(some 9), none, .mov (.t 1)⟩,
   ⟨(some 10), none, .call n_spec_l4Walk_find [(.t 8), (.t 9)]⟩,
   ⟨(some 7), none, .mov (.t 10)⟩])
 (.seq (.seq (.reg [⟨(some 11), none, .mov (.t 7)⟩,
   ⟨(some 12), none, .bin .geq (.t 11) (.c (.p (.int .i64 0)))⟩,
   ⟨(some 13), none, .mov (.t 12)⟩,
   ⟨(some 14), (some (13, true)), .mov (.t 0)⟩,
   ⟨(some 15), (some (13, true)), .nilck (.t 14)⟩,
   ⟨(some 16), (some (13, true)), .fldA 2 (.t 15)⟩,
   ⟨(some 17), (some (13, true)), .ld none (.t 16)⟩,
   ⟨(some 18), (some (13, true)), .mov (.t 7)⟩,
   ⟨(some 19), (some (13, true)), .idxS 3 (.t 17) (.t 18)⟩,
   ⟨(some 20), (some (13, true)), .fldA 2 (.t 19)⟩,
   ⟨(some 21), (some (13, true)), .ld none (.t 20)⟩,
   ⟨(some 22), (some (13, true)), .mov (.t 2)⟩,
   ⟨(some 23), (some (13, true)), .bin .eql (.t 21) (.t 22)⟩,
   ⟨(some 24), none, .pick (.t 13) (.t 23) (.c (.p (.bool false)))⟩])
 (.cond (.t 24)
  (.reg [⟨(some 25), none, .mov (.t 0)⟩,
    ⟨(some 26), none, .call n_spec_l4Walk_fail [(.t 25), (.c (.p (.int .i64 2)))]⟩])
  (.skip)))
 (.seq (.reg [⟨(some 27), none, .mov (.t 0)⟩,
   ⟨(some 28), none, .mov (.t 0)⟩,
   ⟨(some 29), none, .nilck (.t 28)⟩,
   ⟨(some 30), none, .fldA 2 (.t 29)⟩,
   ⟨(some 32), none, .mov (.t 1)⟩,
   ⟨(some 33), none, .mov (.t 0)⟩,
   ⟨(some 34), none, .nilck (.t 33)⟩,
   ⟨(some 35), none, .fldA 3 (.t 34)⟩,
   ⟨(some 37), none, .mov (.t 2)⟩,
   ⟨(some 31), none, .ld none (.t 30)⟩,
   ⟨(some 36), none, .ld none (.t 35)⟩,
   ⟨(some 38), none, .bld [(.p (.str [])), (.p (.int .i64 0)), (.p (.int .i64 0))] [(0, 1, (.t 32)), (1, 1, (.t 36)), (2, 1, (.t 37))]⟩,
   ⟨(some 39), none, .bslP 3 [(.p (.str [])), (.p (.int .i64 0)), (.p (.int .i64 0))] 1 [(0, 3, (.t 38))]⟩,
   ⟨(some 40), none, .app 3 32 (.t 31) (.t 39)⟩,
   ⟨(some 41), none, .nilck (.t 27)⟩,
   ⟨(some 42), none, .fldA 2 (.t 41)⟩,
   ⟨none, none, .st 1 (.t 42) (.t 40)⟩])
 (.seq (.reg [⟨(some 43), none, .mov (.t 0)⟩,
   ⟨(some 44), none, .mov (.t 0)⟩,
   ⟨(some 45), none, .nilck (.t 44)⟩,
   ⟨(some 46), none, .fldA 3 (.t 45)⟩,
   ⟨(some 47), none, .ld none (.t 46)⟩,
   ⟨(some 48), none, .bin .add (.t 47) (.c (.p (.int .i64 1)))⟩,
   ⟨(some 49), none, .nilck (.t 43)⟩,
   ⟨(some 50), none, .fldA 3 (.t 49)⟩,
   ⟨none, none, .st 1 (.t 50) (.t 48)⟩])
 (.seq (.reg [⟨(some 51), none, .mov (.t 0)⟩,
   ⟨(some 52), none, .nilck (.t 51)⟩,
   ⟨(some 53), none, .fldA 3 (.t 52)⟩,
   ⟨(some 54), none, .ld none (.t 53)⟩,
   ⟨(some 55), none, .bin .sub (.t 54) (.c (.p (.int .i64 1)))⟩,
   ⟨(some 56), none, .call n_spec_l4Name [(.t 55)]⟩,
   ⟨(some 6), none, .mov (.t 56)⟩])
 (.ret))))))⟩
theorem k_spec_l4Walk_put : compF Tryd.prog n_spec_l4Walk_put = some F_spec_l4Walk_put := by kernel_rfl
def F_spec_l4Walk_use : FK := ⟨23, [.t 4],
 .seq (.reg [⟨(some 4), none, .mov (.c (.p (.str [])))⟩])
 (.seq (.reg [⟨(some 6), none, .mov (.t 0)⟩,
   ⟨(some 7), none, .mov (.t 1)⟩,
   ⟨(some 8), none, .call n_spec_l4Walk_find [(.t 6), (.t 7)]⟩,
   ⟨(some 5), none, .mov (.t 8)⟩])
 (.seq (.seq (.reg [⟨(some 9), none, .mov (.t 5)⟩,
   ⟨(some 10), none, .bin .lss (.t 9) (.c (.p (.int .i64 0)))⟩])
 (.cond (.t 10)
  (.seq (.reg [⟨(some 11), none, .mov (.t 0)⟩,
    ⟨(some 12), none, .call n_spec_l4Walk_fail [(.t 11), (.c (.p (.int .i64 3)))]⟩])
  (.seq (.reg [⟨(some 13), none, .mov (.t 1)⟩,
    ⟨(some 4), none, .mov (.t 13)⟩])
  (.ret)))
  (.skip)))
 (.seq (.reg [⟨(some 14), none, .mov (.t 0)⟩,
   ⟨(some 15), none, .nilck (.t 14)⟩,
   ⟨(some 16), none, .fldA 2 (.t 15)⟩,
   ⟨(some 17), none, .ld none (.t 16)⟩,
   ⟨(some 18), none, .mov (.t 5)⟩,
   ⟨(some 19), none, .idxS 3 (.t 17) (.t 18)⟩,
   ⟨(some 20), none, .fldA 1 (.t 19)⟩,
   ⟨(some 21), none, .ld none (.t 20)⟩,
   ⟨(some 22), none, .call n_spec_l4Name [(.t 21)]⟩,
   ⟨(some 4), none, .mov (.t 22)⟩])
 (.ret))))⟩
theorem k_spec_l4Walk_use : compF Tryd.prog n_spec_l4Walk_use = some F_spec_l4Walk_use := by kernel_rfl
def F_spec_l4Walk_expr : FK := ⟨75, [.c 4 (some 4)],
 .seq (.reg [⟨(some 3), none, .box 4 (.t 1)⟩,
   ⟨(some 4), none, .alloc [(.p (.int .i64 0)), (.p (.int .i64 0)), (.p (.str [])), .nils]⟩])
 (.seq (.seq (.reg [⟨(some 8), none, .fldA 0 (.t 3)⟩,
   ⟨(some 9), none, .ld none (.t 8)⟩,
   ⟨(some 10), none, .bin .eql (.t 9) (.c (.p (.int .i64 2)))⟩])
 (.cond (.t 10)
  (.reg [⟨(some 11), none, .mov (.t 0)⟩,
    ⟨(some 12), none, .fldA 2 (.t 3)⟩,
    ⟨(some 13), none, .ld none (.t 12)⟩,
    ⟨(some 14), none, .call n_spec_l4Walk_use [(.t 11), (.t 13)]⟩,
    ⟨(some 15), none, .fldA 2 (.t 3)⟩,
    ⟨none, none, .st 1 (.t 15) (.t 14)⟩])
  (.skip)))
 (.seq (.seq (.reg [⟨(some 16), none, .fldA 0 (.t 3)⟩,
   ⟨(some 17), none, .ld none (.t 16)⟩,
   ⟨(some 18), none, .bin .eql (.t 17) (.c (.p (.int .i64 13)))⟩])
 (.cond (.t 18)
  (.seq (.reg [⟨(some 19), none, .mov (.t 0)⟩,
    ⟨(some 20), none, .nilck (.t 19)⟩,
    ⟨(some 21), none, .fldA 0 (.t 20)⟩,
    ⟨(some 23), none, .fldA 2 (.t 3)⟩,
    ⟨(some 22), none, .ld (some 1) (.t 21)⟩,
    ⟨(some 24), none, .ld none (.t 23)⟩,
    ⟨(some 25), none, .call n_spec_FnAt [(.t 22), (.t 24)]⟩,
    ⟨(some 5), none, .mov (.t 25)⟩])
  (.seq (.reg [⟨(some 26), none, .mov (.t 5)⟩,
    ⟨(some 27), none, .bin .lss (.t 26) (.c (.p (.int .i64 0)))⟩,
    ⟨(some 28), none, .mov (.t 27)⟩,
    ⟨(some 29), (some (28, false)), .mov (.t 5)⟩,
    ⟨(some 30), (some (28, false)), .mov (.t 0)⟩,
    ⟨(some 31), (some (28, false)), .nilck (.t 30)⟩,
    ⟨(some 32), (some (28, false)), .fldA 1 (.t 31)⟩,
    ⟨(some 33), (some (28, false)), .ld none (.t 32)⟩,
    ⟨(some 34), (some (28, false)), .bin .geq (.t 29) (.t 33)⟩,
    ⟨(some 35), none, .pick (.t 28) (.c (.p (.bool true))) (.t 34)⟩])
  (.cond (.t 35)
   (.reg [⟨(some 36), none, .mov (.t 0)⟩,
     ⟨(some 37), none, .call n_spec_l4Walk_fail [(.t 36), (.c (.p (.int .i64 4)))]⟩])
   (.seq (.reg [⟨(some 38), none, .mov (.t 0)⟩,
     ⟨(some 39), none, .nilck (.t 38)⟩,
     ⟨(some 40), none, .fldA 0 (.t 39)⟩,
     ⟨(some 41), none, .fldA 0 (.t 40)⟩,
     ⟨(some 43), none, .mov (.t 5)⟩,
     ⟨(some 48), none, .fldA 3 (.t 3)⟩,
     ⟨(some 42), none, .ld none (.t 41)⟩,
     ⟨(some 44), none, .idxS 3 (.t 42) (.t 43)⟩,
     ⟨(some 45), none, .fldA 1 (.t 44)⟩,
     ⟨(some 46), none, .ld none (.t 45)⟩,
     ⟨(some 47), none, .len false (.t 46)⟩,
     ⟨(some 49), none, .ld none (.t 48)⟩,
     ⟨(some 50), none, .len false (.t 49)⟩,
     ⟨(some 51), none, .bin .neq (.t 47) (.t 50)⟩])
   (.cond (.t 51)
    (.reg [⟨(some 52), none, .mov (.t 0)⟩,
      ⟨(some 53), none, .call n_spec_l4Walk_fail [(.t 52), (.c (.p (.int .i64 5)))]⟩])
    (.skip))))))
  (.skip)))
 (.seq (.reg [⟨(some 54), none, .bsl 4 [(.p (.int .i64 0)), (.p (.int .i64 0)), (.p (.str [])), .nils] 0 []⟩,
   ⟨(some 6), none, .mov (.t 54)⟩])
 (.seq (.seq (.reg [⟨(some 7), none, .mov (.c (.p (.int .i64 0)))⟩])
 (.blk 0 (.loop (.seq (.seq (.reg [⟨(some 55), none, .mov (.t 7)⟩,
   ⟨(some 56), none, .fldA 3 (.t 3)⟩,
   ⟨(some 57), none, .ld none (.t 56)⟩,
   ⟨(some 58), none, .len false (.t 57)⟩,
   ⟨(some 59), none, .bin .lss (.t 55) (.t 58)⟩])
 (.cond (.t 59)
  (.skip)
  (.exit 0)))
 (.seq (.blk 1 (.reg [⟨(some 62), none, .mov (.t 6)⟩,
   ⟨(some 63), none, .mov (.t 0)⟩,
   ⟨(some 64), none, .fldA 3 (.t 3)⟩,
   ⟨(some 65), none, .ld none (.t 64)⟩,
   ⟨(some 66), none, .mov (.t 7)⟩,
   ⟨(some 67), none, .idxS 4 (.t 65) (.t 66)⟩,
   ⟨(some 68), none, .ld (some 4) (.t 67)⟩,
   ⟨(some 69), none, .call n_spec_l4Walk_expr [(.t 63), (.t 68)]⟩,
   ⟨(some 70), none, .bsl 4 [(.p (.int .i64 0)), (.p (.int .i64 0)), (.p (.str [])), .nils] 1 [(0, 4, (.t 69))]⟩,
   ⟨(some 71), none, .app 4 56 (.t 62) (.t 70)⟩,
   ⟨(some 6), none, .mov (.t 71)⟩]))
 (.reg [⟨(some 60), none, .mov (.t 7)⟩,
   ⟨(some 61), none, .bin .add (.t 60) (.c (.p (.int .i64 1)))⟩,
   ⟨(some 7), none, .mov (.t 61)⟩]))))))
 (.seq (.reg [⟨(some 72), none, .mov (.t 6)⟩,
   ⟨(some 73), none, .fldA 3 (.t 3)⟩,
   ⟨none, none, .st 1 (.t 73) (.t 72)⟩])
 (.seq (.reg [⟨(some 74), none, .ld (some 4) (.t 3)⟩,
   ⟨none, none, .st 4 (.t 4) (.t 74)⟩])
 (.ret)))))))⟩
theorem k_spec_l4Walk_expr : compF Tryd.prog n_spec_l4Walk_expr = some F_spec_l4Walk_expr := by kernel_rfl
def F_spec_l4Walk_stmts : FK := ⟨96, [.t 6],
 .seq (.reg [⟨(some 6), none, .mov (.c .nils)⟩])
 (.seq (.reg [⟨(some 13), none, .bsl 5 [(.p (.int .i64 0)), (.p (.str [])), .nils, .nils, .nils] 0 []⟩,
   ⟨(some 7), none, .mov (.t 13)⟩])
 (.seq (.reg [⟨(some 14), none, .mov (.t 0)⟩,
   ⟨(some 15), none, .nilck (.t 14)⟩,
   ⟨(some 16), none, .fldA 2 (.t 15)⟩,
   ⟨(some 17), none, .ld none (.t 16)⟩,
   ⟨(some 18), none, .len false (.t 17)⟩,
   ⟨(some 8), none, .mov (.t 18)⟩])
 (.seq (.seq (.reg [⟨(some 9), none, .mov (.c (.p (.int .i64 0)))⟩])
 (.blk 0 (.loop (.seq (.seq (.reg [⟨(some 19), none, .mov (.t 9)⟩,
   ⟨(some 20), none, .mov (.t 1)⟩,
   ⟨(some 21), none, .len false (.t 20)⟩,
   ⟨(some 22), none, .bin .lss (.t 19) (.t 21)⟩])
 (.cond (.t 22)
  (.skip)
  (.exit 0)))
 (.seq (.blk 1 (.seq (.reg [⟨(some 25), none, .mov (.t 1)⟩,
   ⟨(some 26), none, .mov (.t 9)⟩,
   ⟨(some 27), none, .idxS 5 (.t 25) (.t 26)⟩,
   ⟨(some 28), none, .ld (some 5) (.t 27)⟩,
   ⟨(some 10), none, .alloc [(.p (.int .i64 0)), (.p (.str [])), .nils, .nils, .nils]⟩,
   ⟨none, none, .st 5 (.t 10) (.t 28)⟩])
 (.seq (.reg [⟨(some 29), none, .bsl 4 [(.p (.int .i64 0)), (.p (.int .i64 0)), (.p (.str [])), .nils] 0 []⟩,
   ⟨(some 11), none, .mov (.t 29)⟩])
 (.seq (.seq (.reg [⟨(some 12), none, .mov (.c (.p (.int .i64 0)))⟩])
 (.blk 2 (.loop (.seq (.seq (.reg [⟨(some 30), none, .mov (.t 12)⟩,
   ⟨(some 31), none, .fldA 2 (.t 10)⟩,
   ⟨(some 32), none, .ld none (.t 31)⟩,
   ⟨(some 33), none, .len false (.t 32)⟩,
   ⟨(some 34), none, .bin .lss (.t 30) (.t 33)⟩])
 (.cond (.t 34)
  (.skip)
  (.exit 2)))
 (.seq (.blk 3 (.reg [⟨(some 37), none, .mov (.t 11)⟩,
   ⟨(some 38), none, .mov (.t 0)⟩,
   ⟨(some 39), none, .fldA 2 (.t 10)⟩,
   ⟨(some 40), none, .ld none (.t 39)⟩,
   ⟨(some 41), none, .mov (.t 12)⟩,
   ⟨(some 42), none, .idxS 4 (.t 40) (.t 41)⟩,
   ⟨(some 43), none, .ld (some 4) (.t 42)⟩,
   ⟨(some 44), none, .call n_spec_l4Walk_expr [(.t 38), (.t 43)]⟩,
   ⟨(some 45), none, .bsl 4 [(.p (.int .i64 0)), (.p (.int .i64 0)), (.p (.str [])), .nils] 1 [(0, 4, (.t 44))]⟩,
   ⟨(some 46), none, .app 4 56 (.t 37) (.t 45)⟩,
   ⟨(some 11), none, .mov (.t 46)⟩]))
 (.reg [⟨(some 35), none, .mov (.t 12)⟩,
   ⟨(some 36), none, .bin .add (.t 35) (.c (.p (.int .i64 1)))⟩,
   ⟨(some 12), none, .mov (.t 36)⟩]))))))
 (.seq (.reg [⟨(some 47), none, .mov (.t 11)⟩,
   ⟨(some 48), none, .fldA 2 (.t 10)⟩,
   ⟨none, none, .st 1 (.t 48) (.t 47)⟩])
 (.seq (.seq (.reg [⟨(some 49), none, .fldA 0 (.t 10)⟩,
   ⟨(some 50), none, .ld none (.t 49)⟩,
   ⟨(some 51), none, .bin .eql (.t 50) (.c (.p (.int .i64 1)))⟩])
 (.cond (.t 51)
  (.reg [⟨(some 52), none, .mov (.t 0)⟩,
    ⟨(some 53), none, .fldA 1 (.t 10)⟩,
    ⟨(some 54), none, .ld none (.t 53)⟩,
    ⟨(some 55), none, .mov (.t 2)⟩,
    ⟨(some 56), none, .call n_spec_l4Walk_put [(.t 52), (.t 54), (.t 55)]⟩,
    ⟨(some 57), none, .fldA 1 (.t 10)⟩,
    ⟨none, none, .st 1 (.t 57) (.t 56)⟩])
  (.skip)))
 (.seq (.seq (.reg [⟨(some 58), none, .fldA 0 (.t 10)⟩,
   ⟨(some 59), none, .ld none (.t 58)⟩,
   ⟨(some 60), none, .bin .eql (.t 59) (.c (.p (.int .i64 2)))⟩])
 (.cond (.t 60)
  (.reg [⟨(some 61), none, .mov (.t 0)⟩,
    ⟨(some 62), none, .fldA 1 (.t 10)⟩,
    ⟨(some 63), none, .ld none (.t 62)⟩,
    ⟨(some 64), none, .call n_spec_l4Walk_use [(.t 61), (.t 63)]⟩,
    ⟨(some 65), none, .fldA 1 (.t 10)⟩,
    ⟨none, none, .st 1 (.t 65) (.t 64)⟩])
  (.skip)))
 (.seq (.reg [⟨(some 66), none, .mov (.t 0)⟩,
   ⟨(some 67), none, .fldA 3 (.t 10)⟩,
   ⟨(some 68), none, .ld none (.t 67)⟩,
   ⟨(some 69), none, .mov (.t 2)⟩,
   ⟨(some 70), none, .bin .add (.t 69) (.c (.p (.int .i64 1)))⟩,
   ⟨(some 71), none, .call n_spec_l4Walk_stmts [(.t 66), (.t 68), (.t 70)]⟩,
   ⟨(some 72), none, .fldA 3 (.t 10)⟩,
   ⟨none, none, .st 1 (.t 72) (.t 71)⟩])
 (.seq (.reg [⟨(some 73), none, .mov (.t 0)⟩,
   ⟨(some 74), none, .fldA 4 (.t 10)⟩,
   ⟨(some 75), none, .ld none (.t 74)⟩,
   ⟨(some 76), none, .mov (.t 2)⟩,
   ⟨(some 77), none, .bin .add (.t 76) (.c (.p (.int .i64 1)))⟩,
   ⟨(some 78), none, .call n_spec_l4Walk_stmts [(.t 73), (.t 75), (.t 77)]⟩,
   ⟨(some 79), none, .fldA 4 (.t 10)⟩,
   ⟨none, none, .st 1 (.t 79) (.t 78)⟩])
 (.reg [⟨(some 80), none, .mov (.t 7)⟩,
   ⟨(some 81), none, .ld (some 5) (.t 10)⟩,
   ⟨(some 82), none, .bsl 5 [(.p (.int .i64 0)), (.p (.str [])), .nils, .nils, .nils] 1 [(0, 5, (.t 81))]⟩,
   ⟨(some 83), none, .app 5 96 (.t 80) (.t 82)⟩,
   ⟨(some 7), none, .mov (.t 83)⟩]))))))))))
 (.reg [⟨(some 23), none, .mov (.t 9)⟩,
   ⟨(some 24), none, .bin .add (.t 23) (.c (.p (.int .i64 1)))⟩,
   ⟨(some 9), none, .mov (.t 24)⟩]))))))
 (.seq (.seq (.reg [⟨(some 84), none, .mov (.t 2)⟩,
   ⟨(some 85), none, .bin .gtr (.t 84) (.c (.p (.int .i64 0)))⟩])
 (.cond (.t 85)
  (.reg [⟨(some 86), none, .mov (.t 0)⟩,
    ⟨(some 87), none, .mov (.t 0)⟩,
    ⟨(some 88), none, .nilck (.t 87)⟩,
    ⟨(some 89), none, .fldA 2 (.t 88)⟩,
    ⟨(some 90), none, .ld none (.t 89)⟩,
    ⟨(some 91), none, .mov (.t 8)⟩,
    ⟨(some 92), none, .slS 3 (.t 90) none (some (.t 91))⟩,
    ⟨(some 93), none, .nilck (.t 86)⟩,
    ⟨(some 94), none, .fldA 2 (.t 93)⟩,
    ⟨none, none, .st 1 (.t 94) (.t 92)⟩])
  (.skip)))
 (.seq (.reg [⟨(some 95), none, .mov (.t 7)⟩,
   ⟨(some 6), none, .mov (.t 95)⟩])
 (.ret))))))⟩
theorem k_spec_l4Walk_stmts : compF Tryd.prog n_spec_l4Walk_stmts = some F_spec_l4Walk_stmts := by kernel_rfl
def F_spec_l4Fn : FK := ⟨62, [.c 4 (some 3), .t 5, .t 6],
 .seq (.reg [⟨(some 2), none, .box 1 (.t 0)⟩,
   ⟨(some 4), none, .alloc [(.p (.str [])), .nils, .nils]⟩,
   ⟨(some 5), none, .mov (.c (.p (.int .i64 0)))⟩,
   ⟨(some 6), none, .mov (.c (.p (.int .i64 0)))⟩])
 (.seq (.reg [⟨(some 11), none, .ld (some 1) (.t 2)⟩,
   ⟨(some 12), none, .mov (.t 1)⟩,
   ⟨(some 13), none, .bld [.nils, (.p (.int .i64 0)), .nils, (.p (.int .i64 0)), (.p (.int .i64 0))] [(0, 1, (.t 11)), (1, 1, (.t 12))]⟩,
   ⟨(some 14), none, .box 5 (.t 13)⟩,
   ⟨(some 7), none, .mov (.t 14)⟩])
 (.seq (.reg [⟨(some 15), none, .fldA 0 (.t 2)⟩,
   ⟨(some 16), none, .ld none (.t 15)⟩,
   ⟨(some 17), none, .mov (.t 1)⟩,
   ⟨(some 18), none, .idxS 3 (.t 16) (.t 17)⟩,
   ⟨(some 19), none, .ld (some 3) (.t 18)⟩,
   ⟨(some 8), none, .alloc [(.p (.str [])), .nils, .nils]⟩,
   ⟨none, none, .st 3 (.t 8) (.t 19)⟩])
 (.seq (.seq (.reg [⟨(some 20), none, .ld (some 1) (.t 2)⟩,
   ⟨(some 21), none, .fldA 0 (.t 8)⟩,
   ⟨(some 22), none, .ld none (.t 21)⟩,
   ⟨(some 23), none, .call n_spec_FnAt [(.t 20), (.t 22)]⟩,
   ⟨(some 24), none, .mov (.t 1)⟩,
   ⟨(some 25), none, .bin .neq (.t 23) (.t 24)⟩])
 (.cond (.t 25)
  (.reg [⟨(some 26), none, .mov (.t 7)⟩,
    ⟨(some 27), none, .call n_spec_l4Walk_fail [(.t 26), (.c (.p (.int .i64 2)))]⟩])
  (.skip)))
 (.seq (.reg [⟨(some 28), none, .bsl 1 [(.p (.str []))] 0 []⟩,
   ⟨(some 9), none, .mov (.t 28)⟩])
 (.seq (.seq (.reg [⟨(some 10), none, .mov (.c (.p (.int .i64 0)))⟩])
 (.blk 0 (.loop (.seq (.seq (.reg [⟨(some 29), none, .mov (.t 10)⟩,
   ⟨(some 30), none, .fldA 1 (.t 8)⟩,
   ⟨(some 31), none, .ld none (.t 30)⟩,
   ⟨(some 32), none, .len false (.t 31)⟩,
   ⟨(some 33), none, .bin .lss (.t 29) (.t 32)⟩])
 (.cond (.t 33)
  (.skip)
  (.exit 0)))
 (.seq (.blk 1 (.reg [⟨(some 36), none, .mov (.t 9)⟩,
   ⟨(some 37), none, .mov (.t 7)⟩,
   ⟨(some 38), none, .fldA 1 (.t 8)⟩,
   ⟨(some 39), none, .ld none (.t 38)⟩,
   ⟨(some 40), none, .mov (.t 10)⟩,
   ⟨(some 41), none, .idxS 1 (.t 39) (.t 40)⟩,
   ⟨(some 42), none, .ld none (.t 41)⟩,
   ⟨(some 43), none, .call n_spec_l4Walk_put [(.t 37), (.t 42), (.c (.p (.int .i64 0)))]⟩,
   ⟨(some 44), none, .bsl 1 [(.p (.str []))] 1 [(0, 1, (.t 43))]⟩,
   ⟨(some 45), none, .app 1 16 (.t 36) (.t 44)⟩,
   ⟨(some 9), none, .mov (.t 45)⟩]))
 (.reg [⟨(some 34), none, .mov (.t 10)⟩,
   ⟨(some 35), none, .bin .add (.t 34) (.c (.p (.int .i64 1)))⟩,
   ⟨(some 10), none, .mov (.t 35)⟩]))))))
 (.seq (.reg [⟨(some 46), none, .mov (.t 9)⟩,
   ⟨(some 47), none, .fldA 1 (.t 8)⟩,
   ⟨none, none, .st 1 (.t 47) (.t 46)⟩])
 (.seq (.reg [⟨(some 48), none, .mov (.t 7)⟩,
   ⟨(some 49), none, .fldA 2 (.t 8)⟩,
   ⟨(some 50), none, .ld none (.t 49)⟩,
   ⟨(some 51), none, .call n_spec_l4Walk_stmts [(.t 48), (.t 50), (.c (.p (.int .i64 0)))]⟩,
   ⟨(some 52), none, .fldA 2 (.t 8)⟩,
   ⟨none, none, .st 1 (.t 52) (.t 51)⟩])
 (.seq (.reg [⟨(some 54), none, .mov (.t 7)⟩,
   ⟨(some 55), none, .nilck (.t 54)⟩,
   ⟨(some 56), none, .fldA 4 (.t 55)⟩,
   ⟨(some 58), none, .mov (.t 7)⟩,
   ⟨(some 59), none, .nilck (.t 58)⟩,
   ⟨(some 60), none, .fldA 3 (.t 59)⟩,
   ⟨(some 53), none, .ld (some 3) (.t 8)⟩,
   ⟨(some 57), none, .ld none (.t 56)⟩,
   ⟨(some 61), none, .ld none (.t 60)⟩,
   ⟨none, none, .st 3 (.t 4) (.t 53)⟩,
   ⟨none, none, .chk none 56 57⟩,
   ⟨none, none, .chk none 60 61⟩,
   ⟨(some 5), none, .mov (.t 57)⟩,
   ⟨(some 6), none, .mov (.t 61)⟩])
 (.ret)))))))))⟩
theorem k_spec_l4Fn : compF Tryd.prog n_spec_l4Fn = some F_spec_l4Fn := by kernel_rfl
def F_spec_CheckProgram : FK := ⟨27, [.t 2],
 .seq (.reg [⟨(some 1), none, .box 1 (.t 0)⟩,
   ⟨(some 2), none, .mov (.c (.p (.int .i64 0)))⟩])
 (.seq (.seq (.reg [⟨(some 7), none, .ld (some 1) (.t 1)⟩,
   ⟨(some 8), none, .call n_spec_ProgramValid [(.t 7)]⟩,
   ⟨(some 9), none, .not (.t 8)⟩])
 (.cond (.t 9)
  (.seq (.reg [⟨(some 2), none, .mov (.c (.p (.int .i64 1)))⟩])
  (.ret))
  (.skip)))
 (.seq (.seq (.reg [⟨(some 3), none, .mov (.c (.p (.int .i64 0)))⟩])
 (.blk 0 (.loop (.seq (.seq (.reg [⟨(some 10), none, .mov (.t 3)⟩,
   ⟨(some 11), none, .fldA 0 (.t 1)⟩,
   ⟨(some 12), none, .ld none (.t 11)⟩,
   ⟨(some 13), none, .len false (.t 12)⟩,
   ⟨(some 14), none, .bin .lss (.t 10) (.t 13)⟩])
 (.cond (.t 14)
  (.skip)
  (.exit 0)))
 (.seq (.blk 1 (.seq (.reg [⟨(some 18), none, .ld (some 1) (.t 1)⟩,
   ⟨(some 19), none, .mov (.t 3)⟩,
   ⟨(some 20), none, .call n_spec_l4Fn [(.t 18), (.t 19)]⟩,
   ⟨(some 17), none, .mov (.t 20)⟩,
   ⟨(some 21), none, .ext 0 (.t 17)⟩,
   ⟨(some 22), none, .ext 1 (.t 17)⟩,
   ⟨(some 23), none, .ext 2 (.t 17)⟩,
   ⟨(some 4), none, .alloc [(.p (.str [])), .nils, .nils]⟩,
   ⟨none, none, .st 3 (.t 4) (.t 21)⟩,
   ⟨(some 5), none, .mov (.t 22)⟩,
   ⟨(some 6), none, .mov (.t 23)⟩])
 (.seq (.reg [⟨(some 24), none, .mov (.t 5)⟩,
   ⟨(some 25), none, .bin .neq (.t 24) (.c (.p (.int .i64 0)))⟩])
 (.cond (.t 25)
  (.seq (.reg [⟨(some 26), none, .mov (.t 5)⟩,
    ⟨(some 2), none, .mov (.t 26)⟩])
  (.ret))
  (.skip)))))
 (.reg [⟨(some 15), none, .mov (.t 3)⟩,
   ⟨(some 16), none, .bin .add (.t 15) (.c (.p (.int .i64 1)))⟩,
   ⟨(some 3), none, .mov (.t 16)⟩]))))))
 (.seq (.reg [⟨(some 2), none, .mov (.c (.p (.int .i64 0)))⟩])
 (.ret))))⟩
theorem k_spec_CheckProgram : compF Tryd.prog n_spec_CheckProgram = some F_spec_CheckProgram := by kernel_rfl
def F_impl_within : FK := ⟨15, [.t 6],
 .seq (.reg [⟨(some 6), none, .mov (.c (.p (.bool false)))⟩])
 (.seq (.reg [⟨(some 7), none, .mov (.t 1)⟩,
   ⟨(some 8), none, .mov (.t 0)⟩,
   ⟨(some 9), none, .bin .leq (.t 7) (.t 8)⟩,
   ⟨(some 10), none, .mov (.t 9)⟩,
   ⟨(some 11), (some (10, true)), .mov (.t 0)⟩,
   ⟨(some 12), (some (10, true)), .mov (.t 2)⟩,
   ⟨(some 13), (some (10, true)), .bin .leq (.t 11) (.t 12)⟩,
   ⟨(some 14), none, .pick (.t 10) (.t 13) (.c (.p (.bool false)))⟩,
   ⟨(some 6), none, .mov (.t 14)⟩])
 (.ret))⟩
theorem k_impl_within : compF Tryd.prog n_impl_within = some F_impl_within := by kernel_rfl
def F_strings_indexFunc : FK := ⟨21, [.t 6],
 .seq (.reg [⟨(some 6), none, .mov (.c (.p (.int .i64 0)))⟩])
 (.seq (.seq (.reg [⟨(some 9), none, .mov (.t 0)⟩,
   ⟨(some 10), none, .rngS (.t 9)⟩])
 (.blk 0 (.loop (.seq (.reg [⟨(some 11), none, .nxtS (.t 10)⟩,
   ⟨(some 12), none, .ext 0 (.t 11)⟩])
 (.seq (.cond (.t 12)
  (.skip)
  (.exit 0))
 (.blk 1 (.seq (.reg [⟨(some 13), none, .ext 1 (.t 11)⟩,
   ⟨(some 14), none, .ext 2 (.t 11)⟩,
   ⟨(some 7), none, .mov (.t 13)⟩,
   ⟨(some 8), none, .mov (.t 14)⟩])
 (.seq (.reg [⟨(some 15), none, .mov (.t 1)⟩,
   ⟨(some 16), none, .mov (.t 8)⟩,
   ⟨(some 17), none, .callv (.t 15) [(.t 16)]⟩,
   ⟨(some 18), none, .mov (.t 2)⟩,
   ⟨(some 19), none, .beq false (.t 17) (.t 18)⟩])
 (.cond (.t 19)
  (.seq (.reg [⟨(some 20), none, .mov (.t 7)⟩,
    ⟨(some 6), none, .mov (.t 20)⟩])
  (.ret))
  (.skip))))))))))
 (.seq (.reg [⟨(some 6), none, .mov (.c (.p (.int .i64 (-1))))⟩])
 (.ret)))⟩
theorem k_strings_indexFunc : compF Tryd.prog n_strings_indexFunc = some F_strings_indexFunc := by kernel_rfl
def F_strings_IndexFunc : FK := ⟨8, [.t 4],
 .seq (.reg [⟨(some 4), none, .mov (.c (.p (.int .i64 0)))⟩])
 (.seq (.reg [⟨(some 5), none, .mov (.t 0)⟩,
   ⟨(some 6), none, .mov (.t 1)⟩,
   ⟨(some 7), none, .call n_strings_indexFunc [(.t 5), (.t 6), (.c (.p (.bool true)))]⟩,
   ⟨(some 4), none, .mov (.t 7)⟩])
 (.ret))⟩
theorem k_strings_IndexFunc : compF Tryd.prog n_strings_IndexFunc = some F_strings_IndexFunc := by kernel_rfl
def F_slices_Index_string : FK := ⟨19, [.t 4],
 .seq (.reg [⟨(some 4), none, .mov (.c (.p (.int .i64 0)))⟩])
 (.seq (.seq (.reg [⟨(some 6), none, .mov (.t 0)⟩,
   ⟨(some 7), none, .len false (.t 6)⟩,
   ⟨(some 8), none, .mov (.c (.p (.int .i64 0)))⟩])
 (.blk 0 (.loop (.seq (.reg [⟨(some 9), none, .bin .lss (.t 8) (.t 7)⟩])
 (.seq (.cond (.t 9)
  (.skip)
  (.exit 0))
 (.seq (.blk 1 (.seq (.reg [⟨(some 10), none, .mov (.t 8)⟩,
   ⟨(some 5), none, .mov (.t 10)⟩])
 (.seq (.reg [⟨(some 11), none, .mov (.t 1)⟩,
   ⟨(some 12), none, .mov (.t 0)⟩,
   ⟨(some 13), none, .mov (.t 5)⟩,
   ⟨(some 14), none, .idxS 1 (.t 12) (.t 13)⟩,
   ⟨(some 15), none, .ld none (.t 14)⟩,
   ⟨(some 16), none, .bins .eql (.t 11) (.t 15)⟩])
 (.cond (.t 16)
  (.seq (.reg [⟨(some 17), none, .mov (.t 5)⟩,
    ⟨(some 4), none, .mov (.t 17)⟩])
  (.ret))
  (.skip)))))
 (.reg [⟨(some 18), none, .bin .add (.t 8) (.c (.p (.int .i64 1)))⟩,
   ⟨(some 8), none, .mov (.t 18)⟩])))))))
 (.seq (.reg [⟨(some 4), none, .mov (.c (.p (.int .i64 (-1))))⟩])
 (.ret)))⟩
theorem k_slices_Index_string : compF Tryd.prog n_slices_Index_string = some F_slices_Index_string := by kernel_rfl
def F_slices_Contains_string : FK := ⟨9, [.t 4],
 .seq (.reg [⟨(some 4), none, .mov (.c (.p (.bool false)))⟩])
 (.seq (.reg [⟨(some 5), none, .mov (.t 0)⟩,
   ⟨(some 6), none, .mov (.t 1)⟩,
   ⟨(some 7), none, .call n_slices_Index_string [(.t 5), (.t 6)]⟩,
   ⟨(some 8), none, .bin .geq (.t 7) (.c (.p (.int .i64 0)))⟩,
   ⟨(some 4), none, .mov (.t 8)⟩])
 (.ret))⟩
theorem k_slices_Contains_string : compF Tryd.prog n_slices_Contains_string = some F_slices_Contains_string := by kernel_rfl
def F_impl_IsName_1 : FK := ⟨9, [.t 2],
 .seq (.reg [⟨(some 2), none, .mov (.c (.p (.bool false)))⟩])
 (.seq (.reg [⟨(some 3), none, .mov (.t 0)⟩,
   ⟨(some 4), none, .bin .lss (.t 3) (.c (.p (.int .i32 97)))⟩,
   ⟨(some 5), none, .mov (.t 4)⟩,
   ⟨(some 6), (some (5, false)), .mov (.t 0)⟩,
   ⟨(some 7), (some (5, false)), .bin .gtr (.t 6) (.c (.p (.int .i32 122)))⟩,
   ⟨(some 8), none, .pick (.t 5) (.c (.p (.bool true))) (.t 7)⟩,
   ⟨(some 2), none, .mov (.t 8)⟩])
 (.ret))⟩
theorem k_impl_IsName_1 : compF Tryd.prog n_impl_IsName_1 = some F_impl_IsName_1 := by kernel_rfl
def F_impl_IsName : FK := ⟨17, [.t 2],
 .seq (.reg [⟨(some 2), none, .mov (.c (.p (.bool false)))⟩])
 (.seq (.reg [⟨(some 3), none, .mov (.t 0)⟩,
   ⟨(some 4), none, .len true (.t 3)⟩,
   ⟨(some 5), none, .call n_impl_within [(.t 4), (.c (.p (.int .i64 1))), (.c (.p (.int .i64 4)))]⟩,
   ⟨(some 6), none, .mov (.t 5)⟩,
   ⟨(some 7), (some (6, true)), .mov (.t 0)⟩,
   ⟨(some 8), (some (6, true)), .call n_strings_IndexFunc [(.t 7), (.c (.fn (.func n_impl_IsName_1) []))]⟩,
   ⟨(some 9), (some (6, true)), .bin .lss (.t 8) (.c (.p (.int .i64 0)))⟩,
   ⟨(some 10), none, .pick (.t 6) (.t 9) (.c (.p (.bool false)))⟩,
   ⟨(some 11), none, .mov (.t 10)⟩,
   ⟨(some 12), (some (11, true)), .slA 9 1 (.c (.gp 0 0)) none none⟩,
   ⟨(some 13), (some (11, true)), .mov (.t 0)⟩,
   ⟨(some 14), (some (11, true)), .call n_slices_Contains_string [(.t 12), (.t 13)]⟩,
   ⟨(some 15), (some (11, true)), .not (.t 14)⟩,
   ⟨(some 16), none, .pick (.t 11) (.t 15) (.c (.p (.bool false)))⟩,
   ⟨(some 2), none, .mov (.t 16)⟩])
 (.ret))⟩
theorem k_impl_IsName : compF Tryd.prog n_impl_IsName = some F_impl_IsName := by kernel_rfl
def F_slices_IndexFunc_string : FK := ⟨19, [.t 4],
 .seq (.reg [⟨(some 4), none, .mov (.c (.p (.int .i64 0)))⟩])
 (.seq (.seq (.reg [⟨(some 6), none, .mov (.t 0)⟩,
   ⟨(some 7), none, .len false (.t 6)⟩,
   ⟨(some 8), none, .mov (.c (.p (.int .i64 0)))⟩])
 (.blk 0 (.loop (.seq (.reg [⟨(some 9), none, .bin .lss (.t 8) (.t 7)⟩])
 (.seq (.cond (.t 9)
  (.skip)
  (.exit 0))
 (.seq (.blk 1 (.seq (.reg [⟨(some 10), none, .mov (.t 8)⟩,
   ⟨(some 5), none, .mov (.t 10)⟩])
 (.seq (.reg [⟨(some 11), none, .mov (.t 1)⟩,
   ⟨(some 12), none, .mov (.t 0)⟩,
   ⟨(some 13), none, .mov (.t 5)⟩,
   ⟨(some 14), none, .idxS 1 (.t 12) (.t 13)⟩,
   ⟨(some 15), none, .ld none (.t 14)⟩,
   ⟨(some 16), none, .callv (.t 11) [(.t 15)]⟩])
 (.cond (.t 16)
  (.seq (.reg [⟨(some 17), none, .mov (.t 5)⟩,
    ⟨(some 4), none, .mov (.t 17)⟩])
  (.ret))
  (.skip)))))
 (.reg [⟨(some 18), none, .bin .add (.t 8) (.c (.p (.int .i64 1)))⟩,
   ⟨(some 8), none, .mov (.t 18)⟩])))))))
 (.seq (.reg [⟨(some 4), none, .mov (.c (.p (.int .i64 (-1))))⟩])
 (.ret)))⟩
theorem k_slices_IndexFunc_string : compF Tryd.prog n_slices_IndexFunc_string = some F_slices_IndexFunc_string := by kernel_rfl
def F_slices_ContainsFunc_string : FK := ⟨9, [.t 4],
 .seq (.reg [⟨(some 4), none, .mov (.c (.p (.bool false)))⟩])
 (.seq (.reg [⟨(some 5), none, .mov (.t 0)⟩,
   ⟨(some 6), none, .mov (.t 1)⟩,
   ⟨(some 7), none, .call n_slices_IndexFunc_string [(.t 5), (.t 6)]⟩,
   ⟨(some 8), none, .bin .geq (.t 7) (.c (.p (.int .i64 0)))⟩,
   ⟨(some 4), none, .mov (.t 8)⟩])
 (.ret))⟩
theorem k_slices_ContainsFunc_string : compF Tryd.prog n_slices_ContainsFunc_string = some F_slices_ContainsFunc_string := by kernel_rfl
def F_slices_IndexFunc_impl_Stmt : FK := ⟨19, [.t 4],
 .seq (.reg [⟨(some 4), none, .mov (.c (.p (.int .i64 0)))⟩])
 (.seq (.seq (.reg [⟨(some 6), none, .mov (.t 0)⟩,
   ⟨(some 7), none, .len false (.t 6)⟩,
   ⟨(some 8), none, .mov (.c (.p (.int .i64 0)))⟩])
 (.blk 0 (.loop (.seq (.reg [⟨(some 9), none, .bin .lss (.t 8) (.t 7)⟩])
 (.seq (.cond (.t 9)
  (.skip)
  (.exit 0))
 (.seq (.blk 1 (.seq (.reg [⟨(some 10), none, .mov (.t 8)⟩,
   ⟨(some 5), none, .mov (.t 10)⟩])
 (.seq (.reg [⟨(some 11), none, .mov (.t 1)⟩,
   ⟨(some 12), none, .mov (.t 0)⟩,
   ⟨(some 13), none, .mov (.t 5)⟩,
   ⟨(some 14), none, .idxS 5 (.t 12) (.t 13)⟩,
   ⟨(some 15), none, .ld (some 5) (.t 14)⟩,
   ⟨(some 16), none, .callv (.t 11) [(.t 15)]⟩])
 (.cond (.t 16)
  (.seq (.reg [⟨(some 17), none, .mov (.t 5)⟩,
    ⟨(some 4), none, .mov (.t 17)⟩])
  (.ret))
  (.skip)))))
 (.reg [⟨(some 18), none, .bin .add (.t 8) (.c (.p (.int .i64 1)))⟩,
   ⟨(some 8), none, .mov (.t 18)⟩])))))))
 (.seq (.reg [⟨(some 4), none, .mov (.c (.p (.int .i64 (-1))))⟩])
 (.ret)))⟩
theorem k_slices_IndexFunc_impl_Stmt : compF Tryd.prog n_slices_IndexFunc_impl_Stmt = some F_slices_IndexFunc_impl_Stmt := by kernel_rfl
def F_slices_ContainsFunc_impl_Stmt : FK := ⟨9, [.t 4],
 .seq (.reg [⟨(some 4), none, .mov (.c (.p (.bool false)))⟩])
 (.seq (.reg [⟨(some 5), none, .mov (.t 0)⟩,
   ⟨(some 6), none, .mov (.t 1)⟩,
   ⟨(some 7), none, .call n_slices_IndexFunc_impl_Stmt [(.t 5), (.t 6)]⟩,
   ⟨(some 8), none, .bin .geq (.t 7) (.c (.p (.int .i64 0)))⟩,
   ⟨(some 4), none, .mov (.t 8)⟩])
 (.ret))⟩
theorem k_slices_ContainsFunc_impl_Stmt : compF Tryd.prog n_slices_ContainsFunc_impl_Stmt = some F_slices_ContainsFunc_impl_Stmt := by kernel_rfl
def F_impl_argCount : FK := ⟨20, [.t 2, .t 3, .t 4, .t 5],
 .seq (.reg [⟨(some 2), none, .mov (.c (.p (.int .i64 0)))⟩,
   ⟨(some 3), none, .mov (.c (.p (.bool false)))⟩,
   ⟨(some 4), none, .mov (.c (.p (.bool false)))⟩,
   ⟨(some 5), none, .mov (.c (.p (.bool false)))⟩])
 (.seq (.seq (.reg [⟨(some 6), none, .mov (.t 0)⟩])
 (.blk 0 (.seq (.seq (.reg [⟨(some 8), none, .bin .eql (.t 6) (.c (.p (.int .i64 1)))⟩,
   ⟨(some 7), none, .mov (.t 8)⟩])
 (.cond (.t 7)
  (.skip)
  (.reg [⟨(some 9), none, .bin .eql (.t 6) (.c (.p (.int .i64 2)))⟩,
    ⟨(some 7), none, .mov (.t 9)⟩])))
 (.cond (.t 7)
  (.seq (.reg [⟨(some 2), none, .mov (.c (.p (.int .i64 1)))⟩,
    ⟨(some 3), none, .mov (.c (.p (.bool true)))⟩,
    ⟨(some 4), none, .mov (.c (.p (.bool false)))⟩,
    ⟨(some 5), none, .mov (.c (.p (.bool false)))⟩])
  (.ret))
  (.seq (.seq (.reg [⟨(some 11), none, .bin .eql (.t 6) (.c (.p (.int .i64 3)))⟩,
    ⟨(some 10), none, .mov (.t 11)⟩])
  (.cond (.t 10)
   (.skip)
   (.seq (.reg [⟨(some 12), none, .bin .eql (.t 6) (.c (.p (.int .i64 7)))⟩,
     ⟨(some 10), none, .mov (.t 12)⟩])
   (.cond (.t 10)
    (.skip)
    (.reg [⟨(some 13), none, .bin .eql (.t 6) (.c (.p (.int .i64 8)))⟩,
      ⟨(some 10), none, .mov (.t 13)⟩])))))
  (.cond (.t 10)
   (.seq (.reg [⟨(some 2), none, .mov (.c (.p (.int .i64 1)))⟩,
     ⟨(some 3), none, .mov (.c (.p (.bool false)))⟩,
     ⟨(some 4), none, .mov (.c (.p (.bool false)))⟩,
     ⟨(some 5), none, .mov (.c (.p (.bool false)))⟩])
   (.ret))
   (.seq (.reg [⟨(some 15), none, .bin .eql (.t 6) (.c (.p (.int .i64 4)))⟩,
     ⟨(some 14), none, .mov (.t 15)⟩])
   (.cond (.t 14)
    (.seq (.reg [⟨(some 2), none, .mov (.c (.p (.int .i64 2)))⟩,
      ⟨(some 3), none, .mov (.c (.p (.bool false)))⟩,
      ⟨(some 4), none, .mov (.c (.p (.bool false)))⟩,
      ⟨(some 5), none, .mov (.c (.p (.bool false)))⟩])
    (.ret))
    (.seq (.reg [⟨(some 17), none, .bin .eql (.t 6) (.c (.p (.int .i64 5)))⟩,
      ⟨(some 16), none, .mov (.t 17)⟩])
    (.cond (.t 16)
     (.seq (.reg [⟨(some 2), none, .mov (.c (.p (.int .i64 1)))⟩,
       ⟨(some 3), none, .mov (.c (.p (.bool false)))⟩,
       ⟨(some 4), none, .mov (.c (.p (.bool true)))⟩,
       ⟨(some 5), none, .mov (.c (.p (.bool true)))⟩])
     (.ret))
     (.seq (.reg [⟨(some 19), none, .bin .eql (.t 6) (.c (.p (.int .i64 6)))⟩,
       ⟨(some 18), none, .mov (.t 19)⟩])
     (.cond (.t 18)
      (.seq (.reg [⟨(some 2), none, .mov (.c (.p (.int .i64 1)))⟩,
        ⟨(some 3), none, .mov (.c (.p (.bool false)))⟩,
        ⟨(some 4), none, .mov (.c (.p (.bool true)))⟩,
        ⟨(some 5), none, .mov (.c (.p (.bool false)))⟩])
      (.ret))
      (.skip)))))))))))))
 (.seq (.reg [⟨(some 2), none, .mov (.c (.p (.int .i64 (-1))))⟩,
   ⟨(some 3), none, .mov (.c (.p (.bool false)))⟩,
   ⟨(some 4), none, .mov (.c (.p (.bool false)))⟩,
   ⟨(some 5), none, .mov (.c (.p (.bool false)))⟩])
 (.ret)))⟩
theorem k_impl_argCount : compF Tryd.prog n_impl_argCount = some F_impl_argCount := by kernel_rfl
def F_impl_isByte : FK := ⟨5, [.t 2],
 .seq (.reg [⟨(some 2), none, .mov (.c (.p (.bool false)))⟩])
 (.seq (.reg [⟨(some 3), none, .mov (.t 0)⟩,
   ⟨(some 4), none, .call n_impl_within [(.t 3), (.c (.p (.int .i64 0))), (.c (.p (.int .i64 255)))]⟩,
   ⟨(some 2), none, .mov (.t 4)⟩])
 (.ret))⟩
theorem k_impl_isByte : compF Tryd.prog n_impl_isByte = some F_impl_isByte := by kernel_rfl
def F_impl_levelOf : FK := ⟨20, [.t 2],
 .seq (.reg [⟨(some 2), none, .mov (.c (.p (.int .i64 0)))⟩])
 (.seq (.blk 0 (.seq (.reg [⟨(some 4), none, .ld none (.c (.gp 1 0))⟩,
   ⟨(some 5), none, .mov (.t 0)⟩,
   ⟨(some 6), none, .lk 0 (.agg [(.p (.str [])), (.p (.int .i64 0))]) false (.t 4) (.t 5)⟩,
   ⟨(some 7), none, .fldv 1 none (.t 6)⟩,
   ⟨(some 8), none, .bin .gtr (.t 7) (.c (.p (.int .i64 0)))⟩,
   ⟨(some 3), none, .mov (.t 8)⟩])
 (.cond (.t 3)
  (.seq (.reg [⟨(some 9), none, .ld none (.c (.gp 1 0))⟩,
    ⟨(some 10), none, .mov (.t 0)⟩,
    ⟨(some 11), none, .lk 0 (.agg [(.p (.str [])), (.p (.int .i64 0))]) false (.t 9) (.t 10)⟩,
    ⟨(some 12), none, .fldv 1 none (.t 11)⟩,
    ⟨(some 2), none, .mov (.t 12)⟩])
  (.ret))
  (.seq (.reg [⟨(some 14), none, .mov (.t 0)⟩,
    ⟨(some 15), none, .bin .eql (.t 14) (.c (.p (.int .i64 11)))⟩,
    ⟨(some 16), none, .mov (.t 15)⟩,
    ⟨(some 17), (some (16, false)), .mov (.t 0)⟩,
    ⟨(some 18), (some (16, false)), .bin .eql (.t 17) (.c (.p (.int .i64 12)))⟩,
    ⟨(some 19), none, .pick (.t 16) (.c (.p (.bool true))) (.t 18)⟩,
    ⟨(some 13), none, .mov (.t 19)⟩])
  (.cond (.t 13)
   (.seq (.reg [⟨(some 2), none, .mov (.c (.p (.int .i64 5)))⟩])
   (.ret))
   (.skip))))))
 (.seq (.reg [⟨(some 2), none, .mov (.c (.p (.int .i64 6)))⟩])
 (.ret)))⟩
theorem k_impl_levelOf : compF Tryd.prog n_impl_levelOf = some F_impl_levelOf := by kernel_rfl
def F_impl_exprSize : FK := ⟨127, [.t 4, .t 5, .t 6],
 .seq (.reg [⟨(some 2), none, .box 4 (.t 0)⟩,
   ⟨(some 4), none, .mov (.c (.p (.int .i64 0)))⟩,
   ⟨(some 5), none, .mov (.c (.p (.int .i64 0)))⟩,
   ⟨(some 6), none, .mov (.c (.p (.bool false)))⟩])
 (.seq (.reg [⟨(some 7), none, .mov (.c (.p (.int .i64 0)))⟩,
   ⟨(some 8), none, .mov (.c (.p (.int .i64 0)))⟩])
 (.seq (.blk 0 (.seq (.reg [⟨(some 17), none, .fldA 0 (.t 2)⟩,
   ⟨(some 18), none, .ld none (.t 17)⟩,
   ⟨(some 19), none, .bin .eql (.t 18) (.c (.p (.int .i64 1)))⟩,
   ⟨(some 16), none, .mov (.t 19)⟩])
 (.cond (.t 16)
  (.seq (.reg [⟨(some 20), none, .fldA 1 (.t 2)⟩,
    ⟨(some 21), none, .ld none (.t 20)⟩,
    ⟨(some 22), none, .call n_impl_isByte [(.t 21)]⟩,
    ⟨(some 23), none, .not (.t 22)⟩,
    ⟨(some 24), none, .mov (.t 23)⟩,
    ⟨(some 25), (some (24, false)), .fldA 2 (.t 2)⟩,
    ⟨(some 26), (some (24, false)), .ld none (.t 25)⟩,
    ⟨(some 27), (some (24, false)), .bins .neq (.t 26) (.c (.p (.str [])))⟩,
    ⟨(some 28), none, .pick (.t 24) (.c (.p (.bool true))) (.t 27)⟩])
  (.cond (.t 28)
   (.seq (.reg [⟨(some 4), none, .mov (.c (.p (.int .i64 0)))⟩,
     ⟨(some 5), none, .mov (.c (.p (.int .i64 0)))⟩,
     ⟨(some 6), none, .mov (.c (.p (.bool false)))⟩])
   (.ret))
   (.skip)))
  (.seq (.reg [⟨(some 30), none, .fldA 0 (.t 2)⟩,
    ⟨(some 31), none, .ld none (.t 30)⟩,
    ⟨(some 32), none, .bin .eql (.t 31) (.c (.p (.int .i64 2)))⟩,
    ⟨(some 29), none, .mov (.t 32)⟩])
  (.cond (.t 29)
   (.seq (.reg [⟨(some 33), none, .fldA 2 (.t 2)⟩,
     ⟨(some 34), none, .ld none (.t 33)⟩,
     ⟨(some 35), none, .call n_impl_IsName [(.t 34)]⟩,
     ⟨(some 36), none, .not (.t 35)⟩,
     ⟨(some 37), none, .mov (.t 36)⟩,
     ⟨(some 38), (some (37, false)), .fldA 1 (.t 2)⟩,
     ⟨(some 39), (some (37, false)), .ld none (.t 38)⟩,
     ⟨(some 40), (some (37, false)), .bin .neq (.t 39) (.c (.p (.int .i64 0)))⟩,
     ⟨(some 41), none, .pick (.t 37) (.c (.p (.bool true))) (.t 40)⟩])
   (.cond (.t 41)
    (.seq (.reg [⟨(some 4), none, .mov (.c (.p (.int .i64 0)))⟩,
      ⟨(some 5), none, .mov (.c (.p (.int .i64 0)))⟩,
      ⟨(some 6), none, .mov (.c (.p (.bool false)))⟩])
    (.ret))
    (.skip)))
   (.seq (.reg [⟨(some 43), none, .fldA 0 (.t 2)⟩,
     ⟨(some 44), none, .ld none (.t 43)⟩,
     ⟨(some 45), none, .bin .eql (.t 44) (.c (.p (.int .i64 13)))⟩,
     ⟨(some 42), none, .mov (.t 45)⟩])
   (.cond (.t 42)
    (.seq (.reg [⟨(some 8), none, .mov (.c (.p (.int .i64 3)))⟩])
    (.seq (.reg [⟨(some 46), none, .fldA 2 (.t 2)⟩,
      ⟨(some 47), none, .ld none (.t 46)⟩,
      ⟨(some 48), none, .call n_impl_IsName [(.t 47)]⟩,
      ⟨(some 49), none, .not (.t 48)⟩,
      ⟨(some 50), none, .mov (.t 49)⟩,
      ⟨(some 51), (some (50, false)), .fldA 1 (.t 2)⟩,
      ⟨(some 52), (some (50, false)), .ld none (.t 51)⟩,
      ⟨(some 53), (some (50, false)), .bin .neq (.t 52) (.c (.p (.int .i64 0)))⟩,
      ⟨(some 54), none, .pick (.t 50) (.c (.p (.bool true))) (.t 53)⟩])
    (.cond (.t 54)
     (.seq (.reg [⟨(some 4), none, .mov (.c (.p (.int .i64 0)))⟩,
       ⟨(some 5), none, .mov (.c (.p (.int .i64 0)))⟩,
       ⟨(some 6), none, .mov (.c (.p (.bool false)))⟩])
     (.ret))
     (.skip))))
    (.seq (.reg [⟨(some 56), none, .ld none (.c (.gp 1 0))⟩,
      ⟨(some 57), none, .fldA 0 (.t 2)⟩,
      ⟨(some 58), none, .ld none (.t 57)⟩,
      ⟨(some 59), none, .lk 0 (.agg [(.p (.str [])), (.p (.int .i64 0))]) false (.t 56) (.t 58)⟩,
      ⟨(some 60), none, .fldv 1 none (.t 59)⟩,
      ⟨(some 61), none, .bin .gtr (.t 60) (.c (.p (.int .i64 0)))⟩,
      ⟨(some 55), none, .mov (.t 61)⟩])
    (.cond (.t 55)
     (.reg [⟨(some 7), none, .mov (.c (.p (.int .i64 2)))⟩,
       ⟨(some 8), none, .mov (.c (.p (.int .i64 2)))⟩])
     (.seq (.reg [⟨(some 63), none, .fldA 0 (.t 2)⟩,
       ⟨(some 64), none, .ld none (.t 63)⟩,
       ⟨(some 65), none, .bin .eql (.t 64) (.c (.p (.int .i64 11)))⟩,
       ⟨(some 66), none, .mov (.t 65)⟩,
       ⟨(some 67), (some (66, false)), .fldA 0 (.t 2)⟩,
       ⟨(some 68), (some (66, false)), .ld none (.t 67)⟩,
       ⟨(some 69), (some (66, false)), .bin .eql (.t 68) (.c (.p (.int .i64 12)))⟩,
       ⟨(some 70), none, .pick (.t 66) (.c (.p (.bool true))) (.t 69)⟩,
       ⟨(some 62), none, .mov (.t 70)⟩])
     (.cond (.t 62)
      (.reg [⟨(some 7), none, .mov (.c (.p (.int .i64 1)))⟩,
        ⟨(some 8), none, .mov (.c (.p (.int .i64 1)))⟩])
      (.seq (.reg [⟨(some 4), none, .mov (.c (.p (.int .i64 0)))⟩,
        ⟨(some 5), none, .mov (.c (.p (.int .i64 0)))⟩,
        ⟨(some 6), none, .mov (.c (.p (.bool false)))⟩])
      (.ret)))))))))))))
 (.seq (.seq (.reg [⟨(some 71), none, .fldA 0 (.t 2)⟩,
   ⟨(some 72), none, .ld none (.t 71)⟩,
   ⟨(some 73), none, .call n_impl_levelOf [(.t 72)]⟩,
   ⟨(some 74), none, .bin .lss (.t 73) (.c (.p (.int .i64 6)))⟩,
   ⟨(some 75), none, .mov (.t 74)⟩,
   ⟨(some 76), (some (75, true)), .fldA 1 (.t 2)⟩,
   ⟨(some 77), (some (75, true)), .ld none (.t 76)⟩,
   ⟨(some 78), (some (75, true)), .bin .neq (.t 77) (.c (.p (.int .i64 0)))⟩,
   ⟨(some 79), (some (75, true)), .mov (.t 78)⟩,
   ⟨(some 80), (some (79, false)), .fldA 2 (.t 2)⟩,
   ⟨(some 81), (some (79, false)), .ld none (.t 80)⟩,
   ⟨(some 82), (some (79, false)), .bins .neq (.t 81) (.c (.p (.str [])))⟩,
   ⟨(some 83), (some (75, true)), .pick (.t 79) (.c (.p (.bool true))) (.t 82)⟩,
   ⟨(some 84), none, .pick (.t 75) (.t 83) (.c (.p (.bool false)))⟩,
   ⟨(some 85), none, .mov (.t 84)⟩,
   ⟨(some 86), (some (85, false)), .fldA 3 (.t 2)⟩,
   ⟨(some 87), (some (85, false)), .ld none (.t 86)⟩,
   ⟨(some 88), (some (85, false)), .len false (.t 87)⟩,
   ⟨(some 89), (some (85, false)), .mov (.t 7)⟩,
   ⟨(some 90), (some (85, false)), .mov (.t 8)⟩,
   ⟨(some 91), (some (85, false)), .call n_impl_within [(.t 88), (.t 89), (.t 90)]⟩,
   ⟨(some 92), (some (85, false)), .not (.t 91)⟩,
   ⟨(some 93), none, .pick (.t 85) (.c (.p (.bool true))) (.t 92)⟩,
   ⟨(some 94), none, .mov (.t 93)⟩,
   ⟨(some 95), (some (94, false)), .mov (.t 1)⟩,
   ⟨(some 96), (some (94, false)), .bin .lss (.t 95) (.c (.p (.int .i64 1)))⟩,
   ⟨(some 97), none, .pick (.t 94) (.c (.p (.bool true))) (.t 96)⟩])
 (.cond (.t 97)
  (.seq (.reg [⟨(some 4), none, .mov (.c (.p (.int .i64 0)))⟩,
    ⟨(some 5), none, .mov (.c (.p (.int .i64 0)))⟩,
    ⟨(some 6), none, .mov (.c (.p (.bool false)))⟩])
  (.ret))
  (.skip)))
 (.seq (.reg [⟨(some 9), none, .mov (.c (.p (.int .i64 1)))⟩,
   ⟨(some 10), none, .mov (.c (.p (.int .i64 1)))⟩])
 (.seq (.seq (.reg [⟨(some 98), none, .fldA 3 (.t 2)⟩,
   ⟨(some 99), none, .ld none (.t 98)⟩,
   ⟨(some 100), none, .len false (.t 99)⟩,
   ⟨(some 101), none, .mov (.c (.p (.int .i64 0)))⟩])
 (.blk 1 (.loop (.seq (.reg [⟨(some 102), none, .bin .lss (.t 101) (.t 100)⟩])
 (.seq (.cond (.t 102)
  (.skip)
  (.exit 1))
 (.seq (.blk 2 (.seq (.reg [⟨(some 103), none, .idxS 4 (.t 99) (.t 101)⟩,
   ⟨(some 104), none, .ld (some 4) (.t 103)⟩,
   ⟨(some 12), none, .alloc [(.p (.int .i64 0)), (.p (.int .i64 0)), (.p (.str [])), .nils]⟩,
   ⟨none, none, .st 4 (.t 12) (.t 104)⟩])
 (.seq (.reg [⟨(some 106), none, .ld (some 4) (.t 12)⟩,
   ⟨(some 107), none, .mov (.t 1)⟩,
   ⟨(some 108), none, .bin .sub (.t 107) (.c (.p (.int .i64 1)))⟩,
   ⟨(some 109), none, .call n_impl_exprSize [(.t 106), (.t 108)]⟩,
   ⟨(some 105), none, .mov (.t 109)⟩,
   ⟨(some 110), none, .ext 0 (.t 105)⟩,
   ⟨(some 111), none, .ext 1 (.t 105)⟩,
   ⟨(some 112), none, .ext 2 (.t 105)⟩,
   ⟨(some 13), none, .mov (.t 110)⟩,
   ⟨(some 14), none, .mov (.t 111)⟩,
   ⟨(some 15), none, .mov (.t 112)⟩])
 (.seq (.seq (.reg [⟨(some 113), none, .mov (.t 15)⟩,
   ⟨(some 114), none, .not (.t 113)⟩])
 (.cond (.t 114)
  (.seq (.reg [⟨(some 4), none, .mov (.c (.p (.int .i64 0)))⟩,
    ⟨(some 5), none, .mov (.c (.p (.int .i64 0)))⟩,
    ⟨(some 6), none, .mov (.c (.p (.bool false)))⟩])
  (.ret))
  (.skip)))
 (.seq (.reg [⟨(some 115), none, .mov (.t 9)⟩,
   ⟨(some 116), none, .mov (.t 13)⟩,
   ⟨(some 117), none, .bin .add (.t 115) (.t 116)⟩,
   ⟨(some 9), none, .mov (.t 117)⟩])
 (.reg [⟨(some 118), none, .mov (.t 10)⟩,
   ⟨(some 119), none, .mov (.t 14)⟩,
   ⟨(some 120), none, .bin .add (.t 119) (.c (.p (.int .i64 1)))⟩,
   ⟨(some 121), none, .mx (.t 118) (.t 120)⟩,
   ⟨(some 10), none, .mov (.t 121)⟩]))))))
 (.reg [⟨(some 122), none, .bin .add (.t 101) (.c (.p (.int .i64 1)))⟩,
   ⟨(some 101), none, .mov (.t 122)⟩])))))))
 (.seq (.reg [⟨(some 123), none, .mov (.t 9)⟩,
   ⟨(some 124), none, .mov (.t 10)⟩,
   ⟨(some 125), none, .mov (.t 9)⟩,
   ⟨(some 126), none, .bin .leq (.t 125) (.c (.p (.int .i64 30)))⟩,
   ⟨(some 4), none, .mov (.t 123)⟩,
   ⟨(some 5), none, .mov (.t 124)⟩,
   ⟨(some 6), none, .mov (.t 126)⟩])
 (.ret)))))))⟩
theorem k_impl_exprSize : compF Tryd.prog n_impl_exprSize = some F_impl_exprSize := by kernel_rfl
def F_impl_ExprValid : FK := ⟨13, [.t 2],
 .seq (.reg [⟨(some 1), none, .box 4 (.t 0)⟩,
   ⟨(some 2), none, .mov (.c (.p (.bool false)))⟩])
 (.seq (.reg [⟨(some 7), none, .ld (some 4) (.t 1)⟩,
   ⟨(some 8), none, .call n_impl_exprSize [(.t 7), (.c (.p (.int .i64 6)))]⟩,
   ⟨(some 6), none, .mov (.t 8)⟩,
   ⟨(some 9), none, .ext 0 (.t 6)⟩,
   ⟨(some 10), none, .ext 1 (.t 6)⟩,
   ⟨(some 11), none, .ext 2 (.t 6)⟩,
   ⟨(some 3), none, .mov (.t 9)⟩,
   ⟨(some 4), none, .mov (.t 10)⟩,
   ⟨(some 5), none, .mov (.t 11)⟩])
 (.seq (.reg [⟨(some 12), none, .mov (.t 5)⟩,
   ⟨(some 2), none, .mov (.t 12)⟩])
 (.ret)))⟩
theorem k_impl_ExprValid : compF Tryd.prog n_impl_ExprValid = some F_impl_ExprValid := by kernel_rfl
def F_impl_stmtOk : FK := ⟨91, [.t 4],
 .seq (.reg [⟨(some 2), none, .box 5 (.t 0)⟩,
   ⟨(some 4), none, .mov (.c (.p (.bool false)))⟩])
 (.seq (.reg [⟨(some 12), none, .fldA 0 (.t 2)⟩,
   ⟨(some 13), none, .ld none (.t 12)⟩,
   ⟨(some 14), none, .call n_impl_argCount [(.t 13)]⟩,
   ⟨(some 11), none, .mov (.t 14)⟩,
   ⟨(some 15), none, .ext 0 (.t 11)⟩,
   ⟨(some 16), none, .ext 1 (.t 11)⟩,
   ⟨(some 17), none, .ext 2 (.t 11)⟩,
   ⟨(some 18), none, .ext 3 (.t 11)⟩,
   ⟨(some 5), none, .mov (.t 15)⟩,
   ⟨(some 6), none, .mov (.t 16)⟩,
   ⟨(some 7), none, .mov (.t 17)⟩,
   ⟨(some 8), none, .mov (.t 18)⟩])
 (.seq (.blk 0 (.seq (.seq (.reg [⟨(some 20), none, .mov (.t 1)⟩,
   ⟨(some 21), none, .bin .gtr (.t 20) (.c (.p (.int .i64 4)))⟩,
   ⟨(some 19), none, .mov (.t 21)⟩])
 (.cond (.t 19)
  (.skip)
  (.seq (.reg [⟨(some 22), none, .fldA 2 (.t 2)⟩,
    ⟨(some 23), none, .ld none (.t 22)⟩,
    ⟨(some 24), none, .len false (.t 23)⟩,
    ⟨(some 25), none, .mov (.t 5)⟩,
    ⟨(some 26), none, .bin .neq (.t 24) (.t 25)⟩,
    ⟨(some 19), none, .mov (.t 26)⟩])
  (.cond (.t 19)
   (.skip)
   (.seq (.reg [⟨(some 27), none, .mov (.t 6)⟩,
     ⟨(some 28), none, .mov (.t 27)⟩,
     ⟨(some 29), (some (28, true)), .fldA 1 (.t 2)⟩,
     ⟨(some 30), (some (28, true)), .ld none (.t 29)⟩,
     ⟨(some 31), (some (28, true)), .call n_impl_IsName [(.t 30)]⟩,
     ⟨(some 32), (some (28, true)), .not (.t 31)⟩,
     ⟨(some 33), none, .pick (.t 28) (.t 32) (.c (.p (.bool false)))⟩,
     ⟨(some 19), none, .mov (.t 33)⟩])
   (.cond (.t 19)
    (.skip)
    (.seq (.reg [⟨(some 34), none, .mov (.t 6)⟩,
      ⟨(some 35), none, .not (.t 34)⟩,
      ⟨(some 36), none, .mov (.t 35)⟩,
      ⟨(some 37), (some (36, true)), .fldA 1 (.t 2)⟩,
      ⟨(some 38), (some (36, true)), .ld none (.t 37)⟩,
      ⟨(some 39), (some (36, true)), .bins .neq (.t 38) (.c (.p (.str [])))⟩,
      ⟨(some 40), none, .pick (.t 36) (.t 39) (.c (.p (.bool false)))⟩,
      ⟨(some 19), none, .mov (.t 40)⟩])
    (.cond (.t 19)
     (.skip)
     (.seq (.reg [⟨(some 41), none, .mov (.t 7)⟩,
       ⟨(some 42), none, .not (.t 41)⟩,
       ⟨(some 43), none, .mov (.t 42)⟩,
       ⟨(some 44), (some (43, true)), .fldA 3 (.t 2)⟩,
       ⟨(some 45), (some (43, true)), .ld none (.t 44)⟩,
       ⟨(some 46), (some (43, true)), .len false (.t 45)⟩,
       ⟨(some 47), (some (43, true)), .bin .gtr (.t 46) (.c (.p (.int .i64 0)))⟩,
       ⟨(some 48), none, .pick (.t 43) (.t 47) (.c (.p (.bool false)))⟩,
       ⟨(some 19), none, .mov (.t 48)⟩])
     (.cond (.t 19)
      (.skip)
      (.seq (.reg [⟨(some 49), none, .mov (.t 8)⟩,
        ⟨(some 50), none, .not (.t 49)⟩,
        ⟨(some 51), none, .mov (.t 50)⟩,
        ⟨(some 52), (some (51, true)), .fldA 4 (.t 2)⟩,
        ⟨(some 53), (some (51, true)), .ld none (.t 52)⟩,
        ⟨(some 54), (some (51, true)), .len false (.t 53)⟩,
        ⟨(some 55), (some (51, true)), .bin .gtr (.t 54) (.c (.p (.int .i64 0)))⟩,
        ⟨(some 56), none, .pick (.t 51) (.t 55) (.c (.p (.bool false)))⟩,
        ⟨(some 19), none, .mov (.t 56)⟩])
      (.cond (.t 19)
       (.skip)
       (.reg [⟨(some 57), none, .fldA 0 (.t 2)⟩,
         ⟨(some 58), none, .ld none (.t 57)⟩,
         ⟨(some 59), none, .bin .eql (.t 58) (.c (.p (.int .i64 8)))⟩,
         ⟨(some 60), none, .mov (.t 59)⟩,
         ⟨(some 61), (some (60, true)), .fldA 2 (.t 2)⟩,
         ⟨(some 62), (some (60, true)), .ld none (.t 61)⟩,
         ⟨(some 63), (some (60, true)), .idxS 4 (.t 62) (.c (.p (.int .i64 0)))⟩,
         ⟨(some 64), (some (60, true)), .fldA 0 (.t 63)⟩,
         ⟨(some 65), (some (60, true)), .ld none (.t 64)⟩,
         ⟨(some 66), (some (60, true)), .bin .neq (.t 65) (.c (.p (.int .i64 13)))⟩,
         ⟨(some 67), none, .pick (.t 60) (.t 66) (.c (.p (.bool false)))⟩,
         ⟨(some 19), none, .mov (.t 67)⟩])))))))))))))
 (.cond (.t 19)
  (.seq (.reg [⟨(some 4), none, .mov (.c (.p (.bool false)))⟩])
  (.ret))
  (.skip))))
 (.seq (.seq (.reg [⟨(some 68), none, .fldA 2 (.t 2)⟩,
   ⟨(some 69), none, .ld none (.t 68)⟩,
   ⟨(some 70), none, .len false (.t 69)⟩,
   ⟨(some 71), none, .mov (.c (.p (.int .i64 0)))⟩])
 (.blk 1 (.loop (.seq (.reg [⟨(some 72), none, .bin .lss (.t 71) (.t 70)⟩])
 (.seq (.cond (.t 72)
  (.skip)
  (.exit 1))
 (.seq (.blk 2 (.seq (.reg [⟨(some 73), none, .idxS 4 (.t 69) (.t 71)⟩,
   ⟨(some 74), none, .ld (some 4) (.t 73)⟩,
   ⟨(some 10), none, .alloc [(.p (.int .i64 0)), (.p (.int .i64 0)), (.p (.str [])), .nils]⟩,
   ⟨none, none, .st 4 (.t 10) (.t 74)⟩])
 (.seq (.reg [⟨(some 75), none, .ld (some 4) (.t 10)⟩,
   ⟨(some 76), none, .call n_impl_ExprValid [(.t 75)]⟩,
   ⟨(some 77), none, .not (.t 76)⟩])
 (.cond (.t 77)
  (.seq (.reg [⟨(some 4), none, .mov (.c (.p (.bool false)))⟩])
  (.ret))
  (.skip)))))
 (.reg [⟨(some 78), none, .bin .add (.t 71) (.c (.p (.int .i64 1)))⟩,
   ⟨(some 71), none, .mov (.t 78)⟩])))))))
 (.seq (.reg [⟨(some 79), none, .fldA 3 (.t 2)⟩,
   ⟨(some 80), none, .ld none (.t 79)⟩,
   ⟨(some 81), none, .mov (.t 1)⟩,
   ⟨(some 82), none, .bin .add (.t 81) (.c (.p (.int .i64 1)))⟩,
   ⟨(some 83), none, .call n_impl_blockOk [(.t 80), (.t 82)]⟩,
   ⟨(some 84), none, .mov (.t 83)⟩,
   ⟨(some 85), (some (84, true)), .fldA 4 (.t 2)⟩,
   ⟨(some 86), (some (84, true)), .ld none (.t 85)⟩,
   ⟨(some 87), (some (84, true)), .mov (.t 1)⟩,
   ⟨(some 88), (some (84, true)), .bin .add (.t 87) (.c (.p (.int .i64 1)))⟩,
   ⟨(some 89), (some (84, true)), .call n_impl_blockOk [(.t 86), (.t 88)]⟩,
   ⟨(some 90), none, .pick (.t 84) (.t 89) (.c (.p (.bool false)))⟩,
   ⟨(some 4), none, .mov (.t 90)⟩])
 (.ret)))))⟩
theorem k_impl_stmtOk : compF Tryd.prog n_impl_stmtOk = some F_impl_stmtOk := by kernel_rfl
def F_impl_blockOk_1 : FK := ⟨8, [.t 3],
 .seq (.reg [⟨(some 2), none, .box 5 (.t 0)⟩,
   ⟨(some 3), none, .mov (.c (.p (.bool false)))⟩])
 (.seq (.reg [⟨(some 4), none, .ld (some 5) (.t 2)⟩,
   ⟨(some 5), none, .ld none (.t 1)⟩,
   ⟨(some 6), none, .call n_impl_stmtOk [(.t 4), (.t 5)]⟩,
   ⟨(some 7), none, .not (.t 6)⟩,
   ⟨(some 3), none, .mov (.t 7)⟩])
 (.ret))⟩
theorem k_impl_blockOk_1 : compF Tryd.prog n_impl_blockOk_1 = some F_impl_blockOk_1 := by kernel_rfl
def F_impl_blockOk : FK := ⟨9, [.t 4],
 .seq (.reg [⟨(some 3), none, .box 1 (.t 1)⟩,
   ⟨(some 4), none, .mov (.c (.p (.bool false)))⟩])
 (.seq (.reg [⟨(some 5), none, .mov (.t 0)⟩,
   ⟨(some 6), none, .mkf (.func n_impl_blockOk_1) [(.t 3)]⟩,
   ⟨(some 7), none, .call n_slices_ContainsFunc_impl_Stmt [(.t 5), (.t 6)]⟩,
   ⟨(some 8), none, .not (.t 7)⟩,
   ⟨(some 4), none, .mov (.t 8)⟩])
 (.ret))⟩
theorem k_impl_blockOk : compF Tryd.prog n_impl_blockOk = some F_impl_blockOk := by kernel_rfl
def F_impl_stmts : FK := ⟨31, [],
 .seq (.reg [⟨(some 8), none, .mov (.t 0)⟩,
   ⟨(some 9), none, .len false (.t 8)⟩,
   ⟨(some 10), none, .mov (.c (.p (.int .i64 0)))⟩])
 (.blk 0 (.loop (.seq (.reg [⟨(some 11), none, .bin .lss (.t 10) (.t 9)⟩])
 (.seq (.cond (.t 11)
  (.skip)
  (.exit 0))
 (.seq (.blk 1 (.seq (.reg [⟨(some 12), none, .idxS 5 (.t 8) (.t 10)⟩,
   ⟨(some 13), none, .ld (some 5) (.t 12)⟩,
   ⟨(some 7), none, .alloc [(.p (.int .i64 0)), (.p (.str [])), .nils, .nils, .nils]⟩,
   ⟨none, none, .st 5 (.t 7) (.t 13)⟩])
 (.seq (.reg [⟨(some 14), none, .mov (.t 2)⟩,
   ⟨(some 15), none, .ld (some 5) (.t 7)⟩,
   ⟨(some 16), none, .mov (.t 1)⟩,
   ⟨(some 17), none, .callv (.t 14) [(.t 15), (.t 16)]⟩])
 (.seq (.reg [⟨(some 18), none, .fldA 3 (.t 7)⟩,
   ⟨(some 19), none, .ld none (.t 18)⟩,
   ⟨(some 20), none, .mov (.t 1)⟩,
   ⟨(some 21), none, .bin .add (.t 20) (.c (.p (.int .i64 1)))⟩,
   ⟨(some 22), none, .mov (.t 2)⟩,
   ⟨(some 23), none, .call n_impl_stmts [(.t 19), (.t 21), (.t 22)]⟩])
 (.reg [⟨(some 24), none, .fldA 4 (.t 7)⟩,
   ⟨(some 25), none, .ld none (.t 24)⟩,
   ⟨(some 26), none, .mov (.t 1)⟩,
   ⟨(some 27), none, .bin .add (.t 26) (.c (.p (.int .i64 1)))⟩,
   ⟨(some 28), none, .mov (.t 2)⟩,
   ⟨(some 29), none, .call n_impl_stmts [(.t 25), (.t 27), (.t 28)]⟩])))))
 (.reg [⟨(some 30), none, .bin .add (.t 10) (.c (.p (.int .i64 1)))⟩,
   ⟨(some 10), none, .mov (.t 30)⟩]))))))⟩
theorem k_impl_stmts : compF Tryd.prog n_impl_stmts = some F_impl_stmts := by kernel_rfl
def F_impl_measure_1 : FK := ⟨11, [],
 .seq (.reg [⟨(some 4), none, .box 5 (.t 0)⟩])
 (.seq (.reg [⟨(some 6), none, .ld none (.t 2)⟩,
   ⟨(some 7), none, .bin .add (.t 6) (.c (.p (.int .i64 1)))⟩,
   ⟨none, none, .st 1 (.t 2) (.t 7)⟩])
 (.reg [⟨(some 8), none, .ld none (.t 3)⟩,
   ⟨(some 9), none, .mov (.t 1)⟩,
   ⟨(some 10), none, .mx (.t 8) (.t 9)⟩,
   ⟨none, none, .st 1 (.t 3) (.t 10)⟩]))⟩
theorem k_impl_measure_1 : compF Tryd.prog n_impl_measure_1 = some F_impl_measure_1 := by kernel_rfl
def F_impl_measure : FK := ⟨20, [.c 2 none, .c 3 none],
 .seq (.reg [⟨(some 1), none, .box 1 (.t 0)⟩,
   ⟨(some 2), none, .alloc [(.p (.int .i64 0))]⟩,
   ⟨(some 3), none, .alloc [(.p (.int .i64 0))]⟩])
 (.seq (.seq (.reg [⟨(some 6), none, .fldA 0 (.t 1)⟩,
   ⟨(some 7), none, .ld none (.t 6)⟩,
   ⟨(some 8), none, .len false (.t 7)⟩,
   ⟨(some 9), none, .mov (.c (.p (.int .i64 0)))⟩])
 (.blk 0 (.loop (.seq (.reg [⟨(some 10), none, .bin .lss (.t 9) (.t 8)⟩])
 (.seq (.cond (.t 10)
  (.skip)
  (.exit 0))
 (.seq (.blk 1 (.seq (.reg [⟨(some 11), none, .idxS 3 (.t 7) (.t 9)⟩,
   ⟨(some 12), none, .ld (some 3) (.t 11)⟩,
   ⟨(some 5), none, .alloc [(.p (.str [])), .nils, .nils]⟩,
   ⟨none, none, .st 3 (.t 5) (.t 12)⟩])
 (.reg [⟨(some 13), none, .fldA 2 (.t 5)⟩,
   ⟨(some 14), none, .ld none (.t 13)⟩,
   ⟨(some 15), none, .mkf (.func n_impl_measure_1) [(.t 2), (.t 3)]⟩,
   ⟨(some 16), none, .call n_impl_stmts [(.t 14), (.c (.p (.int .i64 1))), (.t 15)]⟩])))
 (.reg [⟨(some 17), none, .bin .add (.t 9) (.c (.p (.int .i64 1)))⟩,
   ⟨(some 9), none, .mov (.t 17)⟩])))))))
 (.seq (.reg [⟨(some 18), none, .ld none (.t 2)⟩,
   ⟨(some 19), none, .ld none (.t 3)⟩,
   ⟨none, none, .st 1 (.t 2) (.t 18)⟩,
   ⟨none, none, .chk none 3 19⟩,
   ⟨none, none, .st 1 (.t 3) (.t 19)⟩])
 (.ret)))⟩
theorem k_impl_measure : compF Tryd.prog n_impl_measure = some F_impl_measure := by kernel_rfl
def F_impl_ProgramValid_1 : FK := ⟨6, [.t 2],
 .seq (.reg [⟨(some 2), none, .mov (.c (.p (.bool false)))⟩])
 (.seq (.reg [⟨(some 3), none, .mov (.t 0)⟩,
   ⟨(some 4), none, .call n_impl_IsName [(.t 3)]⟩,
   ⟨(some 5), none, .not (.t 4)⟩,
   ⟨(some 2), none, .mov (.t 5)⟩])
 (.ret))⟩
theorem k_impl_ProgramValid_1 : compF Tryd.prog n_impl_ProgramValid_1 = some F_impl_ProgramValid_1 := by kernel_rfl
def F_impl_ProgramValid : FK := ⟨48, [.t 2],
 .seq (.reg [⟨(some 1), none, .box 1 (.t 0)⟩,
   ⟨(some 2), none, .mov (.c (.p (.bool false)))⟩])
 (.seq (.seq (.reg [⟨(some 7), none, .fldA 0 (.t 1)⟩,
   ⟨(some 8), none, .ld none (.t 7)⟩,
   ⟨(some 9), none, .len false (.t 8)⟩,
   ⟨(some 10), none, .call n_impl_within [(.t 9), (.c (.p (.int .i64 1))), (.c (.p (.int .i64 4)))]⟩,
   ⟨(some 11), none, .not (.t 10)⟩])
 (.cond (.t 11)
  (.seq (.reg [⟨(some 2), none, .mov (.c (.p (.bool false)))⟩])
  (.ret))
  (.skip)))
 (.seq (.seq (.reg [⟨(some 12), none, .fldA 0 (.t 1)⟩,
   ⟨(some 13), none, .ld none (.t 12)⟩,
   ⟨(some 14), none, .len false (.t 13)⟩,
   ⟨(some 15), none, .mov (.c (.p (.int .i64 0)))⟩])
 (.blk 0 (.loop (.seq (.reg [⟨(some 16), none, .bin .lss (.t 15) (.t 14)⟩])
 (.seq (.cond (.t 16)
  (.skip)
  (.exit 0))
 (.seq (.blk 1 (.seq (.reg [⟨(some 17), none, .idxS 3 (.t 13) (.t 15)⟩,
   ⟨(some 18), none, .ld (some 3) (.t 17)⟩,
   ⟨(some 4), none, .alloc [(.p (.str [])), .nils, .nils]⟩,
   ⟨none, none, .st 3 (.t 4) (.t 18)⟩])
 (.seq (.reg [⟨(some 19), none, .fldA 0 (.t 4)⟩,
   ⟨(some 20), none, .ld none (.t 19)⟩,
   ⟨(some 21), none, .call n_impl_IsName [(.t 20)]⟩,
   ⟨(some 22), none, .not (.t 21)⟩,
   ⟨(some 23), none, .mov (.t 22)⟩,
   ⟨(some 24), (some (23, false)), .fldA 1 (.t 4)⟩,
   ⟨(some 25), (some (23, false)), .ld none (.t 24)⟩,
   ⟨(some 26), (some (23, false)), .len false (.t 25)⟩,
   ⟨(some 27), (some (23, false)), .bin .gtr (.t 26) (.c (.p (.int .i64 3)))⟩,
   ⟨(some 28), none, .pick (.t 23) (.c (.p (.bool true))) (.t 27)⟩,
   ⟨(some 29), none, .mov (.t 28)⟩,
   ⟨(some 30), (some (29, false)), .fldA 1 (.t 4)⟩,
   ⟨(some 31), (some (29, false)), .ld none (.t 30)⟩,
   ⟨(some 32), (some (29, false)), .call n_slices_ContainsFunc_string [(.t 31), (.c (.fn (.func n_impl_ProgramValid_1) []))]⟩,
   ⟨(some 33), none, .pick (.t 29) (.c (.p (.bool true))) (.t 32)⟩,
   ⟨(some 34), none, .mov (.t 33)⟩,
   ⟨(some 35), (some (34, false)), .fldA 2 (.t 4)⟩,
   ⟨(some 36), (some (34, false)), .ld none (.t 35)⟩,
   ⟨(some 37), (some (34, false)), .call n_impl_blockOk [(.t 36), (.c (.p (.int .i64 1)))]⟩,
   ⟨(some 38), (some (34, false)), .not (.t 37)⟩,
   ⟨(some 39), none, .pick (.t 34) (.c (.p (.bool true))) (.t 38)⟩])
 (.cond (.t 39)
  (.seq (.reg [⟨(some 2), none, .mov (.c (.p (.bool false)))⟩])
  (.ret))
  (.skip)))))
 (.reg [⟨(some 40), none, .bin .add (.t 15) (.c (.p (.int .i64 1)))⟩,
   ⟨(some 15), none, .mov (.t 40)⟩])))))))
 (.seq (.reg [⟨(some 42), none, .ld (some 1) (.t 1)⟩,
   ⟨(some 43), none, .call n_impl_measure [(.t 42)]⟩,
   ⟨(some 41), none, .mov (.t 43)⟩,
   ⟨(some 44), none, .ext 0 (.t 41)⟩,
   ⟨(some 45), none, .ext 1 (.t 41)⟩,
   ⟨(some 5), none, .mov (.t 44)⟩,
   ⟨(some 6), none, .mov (.t 45)⟩])
 (.seq (.reg [⟨(some 46), none, .mov (.t 5)⟩,
   ⟨(some 47), none, .bin .leq (.t 46) (.c (.p (.int .i64 40)))⟩,
   ⟨(some 2), none, .mov (.t 47)⟩])
 (.ret)))))⟩
theorem k_impl_ProgramValid : compF Tryd.prog n_impl_ProgramValid = some F_impl_ProgramValid := by kernel_rfl
def F_slices_IndexFunc_impl_Fn : FK := ⟨19, [.t 4],
 .seq (.reg [⟨(some 4), none, .mov (.c (.p (.int .i64 0)))⟩])
 (.seq (.seq (.reg [⟨(some 6), none, .mov (.t 0)⟩,
   ⟨(some 7), none, .len false (.t 6)⟩,
   ⟨(some 8), none, .mov (.c (.p (.int .i64 0)))⟩])
 (.blk 0 (.loop (.seq (.reg [⟨(some 9), none, .bin .lss (.t 8) (.t 7)⟩])
 (.seq (.cond (.t 9)
  (.skip)
  (.exit 0))
 (.seq (.blk 1 (.seq (.reg [⟨(some 10), none, .mov (.t 8)⟩,
   ⟨(some 5), none, .mov (.t 10)⟩])
 (.seq (.reg [⟨(some 11), none, .mov (.t 1)⟩,
   ⟨(some 12), none, .mov (.t 0)⟩,
   ⟨(some 13), none, .mov (.t 5)⟩,
   ⟨(some 14), none, .idxS 3 (.t 12) (.t 13)⟩,
   ⟨(some 15), none, .ld (some 3) (.t 14)⟩,
   ⟨(some 16), none, .callv (.t 11) [(.t 15)]⟩])
 (.cond (.t 16)
  (.seq (.reg [⟨(some 17), none, .mov (.t 5)⟩,
    ⟨(some 4), none, .mov (.t 17)⟩])
  (.ret))
  (.skip)))))
 (.reg [⟨(some 18), none, .bin .add (.t 8) (.c (.p (.int .i64 1)))⟩,
   ⟨(some 8), none, .mov (.t 18)⟩])))))))
 (.seq (.reg [⟨(some 4), none, .mov (.c (.p (.int .i64 (-1))))⟩])
 (.ret)))⟩
theorem k_slices_IndexFunc_impl_Fn : compF Tryd.prog n_slices_IndexFunc_impl_Fn = some F_slices_IndexFunc_impl_Fn := by kernel_rfl
def F_impl_FnAt_1 : FK := ⟨8, [.t 3],
 .seq (.reg [⟨(some 2), none, .box 3 (.t 0)⟩,
   ⟨(some 3), none, .mov (.c (.p (.bool false)))⟩])
 (.seq (.reg [⟨(some 4), none, .fldA 0 (.t 2)⟩,
   ⟨(some 5), none, .ld none (.t 4)⟩,
   ⟨(some 6), none, .ld none (.t 1)⟩,
   ⟨(some 7), none, .bins .eql (.t 5) (.t 6)⟩,
   ⟨(some 3), none, .mov (.t 7)⟩])
 (.ret))⟩
theorem k_impl_FnAt_1 : compF Tryd.prog n_impl_FnAt_1 = some F_impl_FnAt_1 := by kernel_rfl
def F_impl_FnAt : FK := ⟨9, [.t 4],
 .seq (.reg [⟨(some 2), none, .box 1 (.t 0)⟩,
   ⟨(some 3), none, .box 1 (.t 1)⟩,
   ⟨(some 4), none, .mov (.c (.p (.int .i64 0)))⟩])
 (.seq (.reg [⟨(some 5), none, .fldA 0 (.t 2)⟩,
   ⟨(some 6), none, .ld none (.t 5)⟩,
   ⟨(some 7), none, .mkf (.func n_impl_FnAt_1) [(.t 3)]⟩,
   ⟨(some 8), none, .call n_slices_IndexFunc_impl_Fn [(.t 6), (.t 7)]⟩,
   ⟨(some 4), none, .mov (.t 8)⟩])
 (.ret))⟩
theorem k_impl_FnAt : compF Tryd.prog n_impl_FnAt = some F_impl_FnAt := by kernel_rfl
def F_impl_checker_fail : FK := ⟨13, [],
 .seq (.reg [⟨(some 4), none, .mov (.t 0)⟩,
   ⟨(some 5), none, .nilck (.t 4)⟩,
   ⟨(some 6), none, .fldA 2 (.t 5)⟩,
   ⟨(some 7), none, .ld none (.t 6)⟩,
   ⟨(some 8), none, .bin .eql (.t 7) (.c (.p (.int .i64 0)))⟩])
 (.cond (.t 8)
  (.reg [⟨(some 9), none, .mov (.t 0)⟩,
    ⟨(some 10), none, .mov (.t 1)⟩,
    ⟨(some 11), none, .nilck (.t 9)⟩,
    ⟨(some 12), none, .fldA 2 (.t 11)⟩,
    ⟨none, none, .st 1 (.t 12) (.t 10)⟩])
  (.skip))⟩
theorem k_impl_checker_fail : compF Tryd.prog n_impl_checker_fail = some F_impl_checker_fail := by kernel_rfl
def F_impl_scope_open : FK := ⟨7, [.t 2],
 .seq (.reg [⟨(some 2), none, .mov (.c .nilp)⟩])
 (.seq (.reg [⟨(some 3), none, .mkm⟩,
   ⟨(some 4), none, .mov (.t 0)⟩,
   ⟨(some 5), none, .bld [.nilm, .nilp] [(0, 1, (.t 3)), (1, 1, (.t 4))]⟩,
   ⟨(some 6), none, .box 2 (.t 5)⟩,
   ⟨(some 2), none, .mov (.t 6)⟩])
 (.ret))⟩
theorem k_impl_scope_open : compF Tryd.prog n_impl_scope_open = some F_impl_scope_open := by kernel_rfl
def F_impl_parts : FK := ⟨20, [],
 .seq (.reg [⟨(some 2), none, .box 4 (.t 0)⟩])
 (.seq (.reg [⟨(some 6), none, .mov (.t 1)⟩,
   ⟨(some 7), none, .ld (some 4) (.t 2)⟩,
   ⟨(some 8), none, .callv (.t 6) [(.t 7)]⟩])
 (.seq (.reg [⟨(some 9), none, .fldA 3 (.t 2)⟩,
   ⟨(some 10), none, .ld none (.t 9)⟩,
   ⟨(some 11), none, .len false (.t 10)⟩,
   ⟨(some 12), none, .mov (.c (.p (.int .i64 0)))⟩])
 (.blk 0 (.loop (.seq (.reg [⟨(some 13), none, .bin .lss (.t 12) (.t 11)⟩])
 (.seq (.cond (.t 13)
  (.skip)
  (.exit 0))
 (.seq (.blk 1 (.seq (.reg [⟨(some 14), none, .idxS 4 (.t 10) (.t 12)⟩,
   ⟨(some 15), none, .ld (some 4) (.t 14)⟩,
   ⟨(some 5), none, .alloc [(.p (.int .i64 0)), (.p (.int .i64 0)), (.p (.str [])), .nils]⟩,
   ⟨none, none, .st 4 (.t 5) (.t 15)⟩])
 (.reg [⟨(some 16), none, .ld (some 4) (.t 5)⟩,
   ⟨(some 17), none, .mov (.t 1)⟩,
   ⟨(some 18), none, .call n_impl_parts [(.t 16), (.t 17)]⟩])))
 (.reg [⟨(some 19), none, .bin .add (.t 12) (.c (.p (.int .i64 1)))⟩,
   ⟨(some 12), none, .mov (.t 19)⟩]))))))))⟩
theorem k_impl_parts : compF Tryd.prog n_impl_parts = some F_impl_parts := by kernel_rfl
def F_impl_scope_find : FK := ⟨25, [.t 4, .t 5],
 .seq (.reg [⟨(some 4), none, .mov (.c (.p (.int .i64 0)))⟩,
   ⟨(some 5), none, .mov (.c (.p (.bool false)))⟩])
 (.seq (.blk 0 (.loop (.seq (.seq (.reg [⟨(some 8), none, .mov (.t 0)⟩,
   ⟨(some 9), none, .pnil 0 true (.t 8)⟩])
 (.cond (.t 9)
  (.skip)
  (.exit 0)))
 (.seq (.blk 1 (.seq (.reg [⟨(some 15), none, .mov (.t 0)⟩,
   ⟨(some 16), none, .nilck (.t 15)⟩,
   ⟨(some 17), none, .fldA 0 (.t 16)⟩,
   ⟨(some 18), none, .ld none (.t 17)⟩,
   ⟨(some 19), none, .mov (.t 1)⟩,
   ⟨(some 20), none, .lk 1 (.p (.int .i64 0)) true (.t 18) (.t 19)⟩,
   ⟨(some 14), none, .mov (.t 20)⟩,
   ⟨(some 21), none, .ext 0 (.t 14)⟩,
   ⟨(some 22), none, .ext 1 (.t 14)⟩,
   ⟨(some 6), none, .mov (.t 21)⟩,
   ⟨(some 7), none, .mov (.t 22)⟩])
 (.seq (.reg [⟨(some 23), none, .mov (.t 7)⟩])
 (.cond (.t 23)
  (.seq (.reg [⟨(some 24), none, .mov (.t 6)⟩,
    ⟨(some 4), none, .mov (.t 24)⟩,
    ⟨(some 5), none, .mov (.c (.p (.bool true)))⟩])
  (.ret))
  (.skip)))))
 (.reg [⟨(some 10), none, .mov (.t 0)⟩,
   ⟨(some 11), none, .nilck (.t 10)⟩,
   ⟨(some 12), none, .fldA 1 (.t 11)⟩,
   ⟨(some 13), none, .ld none (.t 12)⟩,
   ⟨(some 0), none, .mov (.t 13)⟩])))))
 (.seq (.reg [⟨(some 4), none, .mov (.c (.p (.int .i64 0)))⟩,
   ⟨(some 5), none, .mov (.c (.p (.bool false)))⟩])
 (.ret)))⟩
theorem k_impl_scope_find : compF Tryd.prog n_impl_scope_find = some F_impl_scope_find := by kernel_rfl
def F_impl_checker_expr_1 : FK := ⟨58, [],
 .seq (.reg [⟨(some 3), none, .box 4 (.t 0)⟩])
 (.seq (.reg [⟨(some 7), none, .fldA 0 (.t 3)⟩,
   ⟨(some 8), none, .ld none (.t 7)⟩])
 (.blk 0 (.seq (.reg [⟨(some 10), none, .bin .eql (.t 8) (.c (.p (.int .i64 2)))⟩,
   ⟨(some 9), none, .mov (.t 10)⟩])
 (.cond (.t 9)
  (.seq (.reg [⟨(some 12), none, .ld none (.t 1)⟩,
    ⟨(some 13), none, .fldA 2 (.t 3)⟩,
    ⟨(some 14), none, .ld none (.t 13)⟩,
    ⟨(some 15), none, .call n_impl_scope_find [(.t 12), (.t 14)]⟩,
    ⟨(some 11), none, .mov (.t 15)⟩,
    ⟨(some 16), none, .ext 0 (.t 11)⟩,
    ⟨(some 17), none, .ext 1 (.t 11)⟩,
    ⟨(some 4), none, .mov (.t 16)⟩,
    ⟨(some 5), none, .mov (.t 17)⟩])
  (.seq (.reg [⟨(some 18), none, .mov (.t 5)⟩,
    ⟨(some 19), none, .not (.t 18)⟩])
  (.cond (.t 19)
   (.reg [⟨(some 20), none, .ld none (.t 2)⟩,
     ⟨(some 21), none, .call n_impl_checker_fail [(.t 20), (.c (.p (.int .i64 3)))]⟩])
   (.skip))))
  (.seq (.reg [⟨(some 23), none, .bin .eql (.t 8) (.c (.p (.int .i64 13)))⟩,
    ⟨(some 22), none, .mov (.t 23)⟩])
  (.cond (.t 22)
   (.seq (.reg [⟨(some 35), none, .fldA 2 (.t 3)⟩,
     ⟨(some 24), none, .ld none (.t 2)⟩,
     ⟨(some 25), none, .nilck (.t 24)⟩,
     ⟨(some 26), none, .fldA 0 (.t 25)⟩,
     ⟨(some 27), none, .fldA 0 (.t 26)⟩,
     ⟨(some 28), none, .ld none (.t 27)⟩,
     ⟨(some 29), none, .ld none (.t 2)⟩,
     ⟨(some 30), none, .nilck (.t 29)⟩,
     ⟨(some 31), none, .fldA 1 (.t 30)⟩,
     ⟨(some 32), none, .ld none (.t 31)⟩,
     ⟨(some 33), none, .slS 3 (.t 28) none (some (.t 32))⟩,
     ⟨(some 34), none, .bld [.nils] [(0, 1, (.t 33))]⟩,
     ⟨(some 36), none, .ld none (.t 35)⟩,
     ⟨(some 37), none, .call n_impl_FnAt [(.t 34), (.t 36)]⟩,
     ⟨(some 6), none, .mov (.t 37)⟩])
   (.seq (.reg [⟨(some 38), none, .mov (.t 6)⟩,
     ⟨(some 39), none, .bin .lss (.t 38) (.c (.p (.int .i64 0)))⟩])
   (.cond (.t 39)
    (.reg [⟨(some 40), none, .ld none (.t 2)⟩,
      ⟨(some 41), none, .call n_impl_checker_fail [(.t 40), (.c (.p (.int .i64 4)))]⟩])
    (.seq (.reg [⟨(some 47), none, .mov (.t 6)⟩,
      ⟨(some 52), none, .fldA 3 (.t 3)⟩,
      ⟨(some 42), none, .ld none (.t 2)⟩,
      ⟨(some 43), none, .nilck (.t 42)⟩,
      ⟨(some 44), none, .fldA 0 (.t 43)⟩,
      ⟨(some 45), none, .fldA 0 (.t 44)⟩,
      ⟨(some 46), none, .ld none (.t 45)⟩,
      ⟨(some 48), none, .idxS 3 (.t 46) (.t 47)⟩,
      ⟨(some 49), none, .fldA 1 (.t 48)⟩,
      ⟨(some 50), none, .ld none (.t 49)⟩,
      ⟨(some 51), none, .len false (.t 50)⟩,
      ⟨(some 53), none, .ld none (.t 52)⟩,
      ⟨(some 54), none, .len false (.t 53)⟩,
      ⟨(some 55), none, .bin .neq (.t 51) (.t 54)⟩])
    (.cond (.t 55)
     (.reg [⟨(some 56), none, .ld none (.t 2)⟩,
       ⟨(some 57), none, .call n_impl_checker_fail [(.t 56), (.c (.p (.int .i64 5)))]⟩])
     (.skip))))))
   (.skip)))))))⟩
theorem k_impl_checker_expr_1 : compF Tryd.prog n_impl_checker_expr_1 = some F_impl_checker_expr_1 := by kernel_rfl
def F_impl_checker_expr : FK := ⟨9, [],
 .seq (.reg [⟨(some 3), none, .box 1 (.t 0)⟩,
   ⟨(some 4), none, .box 4 (.t 1)⟩,
   ⟨(some 5), none, .box 1 (.t 2)⟩])
 (.reg [⟨(some 6), none, .ld (some 4) (.t 4)⟩,
   ⟨(some 7), none, .mkf (.func n_impl_checker_expr_1) [(.t 5), (.t 3)]⟩,
   ⟨(some 8), none, .call n_impl_parts [(.t 6), (.t 7)]⟩])⟩
theorem k_impl_checker_expr : compF Tryd.prog n_impl_checker_expr = some F_impl_checker_expr := by kernel_rfl
def F_impl_checker_block : FK := ⟨89, [],
 .seq (.reg [⟨(some 14), none, .mov (.t 1)⟩,
   ⟨(some 15), none, .len false (.t 14)⟩,
   ⟨(some 16), none, .mov (.c (.p (.int .i64 0)))⟩])
 (.blk 0 (.loop (.seq (.reg [⟨(some 17), none, .bin .lss (.t 16) (.t 15)⟩])
 (.seq (.cond (.t 17)
  (.skip)
  (.exit 0))
 (.seq (.blk 1 (.seq (.reg [⟨(some 18), none, .idxS 5 (.t 14) (.t 16)⟩,
   ⟨(some 19), none, .ld (some 5) (.t 18)⟩,
   ⟨(some 7), none, .alloc [(.p (.int .i64 0)), (.p (.str [])), .nils, .nils, .nils]⟩,
   ⟨none, none, .st 5 (.t 7) (.t 19)⟩])
 (.seq (.seq (.reg [⟨(some 20), none, .fldA 2 (.t 7)⟩,
   ⟨(some 21), none, .ld none (.t 20)⟩,
   ⟨(some 22), none, .len false (.t 21)⟩,
   ⟨(some 23), none, .mov (.c (.p (.int .i64 0)))⟩])
 (.blk 2 (.loop (.seq (.reg [⟨(some 24), none, .bin .lss (.t 23) (.t 22)⟩])
 (.seq (.cond (.t 24)
  (.skip)
  (.exit 2))
 (.seq (.blk 3 (.seq (.reg [⟨(some 25), none, .idxS 4 (.t 21) (.t 23)⟩,
   ⟨(some 26), none, .ld (some 4) (.t 25)⟩,
   ⟨(some 9), none, .alloc [(.p (.int .i64 0)), (.p (.int .i64 0)), (.p (.str [])), .nils]⟩,
   ⟨none, none, .st 4 (.t 9) (.t 26)⟩])
 (.reg [⟨(some 27), none, .mov (.t 0)⟩,
   ⟨(some 28), none, .ld (some 4) (.t 9)⟩,
   ⟨(some 29), none, .mov (.t 2)⟩,
   ⟨(some 30), none, .call n_impl_checker_expr [(.t 27), (.t 28), (.t 29)]⟩])))
 (.reg [⟨(some 31), none, .bin .add (.t 23) (.c (.p (.int .i64 1)))⟩,
   ⟨(some 23), none, .mov (.t 31)⟩])))))))
 (.seq (.seq (.reg [⟨(some 32), none, .fldA 0 (.t 7)⟩,
   ⟨(some 33), none, .ld none (.t 32)⟩])
 (.blk 4 (.seq (.reg [⟨(some 35), none, .bin .eql (.t 33) (.c (.p (.int .i64 1)))⟩,
   ⟨(some 34), none, .mov (.t 35)⟩])
 (.cond (.t 34)
  (.seq (.seq (.reg [⟨(some 37), none, .mov (.t 2)⟩,
    ⟨(some 38), none, .nilck (.t 37)⟩,
    ⟨(some 39), none, .fldA 0 (.t 38)⟩,
    ⟨(some 41), none, .fldA 1 (.t 7)⟩,
    ⟨(some 40), none, .ld none (.t 39)⟩,
    ⟨(some 42), none, .ld none (.t 41)⟩,
    ⟨(some 43), none, .lk 1 (.p (.int .i64 0)) true (.t 40) (.t 42)⟩,
    ⟨(some 36), none, .mov (.t 43)⟩,
    ⟨(some 44), none, .ext 0 (.t 36)⟩,
    ⟨(some 45), none, .ext 1 (.t 36)⟩,
    ⟨(some 10), none, .mov (.t 44)⟩,
    ⟨(some 11), none, .mov (.t 45)⟩])
  (.seq (.reg [⟨(some 46), none, .mov (.t 11)⟩])
  (.cond (.t 46)
   (.reg [⟨(some 47), none, .mov (.t 0)⟩,
     ⟨(some 48), none, .call n_impl_checker_fail [(.t 47), (.c (.p (.int .i64 2)))]⟩])
   (.skip))))
  (.reg [⟨(some 49), none, .mov (.t 2)⟩,
    ⟨(some 50), none, .nilck (.t 49)⟩,
    ⟨(some 51), none, .fldA 0 (.t 50)⟩,
    ⟨(some 53), none, .fldA 1 (.t 7)⟩,
    ⟨(some 52), none, .ld none (.t 51)⟩,
    ⟨(some 54), none, .ld none (.t 53)⟩,
    ⟨none, none, .mup 1 (.t 52) (.t 54) (.c (.p (.int .i64 0)))⟩]))
  (.seq (.reg [⟨(some 56), none, .bin .eql (.t 33) (.c (.p (.int .i64 2)))⟩,
    ⟨(some 55), none, .mov (.t 56)⟩])
  (.cond (.t 55)
   (.seq (.reg [⟨(some 58), none, .mov (.t 2)⟩,
     ⟨(some 59), none, .fldA 1 (.t 7)⟩,
     ⟨(some 60), none, .ld none (.t 59)⟩,
     ⟨(some 61), none, .call n_impl_scope_find [(.t 58), (.t 60)]⟩,
     ⟨(some 57), none, .mov (.t 61)⟩,
     ⟨(some 62), none, .ext 0 (.t 57)⟩,
     ⟨(some 63), none, .ext 1 (.t 57)⟩,
     ⟨(some 12), none, .mov (.t 62)⟩,
     ⟨(some 13), none, .mov (.t 63)⟩])
   (.seq (.reg [⟨(some 64), none, .mov (.t 13)⟩,
     ⟨(some 65), none, .not (.t 64)⟩])
   (.cond (.t 65)
    (.reg [⟨(some 66), none, .mov (.t 0)⟩,
      ⟨(some 67), none, .call n_impl_checker_fail [(.t 66), (.c (.p (.int .i64 3)))]⟩])
    (.skip))))
   (.skip)))))))
 (.seq (.reg [⟨(some 68), none, .fldA 0 (.t 7)⟩,
   ⟨(some 69), none, .ld none (.t 68)⟩,
   ⟨(some 70), none, .bin .eql (.t 69) (.c (.p (.int .i64 5)))⟩,
   ⟨(some 71), none, .mov (.t 70)⟩,
   ⟨(some 72), (some (71, false)), .fldA 0 (.t 7)⟩,
   ⟨(some 73), (some (71, false)), .ld none (.t 72)⟩,
   ⟨(some 74), (some (71, false)), .bin .eql (.t 73) (.c (.p (.int .i64 6)))⟩,
   ⟨(some 75), none, .pick (.t 71) (.c (.p (.bool true))) (.t 74)⟩])
 (.cond (.t 75)
  (.seq (.reg [⟨(some 76), none, .mov (.t 0)⟩,
    ⟨(some 77), none, .fldA 3 (.t 7)⟩,
    ⟨(some 79), none, .mov (.t 2)⟩,
    ⟨(some 78), none, .ld none (.t 77)⟩,
    ⟨(some 80), none, .call n_impl_scope_open [(.t 79)]⟩,
    ⟨none, none, .chk none 77 78⟩,
    ⟨(some 81), none, .call n_impl_checker_block [(.t 76), (.t 78), (.t 80)]⟩])
  (.reg [⟨(some 82), none, .mov (.t 0)⟩,
    ⟨(some 83), none, .fldA 4 (.t 7)⟩,
    ⟨(some 85), none, .mov (.t 2)⟩,
    ⟨(some 84), none, .ld none (.t 83)⟩,
    ⟨(some 86), none, .call n_impl_scope_open [(.t 85)]⟩,
    ⟨none, none, .chk none 83 84⟩,
    ⟨(some 87), none, .call n_impl_checker_block [(.t 82), (.t 84), (.t 86)]⟩]))
  (.skip)))))))
 (.reg [⟨(some 88), none, .bin .add (.t 16) (.c (.p (.int .i64 1)))⟩,
   ⟨(some 16), none, .mov (.t 88)⟩]))))))⟩
theorem k_impl_checker_block : compF Tryd.prog n_impl_checker_block = some F_impl_checker_block := by kernel_rfl
def F_impl_CheckProgram : FK := ⟨73, [.t 2],
 .seq (.reg [⟨(some 1), none, .box 1 (.t 0)⟩,
   ⟨(some 2), none, .mov (.c (.p (.int .i64 0)))⟩])
 (.seq (.seq (.reg [⟨(some 11), none, .ld (some 1) (.t 1)⟩,
   ⟨(some 12), none, .call n_impl_ProgramValid [(.t 11)]⟩,
   ⟨(some 13), none, .not (.t 12)⟩])
 (.cond (.t 13)
  (.seq (.reg [⟨(some 2), none, .mov (.c (.p (.int .i64 1)))⟩])
  (.ret))
  (.skip)))
 (.seq (.reg [⟨(some 14), none, .ld (some 1) (.t 1)⟩,
   ⟨(some 15), none, .bld [.nils, (.p (.int .i64 0)), (.p (.int .i64 0))] [(0, 1, (.t 14))]⟩,
   ⟨(some 16), none, .box 3 (.t 15)⟩,
   ⟨(some 3), none, .mov (.t 16)⟩])
 (.seq (.seq (.reg [⟨(some 17), none, .fldA 0 (.t 1)⟩,
   ⟨(some 18), none, .ld none (.t 17)⟩,
   ⟨(some 19), none, .len false (.t 18)⟩,
   ⟨(some 20), none, .mov (.c (.p (.int .i64 0)))⟩])
 (.blk 0 (.loop (.seq (.reg [⟨(some 21), none, .bin .lss (.t 20) (.t 19)⟩])
 (.seq (.cond (.t 21)
  (.skip)
  (.exit 0))
 (.seq (.blk 1 (.seq (.reg [⟨(some 22), none, .mov (.t 20)⟩,
   ⟨(some 23), none, .idxS 3 (.t 18) (.t 20)⟩,
   ⟨(some 24), none, .ld (some 3) (.t 23)⟩,
   ⟨(some 5), none, .alloc [(.p (.str [])), .nils, .nils]⟩,
   ⟨(some 4), none, .mov (.t 22)⟩,
   ⟨none, none, .st 3 (.t 5) (.t 24)⟩])
 (.seq (.reg [⟨(some 25), none, .mov (.t 3)⟩,
   ⟨(some 26), none, .mov (.t 4)⟩,
   ⟨(some 27), none, .nilck (.t 25)⟩,
   ⟨(some 28), none, .fldA 1 (.t 27)⟩,
   ⟨none, none, .st 1 (.t 28) (.t 26)⟩])
 (.seq (.seq (.reg [⟨(some 29), none, .ld (some 1) (.t 1)⟩,
   ⟨(some 30), none, .fldA 0 (.t 5)⟩,
   ⟨(some 31), none, .ld none (.t 30)⟩,
   ⟨(some 32), none, .call n_impl_FnAt [(.t 29), (.t 31)]⟩,
   ⟨(some 33), none, .mov (.t 4)⟩,
   ⟨(some 34), none, .bin .lss (.t 32) (.t 33)⟩])
 (.cond (.t 34)
  (.reg [⟨(some 35), none, .mov (.t 3)⟩,
    ⟨(some 36), none, .call n_impl_checker_fail [(.t 35), (.c (.p (.int .i64 2)))]⟩])
  (.skip)))
 (.seq (.reg [⟨(some 37), none, .call n_impl_scope_open [(.c .nilp)]⟩,
   ⟨(some 6), none, .mov (.t 37)⟩])
 (.seq (.seq (.reg [⟨(some 38), none, .fldA 1 (.t 5)⟩,
   ⟨(some 39), none, .ld none (.t 38)⟩,
   ⟨(some 40), none, .len false (.t 39)⟩,
   ⟨(some 41), none, .mov (.c (.p (.int .i64 0)))⟩])
 (.blk 2 (.loop (.seq (.reg [⟨(some 42), none, .bin .lss (.t 41) (.t 40)⟩])
 (.seq (.cond (.t 42)
  (.skip)
  (.exit 2))
 (.seq (.blk 3 (.seq (.reg [⟨(some 43), none, .idxS 1 (.t 39) (.t 41)⟩,
   ⟨(some 44), none, .ld none (.t 43)⟩,
   ⟨(some 8), none, .mov (.t 44)⟩])
 (.seq (.seq (.reg [⟨(some 46), none, .mov (.t 6)⟩,
   ⟨(some 47), none, .nilck (.t 46)⟩,
   ⟨(some 48), none, .fldA 0 (.t 47)⟩,
   ⟨(some 49), none, .ld none (.t 48)⟩,
   ⟨(some 50), none, .mov (.t 8)⟩,
   ⟨(some 51), none, .lk 1 (.p (.int .i64 0)) true (.t 49) (.t 50)⟩,
   ⟨(some 45), none, .mov (.t 51)⟩,
   ⟨(some 52), none, .ext 0 (.t 45)⟩,
   ⟨(some 53), none, .ext 1 (.t 45)⟩,
   ⟨(some 9), none, .mov (.t 52)⟩,
   ⟨(some 10), none, .mov (.t 53)⟩])
 (.seq (.reg [⟨(some 54), none, .mov (.t 10)⟩])
 (.cond (.t 54)
  (.reg [⟨(some 55), none, .mov (.t 3)⟩,
    ⟨(some 56), none, .call n_impl_checker_fail [(.t 55), (.c (.p (.int .i64 2)))]⟩])
  (.skip))))
 (.reg [⟨(some 57), none, .mov (.t 6)⟩,
   ⟨(some 58), none, .nilck (.t 57)⟩,
   ⟨(some 59), none, .fldA 0 (.t 58)⟩,
   ⟨(some 60), none, .ld none (.t 59)⟩,
   ⟨(some 61), none, .mov (.t 8)⟩,
   ⟨none, none, .mup 1 (.t 60) (.t 61) (.c (.p (.int .i64 0)))⟩]))))
 (.reg [⟨(some 62), none, .bin .add (.t 41) (.c (.p (.int .i64 1)))⟩,
   ⟨(some 41), none, .mov (.t 62)⟩])))))))
 (.reg [⟨(some 63), none, .mov (.t 3)⟩,
   ⟨(some 64), none, .fldA 2 (.t 5)⟩,
   ⟨(some 65), none, .ld none (.t 64)⟩,
   ⟨(some 66), none, .mov (.t 6)⟩,
   ⟨(some 67), none, .call n_impl_checker_block [(.t 63), (.t 65), (.t 66)]⟩])))))))
 (.reg [⟨(some 68), none, .bin .add (.t 20) (.c (.p (.int .i64 1)))⟩,
   ⟨(some 20), none, .mov (.t 68)⟩])))))))
 (.seq (.reg [⟨(some 69), none, .mov (.t 3)⟩,
   ⟨(some 70), none, .nilck (.t 69)⟩,
   ⟨(some 71), none, .fldA 2 (.t 70)⟩,
   ⟨(some 72), none, .ld none (.t 71)⟩,
   ⟨(some 2), none, .mov (.t 72)⟩])
 (.ret)))))⟩
theorem k_impl_CheckProgram : compF Tryd.prog n_impl_CheckProgram = some F_impl_CheckProgram := by kernel_rfl
def F_laws_eqStringS : FK := ⟨26, [.t 4],
 .seq (.reg [⟨(some 4), none, .mov (.c (.p (.bool false)))⟩])
 (.seq (.seq (.reg [⟨(some 6), none, .mov (.t 0)⟩,
   ⟨(some 7), none, .len false (.t 6)⟩,
   ⟨(some 8), none, .mov (.t 1)⟩,
   ⟨(some 9), none, .len false (.t 8)⟩,
   ⟨(some 10), none, .bin .neq (.t 7) (.t 9)⟩])
 (.cond (.t 10)
  (.seq (.reg [⟨(some 4), none, .mov (.c (.p (.bool false)))⟩])
  (.ret))
  (.skip)))
 (.seq (.seq (.reg [⟨(some 5), none, .mov (.c (.p (.int .i64 0)))⟩])
 (.blk 0 (.loop (.seq (.seq (.reg [⟨(some 11), none, .mov (.t 5)⟩,
   ⟨(some 12), none, .mov (.t 0)⟩,
   ⟨(some 13), none, .len false (.t 12)⟩,
   ⟨(some 14), none, .bin .lss (.t 11) (.t 13)⟩])
 (.cond (.t 14)
  (.skip)
  (.exit 0)))
 (.seq (.blk 1 (.seq (.reg [⟨(some 17), none, .mov (.t 0)⟩,
   ⟨(some 18), none, .mov (.t 5)⟩,
   ⟨(some 19), none, .idxS 1 (.t 17) (.t 18)⟩,
   ⟨(some 21), none, .mov (.t 1)⟩,
   ⟨(some 22), none, .mov (.t 5)⟩,
   ⟨(some 23), none, .idxS 1 (.t 21) (.t 22)⟩,
   ⟨(some 20), none, .ld none (.t 19)⟩,
   ⟨(some 24), none, .ld none (.t 23)⟩,
   ⟨(some 25), none, .bins .neq (.t 20) (.t 24)⟩])
 (.cond (.t 25)
  (.seq (.reg [⟨(some 4), none, .mov (.c (.p (.bool false)))⟩])
  (.ret))
  (.skip))))
 (.reg [⟨(some 15), none, .mov (.t 5)⟩,
   ⟨(some 16), none, .bin .add (.t 15) (.c (.p (.int .i64 1)))⟩,
   ⟨(some 5), none, .mov (.t 16)⟩]))))))
 (.seq (.reg [⟨(some 4), none, .mov (.c (.p (.bool true)))⟩])
 (.ret))))⟩
theorem k_laws_eqStringS : compF Tryd.prog n_laws_eqStringS = some F_laws_eqStringS := by kernel_rfl
def F_laws_eqExpr : FK := ⟨26, [.t 4],
 .seq (.reg [⟨(some 2), none, .box 4 (.t 0)⟩,
   ⟨(some 3), none, .box 4 (.t 1)⟩,
   ⟨(some 4), none, .mov (.c (.p (.bool false)))⟩])
 (.seq (.seq (.reg [⟨(some 5), none, .fldA 0 (.t 2)⟩,
   ⟨(some 6), none, .ld none (.t 5)⟩,
   ⟨(some 7), none, .fldA 0 (.t 3)⟩,
   ⟨(some 8), none, .ld none (.t 7)⟩,
   ⟨(some 9), none, .bin .neq (.t 6) (.t 8)⟩])
 (.cond (.t 9)
  (.seq (.reg [⟨(some 4), none, .mov (.c (.p (.bool false)))⟩])
  (.ret))
  (.skip)))
 (.seq (.seq (.reg [⟨(some 10), none, .fldA 1 (.t 2)⟩,
   ⟨(some 11), none, .ld none (.t 10)⟩,
   ⟨(some 12), none, .fldA 1 (.t 3)⟩,
   ⟨(some 13), none, .ld none (.t 12)⟩,
   ⟨(some 14), none, .bin .neq (.t 11) (.t 13)⟩])
 (.cond (.t 14)
  (.seq (.reg [⟨(some 4), none, .mov (.c (.p (.bool false)))⟩])
  (.ret))
  (.skip)))
 (.seq (.seq (.reg [⟨(some 15), none, .fldA 2 (.t 2)⟩,
   ⟨(some 16), none, .ld none (.t 15)⟩,
   ⟨(some 17), none, .fldA 2 (.t 3)⟩,
   ⟨(some 18), none, .ld none (.t 17)⟩,
   ⟨(some 19), none, .bins .neq (.t 16) (.t 18)⟩])
 (.cond (.t 19)
  (.seq (.reg [⟨(some 4), none, .mov (.c (.p (.bool false)))⟩])
  (.ret))
  (.skip)))
 (.seq (.seq (.reg [⟨(some 20), none, .fldA 3 (.t 2)⟩,
   ⟨(some 21), none, .ld none (.t 20)⟩,
   ⟨(some 22), none, .fldA 3 (.t 3)⟩,
   ⟨(some 23), none, .ld none (.t 22)⟩,
   ⟨(some 24), none, .call n_laws_eqExprS [(.t 21), (.t 23)]⟩,
   ⟨(some 25), none, .not (.t 24)⟩])
 (.cond (.t 25)
  (.seq (.reg [⟨(some 4), none, .mov (.c (.p (.bool false)))⟩])
  (.ret))
  (.skip)))
 (.seq (.reg [⟨(some 4), none, .mov (.c (.p (.bool true)))⟩])
 (.ret))))))⟩
theorem k_laws_eqExpr : compF Tryd.prog n_laws_eqExpr = some F_laws_eqExpr := by kernel_rfl
def F_laws_eqExprS : FK := ⟨27, [.t 4],
 .seq (.reg [⟨(some 4), none, .mov (.c (.p (.bool false)))⟩])
 (.seq (.seq (.reg [⟨(some 6), none, .mov (.t 0)⟩,
   ⟨(some 7), none, .len false (.t 6)⟩,
   ⟨(some 8), none, .mov (.t 1)⟩,
   ⟨(some 9), none, .len false (.t 8)⟩,
   ⟨(some 10), none, .bin .neq (.t 7) (.t 9)⟩])
 (.cond (.t 10)
  (.seq (.reg [⟨(some 4), none, .mov (.c (.p (.bool false)))⟩])
  (.ret))
  (.skip)))
 (.seq (.seq (.reg [⟨(some 5), none, .mov (.c (.p (.int .i64 0)))⟩])
 (.blk 0 (.loop (.seq (.seq (.reg [⟨(some 11), none, .mov (.t 5)⟩,
   ⟨(some 12), none, .mov (.t 0)⟩,
   ⟨(some 13), none, .len false (.t 12)⟩,
   ⟨(some 14), none, .bin .lss (.t 11) (.t 13)⟩])
 (.cond (.t 14)
  (.skip)
  (.exit 0)))
 (.seq (.blk 1 (.seq (.reg [⟨(some 17), none, .mov (.t 0)⟩,
   ⟨(some 18), none, .mov (.t 5)⟩,
   ⟨(some 19), none, .idxS 4 (.t 17) (.t 18)⟩,
   ⟨(some 21), none, .mov (.t 1)⟩,
   ⟨(some 22), none, .mov (.t 5)⟩,
   ⟨(some 23), none, .idxS 4 (.t 21) (.t 22)⟩,
   ⟨(some 20), none, .ld (some 4) (.t 19)⟩,
   ⟨(some 24), none, .ld (some 4) (.t 23)⟩,
   ⟨(some 25), none, .call n_laws_eqExpr [(.t 20), (.t 24)]⟩,
   ⟨(some 26), none, .not (.t 25)⟩])
 (.cond (.t 26)
  (.seq (.reg [⟨(some 4), none, .mov (.c (.p (.bool false)))⟩])
  (.ret))
  (.skip))))
 (.reg [⟨(some 15), none, .mov (.t 5)⟩,
   ⟨(some 16), none, .bin .add (.t 15) (.c (.p (.int .i64 1)))⟩,
   ⟨(some 5), none, .mov (.t 16)⟩]))))))
 (.seq (.reg [⟨(some 4), none, .mov (.c (.p (.bool true)))⟩])
 (.ret))))⟩
theorem k_laws_eqExprS : compF Tryd.prog n_laws_eqExprS = some F_laws_eqExprS := by kernel_rfl
def F_laws_eqStmt : FK := ⟨33, [.t 4],
 .seq (.reg [⟨(some 2), none, .box 5 (.t 0)⟩,
   ⟨(some 3), none, .box 5 (.t 1)⟩,
   ⟨(some 4), none, .mov (.c (.p (.bool false)))⟩])
 (.seq (.seq (.reg [⟨(some 5), none, .fldA 0 (.t 2)⟩,
   ⟨(some 6), none, .ld none (.t 5)⟩,
   ⟨(some 7), none, .fldA 0 (.t 3)⟩,
   ⟨(some 8), none, .ld none (.t 7)⟩,
   ⟨(some 9), none, .bin .neq (.t 6) (.t 8)⟩])
 (.cond (.t 9)
  (.seq (.reg [⟨(some 4), none, .mov (.c (.p (.bool false)))⟩])
  (.ret))
  (.skip)))
 (.seq (.seq (.reg [⟨(some 10), none, .fldA 1 (.t 2)⟩,
   ⟨(some 11), none, .ld none (.t 10)⟩,
   ⟨(some 12), none, .fldA 1 (.t 3)⟩,
   ⟨(some 13), none, .ld none (.t 12)⟩,
   ⟨(some 14), none, .bins .neq (.t 11) (.t 13)⟩])
 (.cond (.t 14)
  (.seq (.reg [⟨(some 4), none, .mov (.c (.p (.bool false)))⟩])
  (.ret))
  (.skip)))
 (.seq (.seq (.reg [⟨(some 15), none, .fldA 2 (.t 2)⟩,
   ⟨(some 16), none, .ld none (.t 15)⟩,
   ⟨(some 17), none, .fldA 2 (.t 3)⟩,
   ⟨(some 18), none, .ld none (.t 17)⟩,
   ⟨(some 19), none, .call n_laws_eqExprS [(.t 16), (.t 18)]⟩,
   ⟨(some 20), none, .not (.t 19)⟩])
 (.cond (.t 20)
  (.seq (.reg [⟨(some 4), none, .mov (.c (.p (.bool false)))⟩])
  (.ret))
  (.skip)))
 (.seq (.seq (.reg [⟨(some 21), none, .fldA 3 (.t 2)⟩,
   ⟨(some 22), none, .ld none (.t 21)⟩,
   ⟨(some 23), none, .fldA 3 (.t 3)⟩,
   ⟨(some 24), none, .ld none (.t 23)⟩,
   ⟨(some 25), none, .call n_laws_eqStmtS [(.t 22), (.t 24)]⟩,
   ⟨(some 26), none, .not (.t 25)⟩])
 (.cond (.t 26)
  (.seq (.reg [⟨(some 4), none, .mov (.c (.p (.bool false)))⟩])
  (.ret))
  (.skip)))
 (.seq (.seq (.reg [⟨(some 27), none, .fldA 4 (.t 2)⟩,
   ⟨(some 28), none, .ld none (.t 27)⟩,
   ⟨(some 29), none, .fldA 4 (.t 3)⟩,
   ⟨(some 30), none, .ld none (.t 29)⟩,
   ⟨(some 31), none, .call n_laws_eqStmtS [(.t 28), (.t 30)]⟩,
   ⟨(some 32), none, .not (.t 31)⟩])
 (.cond (.t 32)
  (.seq (.reg [⟨(some 4), none, .mov (.c (.p (.bool false)))⟩])
  (.ret))
  (.skip)))
 (.seq (.reg [⟨(some 4), none, .mov (.c (.p (.bool true)))⟩])
 (.ret)))))))⟩
theorem k_laws_eqStmt : compF Tryd.prog n_laws_eqStmt = some F_laws_eqStmt := by kernel_rfl
def F_laws_eqStmtS : FK := ⟨27, [.t 4],
 .seq (.reg [⟨(some 4), none, .mov (.c (.p (.bool false)))⟩])
 (.seq (.seq (.reg [⟨(some 6), none, .mov (.t 0)⟩,
   ⟨(some 7), none, .len false (.t 6)⟩,
   ⟨(some 8), none, .mov (.t 1)⟩,
   ⟨(some 9), none, .len false (.t 8)⟩,
   ⟨(some 10), none, .bin .neq (.t 7) (.t 9)⟩])
 (.cond (.t 10)
  (.seq (.reg [⟨(some 4), none, .mov (.c (.p (.bool false)))⟩])
  (.ret))
  (.skip)))
 (.seq (.seq (.reg [⟨(some 5), none, .mov (.c (.p (.int .i64 0)))⟩])
 (.blk 0 (.loop (.seq (.seq (.reg [⟨(some 11), none, .mov (.t 5)⟩,
   ⟨(some 12), none, .mov (.t 0)⟩,
   ⟨(some 13), none, .len false (.t 12)⟩,
   ⟨(some 14), none, .bin .lss (.t 11) (.t 13)⟩])
 (.cond (.t 14)
  (.skip)
  (.exit 0)))
 (.seq (.blk 1 (.seq (.reg [⟨(some 17), none, .mov (.t 0)⟩,
   ⟨(some 18), none, .mov (.t 5)⟩,
   ⟨(some 19), none, .idxS 5 (.t 17) (.t 18)⟩,
   ⟨(some 21), none, .mov (.t 1)⟩,
   ⟨(some 22), none, .mov (.t 5)⟩,
   ⟨(some 23), none, .idxS 5 (.t 21) (.t 22)⟩,
   ⟨(some 20), none, .ld (some 5) (.t 19)⟩,
   ⟨(some 24), none, .ld (some 5) (.t 23)⟩,
   ⟨(some 25), none, .call n_laws_eqStmt [(.t 20), (.t 24)]⟩,
   ⟨(some 26), none, .not (.t 25)⟩])
 (.cond (.t 26)
  (.seq (.reg [⟨(some 4), none, .mov (.c (.p (.bool false)))⟩])
  (.ret))
  (.skip))))
 (.reg [⟨(some 15), none, .mov (.t 5)⟩,
   ⟨(some 16), none, .bin .add (.t 15) (.c (.p (.int .i64 1)))⟩,
   ⟨(some 5), none, .mov (.t 16)⟩]))))))
 (.seq (.reg [⟨(some 4), none, .mov (.c (.p (.bool true)))⟩])
 (.ret))))⟩
theorem k_laws_eqStmtS : compF Tryd.prog n_laws_eqStmtS = some F_laws_eqStmtS := by kernel_rfl
def F_laws_eqFn : FK := ⟨22, [.t 4],
 .seq (.reg [⟨(some 2), none, .box 3 (.t 0)⟩,
   ⟨(some 3), none, .box 3 (.t 1)⟩,
   ⟨(some 4), none, .mov (.c (.p (.bool false)))⟩])
 (.seq (.seq (.reg [⟨(some 5), none, .fldA 0 (.t 2)⟩,
   ⟨(some 6), none, .ld none (.t 5)⟩,
   ⟨(some 7), none, .fldA 0 (.t 3)⟩,
   ⟨(some 8), none, .ld none (.t 7)⟩,
   ⟨(some 9), none, .bins .neq (.t 6) (.t 8)⟩])
 (.cond (.t 9)
  (.seq (.reg [⟨(some 4), none, .mov (.c (.p (.bool false)))⟩])
  (.ret))
  (.skip)))
 (.seq (.seq (.reg [⟨(some 10), none, .fldA 1 (.t 2)⟩,
   ⟨(some 11), none, .ld none (.t 10)⟩,
   ⟨(some 12), none, .fldA 1 (.t 3)⟩,
   ⟨(some 13), none, .ld none (.t 12)⟩,
   ⟨(some 14), none, .call n_laws_eqStringS [(.t 11), (.t 13)]⟩,
   ⟨(some 15), none, .not (.t 14)⟩])
 (.cond (.t 15)
  (.seq (.reg [⟨(some 4), none, .mov (.c (.p (.bool false)))⟩])
  (.ret))
  (.skip)))
 (.seq (.seq (.reg [⟨(some 16), none, .fldA 2 (.t 2)⟩,
   ⟨(some 17), none, .ld none (.t 16)⟩,
   ⟨(some 18), none, .fldA 2 (.t 3)⟩,
   ⟨(some 19), none, .ld none (.t 18)⟩,
   ⟨(some 20), none, .call n_laws_eqStmtS [(.t 17), (.t 19)]⟩,
   ⟨(some 21), none, .not (.t 20)⟩])
 (.cond (.t 21)
  (.seq (.reg [⟨(some 4), none, .mov (.c (.p (.bool false)))⟩])
  (.ret))
  (.skip)))
 (.seq (.reg [⟨(some 4), none, .mov (.c (.p (.bool true)))⟩])
 (.ret)))))⟩
theorem k_laws_eqFn : compF Tryd.prog n_laws_eqFn = some F_laws_eqFn := by kernel_rfl
def F_laws_eqFnS : FK := ⟨27, [.t 4],
 .seq (.reg [⟨(some 4), none, .mov (.c (.p (.bool false)))⟩])
 (.seq (.seq (.reg [⟨(some 6), none, .mov (.t 0)⟩,
   ⟨(some 7), none, .len false (.t 6)⟩,
   ⟨(some 8), none, .mov (.t 1)⟩,
   ⟨(some 9), none, .len false (.t 8)⟩,
   ⟨(some 10), none, .bin .neq (.t 7) (.t 9)⟩])
 (.cond (.t 10)
  (.seq (.reg [⟨(some 4), none, .mov (.c (.p (.bool false)))⟩])
  (.ret))
  (.skip)))
 (.seq (.seq (.reg [⟨(some 5), none, .mov (.c (.p (.int .i64 0)))⟩])
 (.blk 0 (.loop (.seq (.seq (.reg [⟨(some 11), none, .mov (.t 5)⟩,
   ⟨(some 12), none, .mov (.t 0)⟩,
   ⟨(some 13), none, .len false (.t 12)⟩,
   ⟨(some 14), none, .bin .lss (.t 11) (.t 13)⟩])
 (.cond (.t 14)
  (.skip)
  (.exit 0)))
 (.seq (.blk 1 (.seq (.reg [⟨(some 17), none, .mov (.t 0)⟩,
   ⟨(some 18), none, .mov (.t 5)⟩,
   ⟨(some 19), none, .idxS 3 (.t 17) (.t 18)⟩,
   ⟨(some 21), none, .mov (.t 1)⟩,
   ⟨(some 22), none, .mov (.t 5)⟩,
   ⟨(some 23), none, .idxS 3 (.t 21) (.t 22)⟩,
   ⟨(some 20), none, .ld (some 3) (.t 19)⟩,
   ⟨(some 24), none, .ld (some 3) (.t 23)⟩,
   ⟨(some 25), none, .call n_laws_eqFn [(.t 20), (.t 24)]⟩,
   ⟨(some 26), none, .not (.t 25)⟩])
 (.cond (.t 26)
  (.seq (.reg [⟨(some 4), none, .mov (.c (.p (.bool false)))⟩])
  (.ret))
  (.skip))))
 (.reg [⟨(some 15), none, .mov (.t 5)⟩,
   ⟨(some 16), none, .bin .add (.t 15) (.c (.p (.int .i64 1)))⟩,
   ⟨(some 5), none, .mov (.t 16)⟩]))))))
 (.seq (.reg [⟨(some 4), none, .mov (.c (.p (.bool true)))⟩])
 (.ret))))⟩
theorem k_laws_eqFnS : compF Tryd.prog n_laws_eqFnS = some F_laws_eqFnS := by kernel_rfl
def F_laws_eqProgram : FK := ⟨11, [.t 4],
 .seq (.reg [⟨(some 2), none, .box 1 (.t 0)⟩,
   ⟨(some 3), none, .box 1 (.t 1)⟩,
   ⟨(some 4), none, .mov (.c (.p (.bool false)))⟩])
 (.seq (.seq (.reg [⟨(some 5), none, .fldA 0 (.t 2)⟩,
   ⟨(some 6), none, .ld none (.t 5)⟩,
   ⟨(some 7), none, .fldA 0 (.t 3)⟩,
   ⟨(some 8), none, .ld none (.t 7)⟩,
   ⟨(some 9), none, .call n_laws_eqFnS [(.t 6), (.t 8)]⟩,
   ⟨(some 10), none, .not (.t 9)⟩])
 (.cond (.t 10)
  (.seq (.reg [⟨(some 4), none, .mov (.c (.p (.bool false)))⟩])
  (.ret))
  (.skip)))
 (.seq (.reg [⟨(some 4), none, .mov (.c (.p (.bool true)))⟩])
 (.ret)))⟩
theorem k_laws_eqProgram : compF Tryd.prog n_laws_eqProgram = some F_laws_eqProgram := by kernel_rfl
end Go.Proofs.YtiojgfhdcpppcaaDoor
namespace Go.Proofs.YtiojgfhdcpppcaaDoor
open Go Go.Aw
set_option maxRecDepth 100000
set_option maxHeartbeats 4000000
theorem take_succ' {α : Type} {xs : List α} {i : Nat} (h : i < xs.length) : xs.take (i + 1) = xs.take i ++ [xs[i]] := by
  rw [List.take_add_one, List.getElem?_eq_getElem h]; rfl
def strL (l : List (List UInt8)) : PV := .lst 1 (l.map fun w => [.str w])
def strR (l : List (List UInt8)) : List (List AV) := l.map fun w => [.p (.str w)]
def strO (l : List (List UInt8)) : AO := .row 1 (l.map fun n => [.p (.str n)])
theorem strR_pure (l : List (List UInt8)) : ∀ x ∈ strR l, belowL 0 x := by
  intro x hx; obtain ⟨m, _, rfl⟩ := List.mem_map.1 hx; simp [belowL, below]
theorem strO_view {l : List (List UInt8)} {id : Nat} {h : List AO} (e : h[id]? = some (strO l)) : View h (.sl id 1 0 l.length) (strL l) := by
  have := view_row (h := h) (id := id) (sz := 1) (n := l.length) (ls := l.map fun n => [.str n]) (by rw [e, strO]; simp) (by simp) (fun x hx => by obtain ⟨b, _, rfl⟩ := List.mem_map.1 hx; rfl)
  exact this
end Go.Proofs.YtiojgfhdcpppcaaDoor
namespace Go.Proofs.YtiojgfhdcpppcaaDoor
open Go Go.Aw
set_option maxRecDepth 100000
set_option maxHeartbeats 4000000
def isLet (c : UInt8) : Bool := decide (97 ≤ c.toNat) && decide (c.toNat ≤ 122)
def keyW : List (List UInt8) := [[102, 110], [108, 101, 116], [115, 97, 121], [112, 117, 116], [105, 102], [101, 108, 115, 101], [108, 111, 111, 112], [98, 97, 99, 107], [100, 111]]
def isName (s : List UInt8) : Bool := s.all isLet && decide (0 < s.length) && decide (s.length ≤ 4) && !keyW.contains s
def signW : List UInt8 := [40, 41, 123, 125, 59, 44, 43, 45, 42, 47, 37, 60, 61, 38, 33, 64]
def findB (s : List UInt8) (c : Int) : Int := match s.findIdx? (fun x => (x.toNat : Int) == c) with | some i => i | none => -1
def clsOf (c : Int) : Int := if 97 ≤ c ∧ c ≤ 122 then 1 else if 48 ≤ c ∧ c ≤ 57 then 2 else if 0 ≤ findB signW c then 3 else if c = 32 ∨ c = 10 then 4 else 0
theorem cls_let (x : UInt8) : (clsOf (x.toNat : Int) = 1) ↔ isLet x = true := by
  have h : (97 ≤ (x.toNat : Int) ∧ (x.toNat : Int) ≤ 122) ↔ isLet x = true := by simp [isLet]; omega
  unfold clsOf
  constructor
  · intro e
    split at e
    · rename_i h1; exact h.1 h1
    · repeat' split at e
      all_goals omega
  · intro e; rw [if_pos (h.2 e)]
def idxN (s : List UInt8) : Int := match s.findIdx? (fun x => !isLet x) with | some i => i | none => -1
theorem idxN_neg (s : List UInt8) : decide (idxN s < 0) = s.all isLet := by
  unfold idxN
  cases h : s.findIdx? (fun x => !isLet x) with
  | none =>
    rw [List.findIdx?_eq_none_iff] at h
    have : s.all isLet = true := List.all_eq_true.2 fun x hx => by have := h x hx; simpa using this
    simp [this]
  | some i =>
    rw [List.findIdx?_eq_some_iff_getElem] at h
    obtain ⟨h1, h2, _⟩ := h
    have : s.all isLet = false := List.all_eq_false.2 ⟨_, List.getElem_mem h1, by simpa using h2⟩
    rw [this]; simp
def idxS (l : List (List UInt8)) (s : List UInt8) : Int := match l.findIdx? (fun w => w == s) with | some i => i | none => -1
theorem idxS_pos (l : List (List UInt8)) (s : List UInt8) : decide (0 ≤ idxS l s) = l.contains s := by
  unfold idxS
  cases h : l.findIdx? (fun w => w == s) with
  | none =>
    rw [List.findIdx?_eq_none_iff] at h
    have : l.contains s = false := by
      cases hc : l.contains s with
      | false => rfl
      | true =>
        have hm : s ∈ l := by simpa using hc
        have := h s hm
        simp at this
    rw [this]; simp
  | some i =>
    rw [List.findIdx?_eq_some_iff_getElem] at h
    obtain ⟨h1, h2, _⟩ := h
    have : l.contains s = true := by
      simp only [beq_iff_eq] at h2
      rw [List.contains_iff_mem, ← h2]; exact List.getElem_mem h1
    rw [this]; simp
variable (G : Glob)
theorem s_l30Find (s : List UInt8) (c : Int) (hb : s.length ≤ 1048576) : VF Tryd.prog G n_spec_l30Find [.p (.str s), .p (.int .u8 c)] (.p (.int .i64 (findB s c))) := by
  refine AC.go k_spec_l30Find ?_
  simp -implicitDefEqProofs [F_spec_l30Find]
  refine loopA (fun i : Nat => tsOf 18 [(0, .p (.str s)), (1, .p (.int .u8 c)), (5, .p (.int .i64 i))]) (fun _ => []) (fun i => i ≤ s.length ∧ ∀ x ∈ s.take i, (x.toNat : Int) ≠ c) (fun i => s.length - i) 0 (by simp) ?_ ?_
  · exact wkt_nil rfl (by simp [below])
  · intro i ⟨hi, hn⟩
    simp -implicitDefEqProofs []
    refine cndb (fun h1 => ?_) (fun h1 => ?_)
    · simp at h1
      have hg := List.getElem?_eq_getElem h1
      by_cases he : (s[i].toNat : Int) = c
      · have hf : findB s c = i := by
          have : s.findIdx? (fun x => (x.toNat : Int) == c) = some i := by
            rw [List.findIdx?_eq_some_iff_getElem]
            exact ⟨h1, by simpa using he, fun j hj => by have := hn s[j] (List.mem_take_iff_getElem.2 ⟨j, by omega, rfl⟩); simpa using this⟩
          rw [findB, this]
        simp -implicitDefEqProofs [hg, he, hf]
      · simp -implicitDefEqProofs [hg, he]
        refine ⟨i + 1, ⟨h1, fun p hp => ?_⟩, by omega, wkt_nil rfl ?_⟩
        · rw [take_succ' h1] at hp
          rcases List.mem_append.1 hp with hp | hp
          · exact hn p hp
          · rw [List.mem_singleton.1 hp]; exact he
        · simp [below, w1 (i := i) (by omega)]
    · simp at h1
      rw [List.take_of_length_le h1] at hn
      have hf : findB s c = -1 := by
        have : s.findIdx? (fun x => (x.toNat : Int) == c) = none := by
          rw [List.findIdx?_eq_none_iff]; intro x hx; simpa using hn x hx
        rw [findB, this]
      simp -implicitDefEqProofs [hf]
theorem s_l1Class (c : Int) : VF Tryd.prog G n_spec_l1Class [.p (.int .u8 c)] (.p (.int .i64 (clsOf c))) := by
  refine AC.go k_spec_l1Class ?_
  simp -implicitDefEqProofs [F_spec_l1Class]
  unfold clsOf
  by_cases h1 : 97 ≤ c
  · by_cases h2 : c ≤ 122
    · simp -implicitDefEqProofs [h1, h2]
    · have h3 : ¬ c ≤ 57 := by omega
      have h4 : ¬ c = 32 := by omega
      have h5 : ¬ c = 10 := by omega
      have h6 : 48 ≤ c := by omega
      simp -implicitDefEqProofs [h1, h2, h3, h6]
      refine (s_l30Find G signW c (by decide)).use ?_
      generalize findB signW c = w
      by_cases hf : 0 ≤ w
      · simp -implicitDefEqProofs [hf]
      · simp -implicitDefEqProofs [hf, h4, h5]
  · simp -implicitDefEqProofs [h1]
    by_cases h2 : 48 ≤ c
    · by_cases h3 : c ≤ 57
      · simp -implicitDefEqProofs [h2, h3]
      · have h4 : ¬ c = 32 := by omega
        have h5 : ¬ c = 10 := by omega
        simp -implicitDefEqProofs [h2, h3]
        refine (s_l30Find G signW c (by decide)).use ?_
        generalize findB signW c = w
        by_cases hf : 0 ≤ w
        · simp -implicitDefEqProofs [hf]
        · simp -implicitDefEqProofs [hf, h4, h5]
    · simp -implicitDefEqProofs [h2]
      refine (s_l30Find G signW c (by decide)).use ?_
      generalize findB signW c = w
      by_cases hf : 0 ≤ w
      · simp -implicitDefEqProofs [hf]
      · by_cases h4 : c = 32
        · simp -implicitDefEqProofs [hf, h4]
        · by_cases h5 : c = 10
          · simp -implicitDefEqProofs [hf, h4, h5]
          · simp -implicitDefEqProofs [hf, h4, h5]
theorem s_l1All (s : List UInt8) (hb : s.length ≤ 140737488355328) : VF Tryd.prog G n_spec_l1All [.p (.str s), .p (.int .i64 1)] (.p (.bool (s.all isLet && decide (0 < s.length)))) := by
  refine AC.go k_spec_l1All ?_
  simp -implicitDefEqProofs [F_spec_l1All]
  refine loopA (fun i : Nat => tsOf 21 [(0, .p (.str s)), (1, .p (.int .i64 1)), (5, .p (.int .i64 i))]) (fun _ => []) (fun i => i ≤ s.length ∧ ∀ x ∈ s.take i, isLet x = true) (fun i => s.length - i) 0 (by simp) ?_ ?_
  · exact wkt_nil rfl (by simp [below])
  · intro i ⟨hi, hn⟩
    simp -implicitDefEqProofs []
    refine cndb (fun h1 => ?_) (fun h1 => ?_)
    · simp at h1
      have hg := List.getElem?_eq_getElem h1
      simp -implicitDefEqProofs [hg]
      refine (s_l1Class G _).use ?_
      have hcl := cls_let s[i]
      by_cases he : isLet s[i] = true
      · have hc := hcl.2 he
        simp -implicitDefEqProofs [hc]
        refine ⟨i + 1, ⟨h1, fun p hp => ?_⟩, by omega, wkt_nil rfl ?_⟩
        · rw [take_succ' h1] at hp
          rcases List.mem_append.1 hp with hp | hp
          · exact hn p hp
          · rw [List.mem_singleton.1 hp]; exact he
        · simp [below, w1 (i := i) (by omega)]
      · have hc : ¬ clsOf (s[i].toNat : Int) = 1 := fun e => he (hcl.1 e)
        have ha : s.all isLet = false := List.all_eq_false.2 ⟨_, List.getElem_mem h1, by simpa using he⟩
        simp -implicitDefEqProofs [hc, ha]
    · simp at h1
      rw [List.take_of_length_le h1] at hn
      have ha : s.all isLet = true := List.all_eq_true.2 hn
      simp -implicitDefEqProofs [ha]
theorem s_KeyWords : VF Tryd.prog G n_spec_KeyWords [] (.p (strL keyW)) := by
  have key : AC Tryd.prog G n_spec_KeyWords [] [] fun x h => x = .ret (.sl 0 1 0 9) ∧ h = [.row 1 (keyW.map fun w => [.p (.str w)])] := by
    refine AC.go k_spec_KeyWords ?_
    simp -implicitDefEqProofs [F_spec_KeyWords, keyW]
  exact AC.freeze key (.one (view_row (ls := keyW.map fun w => [.str w]) (by simp) (by simp [keyW]) (by simp)) .nil)
theorem s_l1Key (s : List UInt8) : VF Tryd.prog G n_spec_l1Key [.p (.str s)] (.p (.bool (keyW.contains s))) := by
  refine AC.go k_spec_l1Key ?_
  have hsl : strL keyW = .lst 1 (keyW.map fun w => [.str w]) := rfl
  have hkl : keyW.length = 9 := rfl
  simp -implicitDefEqProofs [F_spec_l1Key]
  refine (s_KeyWords G).use ?_
  simp -implicitDefEqProofs []
  refine loopA (fun i : Nat => tsOf 18 [(0, .p (.str s)), (3, .p (strL keyW)), (4, .p (.int .i64 i))]) (fun _ => []) (fun i => i ≤ keyW.length ∧ ∀ w ∈ keyW.take i, w ≠ s) (fun i => keyW.length - i) 0 (by simp) ?_ ?_
  · exact wkt_nil rfl (by simp [below, strL])
  · intro i ⟨hi, hn⟩
    generalize keyW = L at *
    simp -implicitDefEqProofs [hsl]
    refine cndb (fun h1 => ?_) (fun h1 => ?_)
    · simp at h1
      have hg := List.getElem?_eq_getElem h1
      by_cases he : L[i] = s
      · have hm : s ∈ L := by rw [← he]; exact List.getElem_mem h1
        simp -implicitDefEqProofs [hg, he, hm]
      · simp -implicitDefEqProofs [hg, he]
        refine ⟨i + 1, ⟨h1, fun p hp => ?_⟩, by omega, wkt_nil rfl ?_⟩
        · rw [take_succ' h1] at hp
          rcases List.mem_append.1 hp with hp | hp
          · exact hn p hp
          · rw [List.mem_singleton.1 hp]; exact he
        · simp [below, w1 (i := i) (by omega)]
    · simp at h1
      rw [List.take_of_length_le h1] at hn
      have hm : ¬ s ∈ L := fun hm => hn s hm rfl
      simp -implicitDefEqProofs [hm]
theorem s_IsName (s : List UInt8) (hb : s.length ≤ 140737488355328) : VF Tryd.prog G n_spec_IsName [.p (.str s)] (.p (.bool (isName s))) := by
  refine AC.go k_spec_IsName ?_
  simp -implicitDefEqProofs [F_spec_IsName]
  refine (s_l1All G s hb).use ?_
  cases h1 : (s.all isLet && decide (0 < s.length)) with
  | false =>
    have hi : isName s = false := by rw [isName, h1]; rfl
    simp -implicitDefEqProofs [hi]
  | true =>
    by_cases h4 : s.length ≤ 4
    · have h4i : (s.length : Int) ≤ 4 := by omega
      have hi : isName s = !keyW.contains s := by rw [isName, h1]; simp [h4]
      simp -implicitDefEqProofs [h4i]
      refine (s_l1Key G s).use ?_
      rw [hi]
      simp -implicitDefEqProofs []
    · have h4i : ¬ (s.length : Int) ≤ 4 := by omega
      have hi : isName s = false := by rw [isName, h1]; simp [h4]
      simp -implicitDefEqProofs [h4i, hi]
end Go.Proofs.YtiojgfhdcpppcaaDoor
namespace Go.Proofs.YtiojgfhdcpppcaaDoor
open Go Go.Aw
set_option maxRecDepth 100000
inductive Ex where
  | mk (op n : Int) (name : List UInt8) (kids : List Ex)
inductive Sm where
  | mk (op : Int) (name : List UInt8) (args : List Ex) (body els : List Sm)
structure Fd where (name : List UInt8) (params : List (List UInt8)) (body : List Sm)
def Ex.op : Ex → Int | .mk o _ _ _ => o
def Ex.n : Ex → Int | .mk _ n _ _ => n
def Ex.name : Ex → List UInt8 | .mk _ _ s _ => s
def Ex.kids : Ex → List Ex | .mk _ _ _ k => k
def Sm.op : Sm → Int | .mk o _ _ _ _ => o
def Sm.name : Sm → List UInt8 | .mk _ s _ _ _ => s
def Sm.args : Sm → List Ex | .mk _ _ a _ _ => a
def Sm.body : Sm → List Sm | .mk _ _ _ b _ => b
def Sm.els : Sm → List Sm | .mk _ _ _ _ e => e
mutual
def Ex.cs : Ex → List PV
  | .mk o n s k => [.int .i64 o, .int .i64 n, .str s, .lst 4 (exsC k)]
def exsC : List Ex → List (List PV)
  | [] => []
  | e :: r => e.cs :: exsC r
end
mutual
def Sm.cs : Sm → List PV
  | .mk o s a b e => [.int .i64 o, .str s, .lst 4 (exsC a), .lst 5 (smsC b), .lst 5 (smsC e)]
def smsC : List Sm → List (List PV)
  | [] => []
  | s :: r => s.cs :: smsC r
end
theorem exsC_map : ∀ l : List Ex, exsC l = l.map Ex.cs
  | [] => rfl
  | e :: r => by rw [exsC, exsC_map r]; rfl
theorem smsC_map : ∀ l : List Sm, smsC l = l.map Sm.cs
  | [] => rfl
  | e :: r => by rw [smsC, smsC_map r]; rfl
def exL (l : List Ex) : PV := .lst 4 (l.map Ex.cs)
def smL (l : List Sm) : PV := .lst 5 (l.map Sm.cs)
theorem Ex.cs_eq (e : Ex) : e.cs = [.int .i64 e.op, .int .i64 e.n, .str e.name, exL e.kids] := by
  cases e; rw [Ex.cs, exsC_map]; rfl
theorem Sm.cs_eq (s : Sm) : s.cs = [.int .i64 s.op, .str s.name, exL s.args, smL s.body, smL s.els] := by
  cases s; rw [Sm.cs, exsC_map, smsC_map, smsC_map]; rfl
@[simp] theorem Ex.cs_len (e : Ex) : e.cs.length = 4 := by cases e; rfl
@[simp] theorem Ex.cs_take (e : Ex) : List.take 4 (e.cs.map AV.p) = e.cs.map AV.p := by cases e; rfl
@[simp] theorem Sm.cs_len (s : Sm) : s.cs.length = 5 := by cases s; rfl
@[simp] theorem Sm.cs_take (s : Sm) : List.take 5 (s.cs.map AV.p) = s.cs.map AV.p := by cases s; rfl
def Fd.cs (f : Fd) : List PV := [.str f.name, strL f.params, smL f.body]
@[simp] theorem Fd.cs_len (f : Fd) : f.cs.length = 3 := rfl
@[simp] theorem Fd.cs_take (f : Fd) : List.take 3 (f.cs.map AV.p) = f.cs.map AV.p := rfl
def fdL (l : List Fd) : PV := .lst 3 (l.map Fd.cs)
mutual
/-- Parts and letters. -/
def Ex.sz : Ex → Nat
  | .mk _ _ s k => 1 + s.length + exsZ k
def exsZ : List Ex → Nat
  | [] => 0
  | e :: r => e.sz + exsZ r
end
mutual
def Sm.sz : Sm → Nat
  | .mk _ s a b e => 1 + s.length + exsZ a + smsZ b + smsZ e
def smsZ : List Sm → Nat
  | [] => 0
  | s :: r => s.sz + smsZ r
end
def Fd.sz (f : Fd) : Nat := 1 + f.name.length + (f.params.length + (f.params.map List.length).sum) + smsZ f.body
def fdsZ (l : List Fd) : Nat := (l.map Fd.sz).sum
theorem Ex.sz_eq (e : Ex) : e.sz = 1 + e.name.length + exsZ e.kids := by cases e; rfl
theorem Sm.sz_eq (s : Sm) : s.sz = 1 + s.name.length + exsZ s.args + smsZ s.body + smsZ s.els := by cases s; rfl
theorem exsZ_append : ∀ a b : List Ex, exsZ (a ++ b) = exsZ a + exsZ b
  | [], b => by simp [exsZ]
  | e :: r, b => by simp only [List.cons_append, exsZ, exsZ_append r b]; omega
theorem smsZ_append : ∀ a b : List Sm, smsZ (a ++ b) = smsZ a + smsZ b
  | [], b => by simp [smsZ]
  | e :: r, b => by simp only [List.cons_append, smsZ, smsZ_append r b]; omega
theorem exsZ_mem : ∀ {l : List Ex} {e : Ex}, e ∈ l → e.sz ≤ exsZ l
  | x :: r, e, h => by
    simp only [exsZ]
    rcases List.mem_cons.1 h with rfl | h
    · omega
    · have := exsZ_mem h; omega
theorem smsZ_mem : ∀ {l : List Sm} {e : Sm}, e ∈ l → e.sz ≤ smsZ l
  | x :: r, e, h => by
    simp only [smsZ]
    rcases List.mem_cons.1 h with rfl | h
    · omega
    · have := smsZ_mem h; omega
theorem exsZ_len : ∀ l : List Ex, l.length ≤ exsZ l
  | [] => Nat.le_refl _
  | e :: r => by have := exsZ_len r; have := e.sz_eq; simp only [exsZ, List.length_cons]; omega
theorem smsZ_len : ∀ l : List Sm, l.length ≤ smsZ l
  | [] => Nat.le_refl _
  | e :: r => by have := smsZ_len r; have := e.sz_eq; simp only [smsZ, List.length_cons]; omega
mutual
/-- Parts. -/
def Ex.parts : Ex → Nat
  | .mk _ _ _ k => 1 + exsP k
def exsP : List Ex → Nat
  | [] => 0
  | e :: r => e.parts + exsP r
end
theorem Ex.parts_eq (e : Ex) : e.parts = 1 + exsP e.kids := by cases e; rfl
theorem exsP_append : ∀ a b : List Ex, exsP (a ++ b) = exsP a + exsP b
  | [], b => by simp [exsP]
  | e :: r, b => by simp only [List.cons_append, exsP, exsP_append r b]; omega
mutual
theorem Ex.parts_le : ∀ e : Ex, e.parts ≤ e.sz
  | .mk _ _ s k => by have := exsP_le k; simp only [Ex.parts, Ex.sz]; omega
theorem exsP_le : ∀ l : List Ex, exsP l ≤ exsZ l
  | [] => Nat.le_refl _
  | e :: r => by have := e.parts_le; have := exsP_le r; simp only [exsP, exsZ]; omega
end
mutual
/-- Statements. -/
def Sm.cnt : Sm → Nat
  | .mk _ _ _ b e => 1 + smsN b + smsN e
def smsN : List Sm → Nat
  | [] => 0
  | s :: r => s.cnt + smsN r
end
theorem Sm.cnt_eq (s : Sm) : s.cnt = 1 + smsN s.body + smsN s.els := by cases s; rfl
theorem smsN_append : ∀ a b : List Sm, smsN (a ++ b) = smsN a + smsN b
  | [], b => by simp [smsN]
  | e :: r, b => by simp only [List.cons_append, smsN, smsN_append r b]; omega
mutual
theorem Sm.cnt_le : ∀ s : Sm, s.cnt ≤ s.sz
  | .mk _ s a b e => by have := smsN_le b; have := smsN_le e; simp only [Sm.cnt, Sm.sz]; omega
theorem smsN_le : ∀ l : List Sm, smsN l ≤ smsZ l
  | [] => Nat.le_refl _
  | e :: r => by have := e.cnt_le; have := smsN_le r; simp only [smsN, smsZ]; omega
end
def inR (n lo hi : Int) : Bool := decide (lo ≤ n) && decide (n ≤ hi)
def loK (op : Int) : Nat := if op = 1 ∨ op = 2 then 0 else if op = 11 ∨ op = 12 then 1 else if op = 13 then 0 else 2
def hiK (op : Int) : Nat := if op = 1 ∨ op = 2 then 0 else if op = 11 ∨ op = 12 then 1 else if op = 13 then 3 else 2
def nmdE (op : Int) : Bool := decide (op = 2) || decide (op = 13)
def headE (e : Ex) : Bool := inR e.op 1 13 && inR e.kids.length (loK e.op) (hiK e.op) && (nmdE e.op == isName e.name) && (nmdE e.op || decide (e.name = [])) && inR e.n 0 255 && (decide (e.op = 1) || decide (e.n = 0))
def formE : Nat → Ex → Bool
  | 0, _ => false
  | d + 1, e => headE e && e.kids.all (formE d)
def exOk (e : Ex) : Bool := formE 6 e && decide (e.parts ≤ 30)
def argsN (op : Int) : Nat := if op = 4 then 2 else 1
def nmdS (op : Int) : Bool := decide (op = 1) || decide (op = 2)
def headS (s : Sm) : Bool := inR s.op 1 8 && decide (s.args.length = argsN s.op) && (nmdS s.op == isName s.name) && (nmdS s.op || decide (s.name = [])) && s.args.all exOk &&
  (!decide (s.op = 8) || (match s.args with | a :: _ => decide (a.op = 13) | [] => false)) && (s.els.isEmpty || decide (s.op = 5)) && (s.body.isEmpty || decide (s.op = 5) || decide (s.op = 6))
def formS : Nat → Sm → Bool
  | 0, _ => false
  | d + 1, s => headS s && s.body.all (formS d) && s.els.all (formS d)
def fdOk (f : Fd) : Bool := f.params.all isName && isName f.name && decide (f.params.length ≤ 3) && f.body.all (formS 4)
def allN (l : List Fd) : Nat := (l.map fun f => smsN f.body).sum
def progOk (l : List Fd) : Bool := inR l.length 1 4 && l.all fdOk && decide (allN l ≤ 40)
end Go.Proofs.YtiojgfhdcpppcaaDoor
namespace Go.Proofs.YtiojgfhdcpppcaaDoor
open Go Go.Aw
set_option maxRecDepth 100000
/-- A variable that can be used. -/
structure LV where (name : List UInt8) (num block : Nat)
/-- What a look has come to: the variables, the last one first; how many there were; what is wrong. -/
structure WS where (vs : List LV) (count : Nat) (code : Int)
def fl (c k : Int) : Int := if c = 0 then k else c
theorem fl_ne {c k : Int} (h : c ≠ 0) : fl c k = c := if_neg h
def lkV (vs : List LV) (s : List UInt8) : Option LV := vs.find? fun v => decide (v.name = s)
def fnAt (fns : List Fd) (s : List UInt8) : Option Nat := fns.findIdx? fun f => decide (f.name = s)
def parN (fns : List Fd) (j : Nat) : Nat := match fns[j]? with | some f => f.params.length | none => 0
def useC (vs : List LV) (s : List UInt8) (c : Int) : Int := match lkV vs s with | none => fl c 3 | some _ => c
def callC (fns : List Fd) (k : Nat) (s : List UInt8) (n : Nat) (c : Int) : Int :=
  match fnAt fns s with | none => fl c 4 | some j => if k ≤ j then fl c 4 else if parN fns j = n then c else fl c 5
def headC (fns : List Fd) (k : Nat) (vs : List LV) (o : Int) (s : List UInt8) (n : Nat) (c : Int) : Int :=
  if o = 2 then useC vs s c else if o = 13 then callC fns k s n c else c
mutual
def chkE (fns : List Fd) (k : Nat) (vs : List LV) : Ex → Int → Int
  | .mk o _ s ks, c => chkEs fns k vs ks (headC fns k vs o s ks.length c)
def chkEs (fns : List Fd) (k : Nat) (vs : List LV) : List Ex → Int → Int
  | [], c => c
  | e :: r, c => chkEs fns k vs r (chkE fns k vs e c)
end
def vnm (n : Nat) : List UInt8 := [118, UInt8.ofNat (97 + n % 26)]
def useN (vs : List LV) (s : List UInt8) : List UInt8 := match lkV vs s with | none => s | some v => vnm v.num
mutual
def rnE (vs : List LV) : Ex → Ex
  | .mk o n s ks => .mk o n (if o = 2 then useN vs s else s) (rnEs vs ks)
def rnEs (vs : List LV) : List Ex → List Ex
  | [] => []
  | e :: r => rnE vs e :: rnEs vs r
end
def putC (vs : List LV) (s : List UInt8) (b : Nat) (c : Int) : Int := match lkV vs s with | none => c | some v => if v.block = b then fl c 2 else c
def putW (w : WS) (s : List UInt8) (b : Nat) : WS := ⟨⟨s, w.count, b⟩ :: w.vs, w.count + 1, putC w.vs s b w.code⟩
def opW (o : Int) (s : List UInt8) (b : Nat) (w : WS) : WS := if o = 1 then putW w s b else if o = 2 then ⟨w.vs, w.count, useC w.vs s w.code⟩ else w
def opN (o : Int) (s : List UInt8) (w : WS) : List UInt8 := if o = 1 then vnm w.count else if o = 2 then useN w.vs s else s
/-- Back to the variables of before. -/
def WS.back (w : WS) (vs : List LV) : WS := ⟨vs, w.count, w.code⟩
mutual
def stW (fns : List Fd) (k b : Nat) : Sm → WS → WS
  | .mk o s a bd el, w =>
    let w2 := opW o s b ⟨w.vs, w.count, chkEs fns k w.vs a w.code⟩
    let w3 := (stsW fns k (b + 1) bd w2).back w2.vs
    (stsW fns k (b + 1) el w3).back w2.vs
def stsW (fns : List Fd) (k b : Nat) : List Sm → WS → WS
  | [], w => w
  | s :: r, w => stsW fns k b r (stW fns k b s w)
end
def putsW (ps : List (List UInt8)) (w : WS) : WS := ps.foldl (fun w s => putW w s 0) w
def fnW (fns : List Fd) (k : Nat) (f : Fd) : WS := stsW fns k 0 f.body (putsW f.params ⟨[], 0, if fnAt fns f.name = some k then 0 else 2⟩)
def firstC (fns : List Fd) : Nat → List Fd → Int
  | _, [] => 0
  | k, f :: r => if (fnW fns k f).code = 0 then firstC fns (k + 1) r else (fnW fns k f).code
def chkProg (fns : List Fd) : Int := if progOk fns then firstC fns 0 fns else 1
abbrev Scp := List (List UInt8 × Nat)
def hasS (m : Scp) (s : List UInt8) : Option Nat := (m.find? fun x => decide (x.1 = s)).map (·.2)
def setS : Scp → List UInt8 → Nat → Scp
  | [], s, n => [(s, n)]
  | x :: r, s, n => if x.1 = s then (s, n) :: r else x :: setS r s n
def fndS : List Scp → List UInt8 → Option Nat
  | [], _ => none
  | m :: r, s => match hasS m s with | some n => some n | none => fndS r s
def visC (fns : List Fd) (k : Nat) (ch : List Scp) (c : Int) (e : Ex) : Int :=
  if e.op = 2 then (if (fndS ch e.name).isSome then c else fl c 3)
  else if e.op = 13 then (match fnAt (fns.take k) e.name with | none => fl c 4 | some j => if parN fns j = e.kids.length then c else fl c 5)
  else c
mutual
def Ex.pre : Ex → List Ex
  | .mk o n s ks => .mk o n s ks :: pres ks
def pres : List Ex → List Ex
  | [] => []
  | e :: r => e.pre ++ pres r
end
def icEs (fns : List Fd) (k : Nat) (ch : List Scp) (l : List Ex) (c : Int) : Int := (pres l).foldl (visC fns k ch) c
def opS (o : Int) (s : List UInt8) (m : Scp) (n : Nat) : Scp := if o = 1 then setS m s n else m
def opC (o : Int) (s : List UInt8) (m : Scp) (up : List Scp) (c : Int) : Int :=
  if o = 1 then (if (hasS m s).isSome then fl c 2 else c) else if o = 2 then (if (fndS (m :: up) s).isSome then c else fl c 3) else c
mutual
def icS (fns : List Fd) (k : Nat) : Sm → Scp → List Scp → Int → Scp × Int
  | .mk o s a bd el, m, up, c =>
    let m2 := opS o s m 0
    let c2 := opC o s m up (icEs fns k (m :: up) a c)
    (m2, if o = 5 ∨ o = 6 then (icSs fns k el [] (m2 :: up) (icSs fns k bd [] (m2 :: up) c2).2).2 else c2)
def icSs (fns : List Fd) (k : Nat) : List Sm → Scp → List Scp → Int → Scp × Int
  | [], m, _, c => (m, c)
  | s :: r, m, up, c => icSs fns k r (icS fns k s m up c).1 up (icS fns k s m up c).2
end
def icPs (ps : List (List UInt8)) (m : Scp) (c : Int) : Scp × Int := ps.foldl (fun x s => (setS x.1 s 0, if (hasS x.1 s).isSome then fl x.2 2 else x.2)) (m, c)
def icF (fns : List Fd) (k : Nat) (f : Fd) (c : Int) : Int :=
  let c1 := if (match fnAt fns f.name with | some j => decide (j < k) | none => true) then fl c 2 else c
  let x := icPs f.params [] c1
  (icSs fns k f.body x.1 [] x.2).2
def icAll (fns : List Fd) : Nat → List Fd → Int → Int
  | _, [], c => c
  | k, f :: r, c => icAll fns (k + 1) r (icF fns k f c)
/-- Blocks' variables and the scopes; what a scope notes of a variable. -/
def SR (g : LV → Nat) : Nat → List LV → List Scp → Prop
  | _, _, [] => False
  | b, vs, m :: up => ∃ v1 v2, vs = v1 ++ v2 ∧ (∀ v ∈ v1, v.block = b) ∧ (∀ s, (lkV v1 s).map g = hasS m s) ∧ match b with
    | 0 => v2 = [] ∧ up = []
    | b + 1 => SR g b v2 up
theorem lkV_app (a b : List LV) (s : List UInt8) : lkV (a ++ b) s = match lkV a s with | some v => some v | none => lkV b s := by
  simp only [lkV, List.find?_append]
  cases List.find? (fun v => decide (v.name = s)) a <;> rfl
variable {g : LV → Nat}
theorem SR.blk : ∀ {b : Nat} {vs : List LV} {ch : List Scp}, SR g b vs ch → ∀ v ∈ vs, v.block ≤ b
  | b, _, [], h, v, hv => by cases b <;> exact False.elim h
  | 0, vs, m :: up, ⟨v1, v2, e, h1, _, h3, _⟩, v, hv => by
    subst e; subst h3
    rw [List.append_nil] at hv
    exact Nat.le_of_eq (h1 v hv)
  | b + 1, vs, m :: up, ⟨v1, v2, e, h1, _, h3⟩, v, hv => by
    subst e
    rcases List.mem_append.1 hv with h | h
    · exact Nat.le_of_eq (h1 v h)
    · exact Nat.le_succ_of_le (SR.blk h3 v h)
theorem SR.fnd : ∀ {b : Nat} {vs : List LV} {ch : List Scp}, SR g b vs ch → ∀ s, (lkV vs s).map g = fndS ch s
  | b, _, [], h, s => by cases b <;> exact False.elim h
  | 0, vs, m :: up, ⟨v1, v2, e, h1, h2, h3, h4⟩, s => by
    subst e; subst h3; subst h4
    rw [List.append_nil, h2, fndS]
    cases hasS m s <;> rfl
  | b + 1, vs, m :: up, ⟨v1, v2, e, h1, h2, h3⟩, s => by
    subst e
    have ih := SR.fnd h3 s
    have h2 := h2 s
    rw [lkV_app, fndS, ← h2]
    cases e1 : lkV v1 s with
    | some v => rfl
    | none => exact ih
theorem SR.is {b : Nat} {vs : List LV} {ch : List Scp} (h : SR g b vs ch) (s : List UInt8) : (lkV vs s).isSome = (fndS ch s).isSome := by rw [← h.fnd s, Option.isSome_map]
theorem lkV_mem {vs : List LV} {s : List UInt8} {v : LV} (h : lkV vs s = some v) : v ∈ vs := List.mem_of_find?_eq_some h
theorem SR.put : ∀ {b : Nat} {vs : List LV} {m : Scp} {up : List Scp}, SR g b vs (m :: up) → ∀ (s : List UInt8) (c : Int), putC vs s b c = if (hasS m s).isSome then fl c 2 else c := by
  intro b vs m up h s c
  have key : ∀ v1 v2 : List LV, (∀ v ∈ v1, v.block = b) → (lkV v1 s).map g = hasS m s → (∀ v ∈ v2, v.block ≠ b) → putC (v1 ++ v2) s b c = if (hasS m s).isSome then fl c 2 else c := by
    intro v1 v2 h1 h2 h3
    rw [← h2, putC, lkV_app]
    cases e1 : lkV v1 s with
    | some v => simp [h1 v (lkV_mem e1)]
    | none =>
      cases e2 : lkV v2 s with
      | none => rfl
      | some v => simp [h3 v (lkV_mem e2)]
  match b, h with
  | 0, ⟨v1, v2, e, h1, h2, h3, _⟩ => subst e; subst h3; exact key v1 [] h1 (h2 s) (fun v hv => by simp at hv)
  | b + 1, ⟨v1, v2, e, h1, h2, h3⟩ => subst e; exact key v1 v2 h1 (h2 s) (fun v hv e => by have := h3.blk v hv; omega)
theorem hasS_set : ∀ (m : Scp) (s : List UInt8) (n : Nat) (t : List UInt8), hasS (setS m s n) t = if s = t then some n else hasS m t
  | [], s, n, t => by
    by_cases h : s = t
    · simp [setS, hasS, h]
    · simp [setS, hasS, h]
  | x :: r, s, n, t => by
    have ih := hasS_set r s n t
    simp only [hasS] at ih
    by_cases hx : x.1 = s
    · by_cases h : s = t
      · simp [setS, hasS, hx, h]
      · have : ¬ x.1 = t := by rw [hx]; exact h
        simp [setS, hasS, hx, h]
    · by_cases ht : x.1 = t
      · have : ¬ s = t := fun e => hx (ht.trans e.symm)
        rw [setS, if_neg hx, if_neg this]; simp [hasS, ht]
      · simp only [setS, hasS, if_neg hx, List.find?_cons, ht, decide_false]
        exact ih
theorem SR.add {b : Nat} {vs : List LV} {m : Scp} {up : List Scp} (h : SR g b vs (m :: up)) (s : List UInt8) (n k : Nat) (hg : g ⟨s, n, b⟩ = k) : SR g b (⟨s, n, b⟩ :: vs) (setS m s k :: up) := by
  have key : ∀ v1 : List LV, (∀ s, (lkV v1 s).map g = hasS m s) → ∀ t, (lkV (⟨s, n, b⟩ :: v1) t).map g = hasS (setS m s k) t := by
    intro v1 h2 t
    rw [hasS_set]
    by_cases e : s = t
    · simp [lkV, e, ← hg]
    · rw [if_neg e, ← h2 t]; simp [lkV, e]
  match b, h with
  | 0, ⟨v1, v2, e, h1, h2, h3⟩ =>
    subst e
    refine ⟨⟨s, n, 0⟩ :: v1, v2, rfl, fun v hv => ?_, key v1 h2, h3⟩
    rcases List.mem_cons.1 hv with rfl | hv
    · rfl
    · exact h1 v hv
  | b + 1, ⟨v1, v2, e, h1, h2, h3⟩ =>
    subst e
    refine ⟨⟨s, n, b + 1⟩ :: v1, v2, rfl, fun v hv => ?_, key v1 h2, h3⟩
    rcases List.mem_cons.1 hv with rfl | hv
    · rfl
    · exact h1 v hv
theorem SR.open {b : Nat} {vs : List LV} {ch : List Scp} (h : SR g b vs ch) : SR g (b + 1) vs ([] :: ch) := ⟨[], vs, rfl, fun v hv => by simp at hv, fun s => rfl, h⟩
theorem SR.base : SR g 0 [] [[]] := ⟨[], [], rfl, fun v hv => by simp at hv, fun s => rfl, rfl, rfl⟩
theorem findIdx_take {α : Type} {p : α → Bool} {l : List α} {k : Nat} : (l.take k).findIdx? p = match l.findIdx? p with | some j => if j < k then some j else none | none => none := by
  cases h : l.findIdx? p with
  | none =>
    rw [List.findIdx?_eq_none_iff] at h ⊢
    exact fun x hx => h x (List.mem_of_mem_take hx)
  | some j =>
    rw [List.findIdx?_eq_some_iff_getElem] at h
    obtain ⟨h1, h2, h3⟩ := h
    simp only
    split
    · rename_i hj
      rw [List.findIdx?_eq_some_iff_getElem]
      exact ⟨by rw [List.length_take]; omega, by rw [List.getElem_take]; exact h2, fun i hi => by rw [List.getElem_take]; exact h3 i hi⟩
    · rename_i hj
      rw [List.findIdx?_eq_none_iff]
      intro x hx
      obtain ⟨i, hi, rfl⟩ := List.mem_take_iff_getElem.1 hx
      simpa using h3 i (by omega)
theorem head_vis (fns : List Fd) (k : Nat) {vs : List LV} {ch : List Scp} (h : ∀ s, (lkV vs s).isSome = (fndS ch s).isSome) (e : Ex) (c : Int) : headC fns k vs e.op e.name e.kids.length c = visC fns k ch c e := by
  unfold headC visC
  split
  · rw [← h, useC]; cases lkV vs e.name <;> rfl
  · split
    · rw [callC, fnAt, fnAt, findIdx_take]
      cases List.findIdx? (fun f => decide (f.name = e.name)) fns with
      | none => rfl
      | some j =>
        simp only
        by_cases hj : j < k
        · rw [if_neg (by omega), if_pos hj]
        · rw [if_pos (by omega), if_neg hj]
    · rfl
mutual
theorem chkE_eq (fns : List Fd) (k : Nat) {vs : List LV} {ch : List Scp} (h : ∀ s, (lkV vs s).isSome = (fndS ch s).isSome) : ∀ (e : Ex) (c : Int), chkE fns k vs e c = e.pre.foldl (visC fns k ch) c
  | .mk o n s ks, c => by
    rw [chkE, Ex.pre, List.foldl_cons, ← chkEs_eq fns k h ks, ← head_vis fns k h]; rfl
theorem chkEs_eq (fns : List Fd) (k : Nat) {vs : List LV} {ch : List Scp} (h : ∀ s, (lkV vs s).isSome = (fndS ch s).isSome) : ∀ (l : List Ex) (c : Int), chkEs fns k vs l c = (pres l).foldl (visC fns k ch) c
  | [], c => rfl
  | e :: r, c => by rw [chkEs, pres, List.foldl_append, chkE_eq fns k h e, chkEs_eq fns k h r]
end
abbrev g0 : LV → Nat := fun _ => 0
theorem opW_eq {b : Nat} {w : WS} {m : Scp} {up : List Scp} (h : SR g0 b w.vs (m :: up)) (o : Int) (s : List UInt8) : SR g0 b (opW o s b w).vs (opS o s m 0 :: up) ∧ (opW o s b w).code = opC o s m up w.code := by
  unfold opW opS opC
  by_cases h1 : o = 1
  · simp only [h1, if_true]
    exact ⟨h.add s _ 0 rfl, h.put s _⟩
  · simp only [if_neg h1]
    split
    · refine ⟨h, ?_⟩
      have := h.is s
      simp only [useC]
      rw [← this]
      cases lkV w.vs s <;> rfl
    · exact ⟨h, rfl⟩
theorem formS_flat {d : Nat} {o : Int} {s : List UInt8} {a : List Ex} {bd el : List Sm} (h : formS (d + 1) (.mk o s a bd el) = true) : bd.all (formS d) = true ∧ el.all (formS d) = true ∧ (¬ (o = 5 ∨ o = 6) → bd = [] ∧ el = []) := by
  simp only [formS, headS, Sm.op, Sm.body, Sm.els, Bool.and_eq_true, Bool.or_eq_true, decide_eq_true_eq, List.isEmpty_iff] at h
  refine ⟨h.1.2, h.2, fun hn => ⟨?_, ?_⟩⟩
  · rcases h.1.1.2 with (h | h) | h
    · exact h
    · exact absurd (.inl (of_decide_eq_true h)) hn
    · exact absurd (.inr (of_decide_eq_true h)) hn
  · rcases h.1.1.1.2 with h | h
    · exact h
    · exact absurd (.inl (of_decide_eq_true h)) hn
theorem back_code (w : WS) (vs : List LV) : (w.back vs).code = w.code := rfl
theorem sts_eq (fns : List Fd) (k : Nat) : ∀ (d b : Nat) (l : List Sm), l.all (formS d) = true → ∀ (w : WS) (m : Scp) (up : List Scp), SR g0 b w.vs (m :: up) →
    SR g0 b (stsW fns k b l w).vs ((icSs fns k l m up w.code).1 :: up) ∧ (stsW fns k b l w).code = (icSs fns k l m up w.code).2 := by
  intro d
  induction d with
  | zero =>
    intro b l hl w m up h
    cases l with
    | nil => exact ⟨h, rfl⟩
    | cons s r => simp [formS] at hl
  | succ d ih =>
    have one : ∀ (b : Nat) (s : Sm), formS (d + 1) s = true → ∀ (w : WS) (m : Scp) (up : List Scp), SR g0 b w.vs (m :: up) →
        SR g0 b (stW fns k b s w).vs ((icS fns k s m up w.code).1 :: up) ∧ (stW fns k b s w).code = (icS fns k s m up w.code).2 := by
      intro b s hs w m up h
      obtain ⟨o, n, a, bd, el⟩ := s
      obtain ⟨f1, f2, f3⟩ := formS_flat hs
      have hc := chkEs_eq fns k h.is a w.code
      obtain ⟨g1, g2⟩ := opW_eq (w := ⟨w.vs, w.count, chkEs fns k w.vs a w.code⟩) h o n
      rw [stW, icS]
      simp only [hc] at g1 g2 ⊢
      generalize hw2 : opW o n b ⟨w.vs, w.count, (pres a).foldl (visC fns k (m :: up)) w.code⟩ = w2 at *
      refine ⟨g1, ?_⟩
      rw [back_code]
      have g2' : w2.code = opC o n m up (icEs fns k (m :: up) a w.code) := g2
      rw [← g2']
      by_cases ho : o = 5 ∨ o = 6
      · rw [if_pos ho]
        have k1 := ih (b + 1) bd f1 w2 [] _ g1.open
        have k2 := ih (b + 1) el f2 ((stsW fns k (b + 1) bd w2).back w2.vs) [] _ g1.open
        rw [k2.2, back_code, k1.2]
      · obtain ⟨rfl, rfl⟩ := f3 ho
        rw [if_neg ho]
        simp [stsW, WS.back]
    intro b l
    induction l with
    | nil => intro _ w m up h; exact ⟨h, rfl⟩
    | cons s r ihl =>
      intro hl w m up h
      rw [List.all_cons, Bool.and_eq_true] at hl
      obtain ⟨k1, k2⟩ := one b s hl.1 w m up h
      have := ihl hl.2 _ _ up k1
      rw [stsW, icSs, ← k2]
      exact this
theorem puts_eq : ∀ (ps : List (List UInt8)) (w : WS) (m : Scp), SR g0 0 w.vs [m] → SR g0 0 (putsW ps w).vs [(icPs ps m w.code).1] ∧ (putsW ps w).code = (icPs ps m w.code).2
  | [], w, m, h => ⟨h, rfl⟩
  | s :: r, w, m, h => by
    have hp := h.put s w.code
    have := puts_eq r (putW w s 0) (setS m s 0) (h.add s w.count 0 rfl)
    simp only [putsW, icPs, List.foldl_cons] at this ⊢
    rw [← hp]
    exact this
theorem vis_stay {fns : List Fd} {k : Nat} {ch : List Scp} {c : Int} (h : c ≠ 0) (e : Ex) : visC fns k ch c e = c := by
  unfold visC
  simp only [fl_ne h]
  split
  · split <;> rfl
  · split
    · split
      · rfl
      · split <;> rfl
    · rfl
theorem fold_stay {fns : List Fd} {k : Nat} {ch : List Scp} {c : Int} (h : c ≠ 0) : ∀ l : List Ex, l.foldl (visC fns k ch) c = c
  | [] => rfl
  | e :: r => by rw [List.foldl_cons, vis_stay h, fold_stay h r]
theorem opC_stay {o : Int} {s : List UInt8} {m : Scp} {up : List Scp} {c : Int} (h : c ≠ 0) : opC o s m up c = c := by
  unfold opC
  simp only [fl_ne h]
  split
  · split <;> rfl
  · split
    · split <;> rfl
    · rfl
mutual
theorem icS_stay (fns : List Fd) (k : Nat) {c : Int} (h : c ≠ 0) : ∀ (s : Sm) (m : Scp) (up : List Scp), (icS fns k s m up c).2 = c
  | .mk o s a bd el, m, up => by
    rw [icS]
    simp only [icEs, fold_stay h, opC_stay h]
    rw [icSs_stay fns k h bd, icSs_stay fns k h el, ite_self]
theorem icSs_stay (fns : List Fd) (k : Nat) {c : Int} (h : c ≠ 0) : ∀ (l : List Sm) (m : Scp) (up : List Scp), (icSs fns k l m up c).2 = c
  | [], m, up => rfl
  | s :: r, m, up => by rw [icSs, icS_stay fns k h s m up, icSs_stay fns k h r]
end
theorem icPs_stay {c : Int} (h : c ≠ 0) : ∀ (ps : List (List UInt8)) (m : Scp), (icPs ps m c).2 = c
  | [], m => rfl
  | s :: r, m => by
    have := icPs_stay h r (setS m s 0)
    simp only [icPs, List.foldl_cons, fl_ne h, ite_self] at this ⊢
    exact this
theorem icF_stay (fns : List Fd) (k : Nat) (f : Fd) {c : Int} (h : c ≠ 0) : icF fns k f c = c := by
  simp only [icF, fl_ne h, ite_self]
  rw [icPs_stay h, icSs_stay fns k h]
theorem icAll_stay (fns : List Fd) {c : Int} (h : c ≠ 0) : ∀ (l : List Fd) (k : Nat), icAll fns k l c = c
  | [], k => rfl
  | f :: r, k => by rw [icAll, icF_stay fns k f h, icAll_stay fns h r]
theorem fnAt_self {fns : List Fd} {k : Nat} {f : Fd} (h : fns[k]? = some f) : ∃ j, fnAt fns f.name = some j ∧ j ≤ k := by
  cases e : fnAt fns f.name with
  | none =>
    rw [fnAt, List.findIdx?_eq_none_iff] at e
    have := e f (List.mem_of_getElem? h)
    simp at this
  | some j =>
    refine ⟨j, rfl, ?_⟩
    rw [fnAt, List.findIdx?_eq_some_iff_getElem] at e
    obtain ⟨h1, h2, h3⟩ := e
    rcases Nat.lt_or_ge k j with hk | hk
    · have := h3 k hk
      obtain ⟨a1, a2⟩ := List.getElem?_eq_some_iff.1 h
      rw [a2] at this
      simp at this
    · exact hk
theorem fn_eq (fns : List Fd) {k : Nat} {f : Fd} (hf : fns[k]? = some f) (hok : fdOk f = true) : (fnW fns k f).code = icF fns k f 0 := by
  obtain ⟨j, e1, e2⟩ := fnAt_self hf
  have hb : f.body.all (formS 4) = true := by simp only [fdOk, Bool.and_eq_true] at hok; exact hok.2
  have hc : (if fnAt fns f.name = some k then (0 : Int) else 2) = if (match fnAt fns f.name with | some j => decide (j < k) | none => true) then fl 0 2 else 0 := by
    rw [e1]
    by_cases h : j = k
    · subst h; simp
    · have : j < k := by omega
      simp [h, this, fl]
  obtain ⟨p1, p2⟩ := puts_eq f.params ⟨[], 0, if fnAt fns f.name = some k then (0 : Int) else 2⟩ [] SR.base
  obtain ⟨q1, q2⟩ := sts_eq fns k 4 0 f.body hb _ _ [] p1
  rw [fnW, q2, p2]
  simp only [icF, ← hc]
theorem all_eq (fns : List Fd) : ∀ (l : List Fd) (k : Nat), (∀ i, l[i]? = fns[k + i]?) → l.all fdOk = true → firstC fns k l = icAll fns k l 0
  | [], k, _, _ => rfl
  | f :: r, k, hl, ha => by
    rw [List.all_cons, Bool.and_eq_true] at ha
    have h0 : fns[k]? = some f := by have := hl 0; simpa using this.symm
    have hr : ∀ i, r[i]? = fns[k + 1 + i]? := fun i => by have := hl (i + 1); rw [List.getElem?_cons_succ] at this; rw [this]; congr 1; omega
    rw [firstC, icAll, fn_eq fns h0 ha.1]
    split
    · rename_i e; rw [e]; exact all_eq fns r (k + 1) hr ha.2
    · rename_i e; rw [icAll_stay fns e]
theorem chkProg_eq (fns : List Fd) : chkProg fns = if progOk fns then icAll fns 0 fns 0 else 1 := by
  unfold chkProg
  split
  · rename_i h
    simp only [progOk, Bool.and_eq_true] at h
    exact all_eq fns fns 0 (fun i => by rw [Nat.zero_add]) h.1.2
  · rfl
end Go.Proofs.YtiojgfhdcpppcaaDoor
namespace Go.Proofs.YtiojgfhdcpppcaaDoor
open Go Go.Aw
set_option maxRecDepth 100000
mutual
def rnS (fns : List Fd) (k b : Nat) : Sm → WS → Sm
  | .mk o s a bd el, w =>
    let w2 := opW o s b ⟨w.vs, w.count, chkEs fns k w.vs a w.code⟩
    .mk o (opN o s w) (rnEs w.vs a) (rnSs fns k (b + 1) bd w2) (rnSs fns k (b + 1) el ((stsW fns k (b + 1) bd w2).back w2.vs))
def rnSs (fns : List Fd) (k b : Nat) : List Sm → WS → List Sm
  | [], _ => []
  | s :: r, w => rnS fns k b s w :: rnSs fns k b r (stW fns k b s w)
end
def rnPs : List (List UInt8) → WS → List (List UInt8)
  | [], _ => []
  | s :: r, w => vnm w.count :: rnPs r (putW w s 0)
def rnF (fns : List Fd) (k : Nat) (f : Fd) : Fd :=
  ⟨f.name, rnPs f.params ⟨[], 0, if fnAt fns f.name = some k then 0 else 2⟩, rnSs fns k 0 f.body (putsW f.params ⟨[], 0, if fnAt fns f.name = some k then 0 else 2⟩)⟩
mutual
/-- How many variables statements make. -/
def letS : Sm → Nat
  | .mk o _ _ bd el => (if o = 1 then 1 else 0) + letSs bd + letSs el
def letSs : List Sm → Nat
  | [] => 0
  | s :: r => letS s + letSs r
end
theorem opW_count (o : Int) (s : List UInt8) (b : Nat) (w : WS) : (opW o s b w).count = w.count + if o = 1 then 1 else 0 := by
  unfold opW
  split
  · rfl
  · split <;> rfl
mutual
theorem stW_count (fns : List Fd) (k : Nat) : ∀ (s : Sm) (b : Nat) (w : WS), (stW fns k b s w).count = w.count + letS s
  | .mk o s a bd el, b, w => by
    rw [stW, letS]
    simp only [WS.back]
    rw [stsW_count fns k el, stsW_count fns k bd, opW_count]; show w.count + _ + _ + _ = _
    omega
theorem stsW_count (fns : List Fd) (k : Nat) : ∀ (l : List Sm) (b : Nat) (w : WS), (stsW fns k b l w).count = w.count + letSs l
  | [], b, w => rfl
  | s :: r, b, w => by rw [stsW, letSs, stsW_count fns k r, stW_count fns k s]; omega
end
mutual
theorem letS_le : ∀ s : Sm, letS s ≤ s.cnt
  | .mk o s a bd el => by
    have := letSs_le bd
    have := letSs_le el
    simp only [letS, Sm.cnt]
    split <;> omega
theorem letSs_le : ∀ l : List Sm, letSs l ≤ smsN l
  | [] => Nat.le_refl _
  | s :: r => by have := letS_le s; have := letSs_le r; simp only [letSs, smsN]; omega
end
theorem putsW_count : ∀ (ps : List (List UInt8)) (w : WS), (putsW ps w).count = w.count + ps.length
  | [], w => rfl
  | s :: r, w => by
    have := putsW_count r (putW w s 0)
    simp only [putsW, List.foldl_cons, List.length_cons] at this ⊢
    rw [this]; simp only [putW]; omega
theorem fnW_count (fns : List Fd) (k : Nat) (f : Fd) : (fnW fns k f).count = f.params.length + letSs f.body := by
  rw [fnW, stsW_count, putsW_count]; simp
theorem opW_ext (o : Int) (s : List UInt8) (b : Nat) (w : WS) : ∃ e, (opW o s b w).vs = e ++ w.vs := by
  unfold opW
  split
  · exact ⟨[_], rfl⟩
  · split <;> exact ⟨[], rfl⟩
theorem stW_vs (fns : List Fd) (k b : Nat) (o : Int) (s : List UInt8) (a : List Ex) (bd el : List Sm) (w : WS) : (stW fns k b (.mk o s a bd el) w).vs = (opW o s b ⟨w.vs, w.count, chkEs fns k w.vs a w.code⟩).vs := rfl
theorem stsW_ext (fns : List Fd) (k : Nat) : ∀ (l : List Sm) (b : Nat) (w : WS), ∃ e, (stsW fns k b l w).vs = e ++ w.vs
  | [], b, w => ⟨[], rfl⟩
  | .mk o s a bd el :: r, b, w => by
    obtain ⟨e1, h1⟩ := stsW_ext fns k r b (stW fns k b (.mk o s a bd el) w)
    obtain ⟨e2, h2⟩ := opW_ext o s b ⟨w.vs, w.count, chkEs fns k w.vs a w.code⟩
    exact ⟨e1 ++ e2, by rw [stsW, h1, stW_vs, h2, List.append_assoc]⟩
theorem opW_le {o : Int} {s : List UInt8} {b : Nat} {w : WS} (h : w.vs.length ≤ w.count) : (opW o s b w).vs.length ≤ (opW o s b w).count := by
  unfold opW
  split
  · simp [putW, h]
  · split <;> exact h
theorem stW_le (fns : List Fd) (k : Nat) {s : Sm} {b : Nat} {w : WS} (h : w.vs.length ≤ w.count) : (stW fns k b s w).vs.length ≤ (stW fns k b s w).count := by
  obtain ⟨o, n, a, bd, el⟩ := s
  rw [stW_count, stW_vs]
  have := opW_le (o := o) (s := n) (b := b) (w := ⟨w.vs, w.count, chkEs fns k w.vs a w.code⟩) h
  rw [opW_count] at this
  simp only [letS]
  simp only at this
  omega
theorem stsW_le (fns : List Fd) (k : Nat) : ∀ {l : List Sm} {b : Nat} {w : WS}, w.vs.length ≤ w.count → (stsW fns k b l w).vs.length ≤ (stsW fns k b l w).count
  | [], _, _, h => h
  | s :: r, b, w, h => stsW_le fns k (l := r) (stW_le fns k h)
mutual
def Sm.pre (d : Nat) : Sm → List (Sm × Nat)
  | .mk o s a bd el => (.mk o s a bd el, d) :: (smsPre (d + 1) bd ++ smsPre (d + 1) el)
def smsPre (d : Nat) : List Sm → List (Sm × Nat)
  | [] => []
  | s :: r => Sm.pre d s ++ smsPre d r
end
theorem Sm.pre_eq (d : Nat) (s : Sm) : s.pre d = (s, d) :: (smsPre (d + 1) s.body ++ smsPre (d + 1) s.els) := by cases s; rfl
theorem smsPre_app (d : Nat) : ∀ a b : List Sm, smsPre d (a ++ b) = smsPre d a ++ smsPre d b
  | [], b => rfl
  | s :: r, b => by rw [List.cons_append, smsPre, smsPre, smsPre_app d r b, List.append_assoc]
theorem Ex.pre_eq (e : Ex) : e.pre = e :: pres e.kids := by cases e; rfl
theorem pres_app : ∀ a b : List Ex, pres (a ++ b) = pres a ++ pres b
  | [], b => rfl
  | e :: r, b => by rw [List.cons_append, pres, pres, pres_app r b, List.append_assoc]
mutual
theorem Sm.pre_len : ∀ (s : Sm) (d : Nat), (s.pre d).length = s.cnt
  | .mk o s a bd el, d => by simp only [Sm.pre, Sm.cnt, List.length_cons, List.length_append, smsPre_len bd, smsPre_len el]; omega
theorem smsPre_len : ∀ (l : List Sm) (d : Nat), (smsPre d l).length = smsN l
  | [], d => rfl
  | s :: r, d => by simp only [smsPre, smsN, List.length_append, Sm.pre_len s, smsPre_len r]
end
end Go.Proofs.YtiojgfhdcpppcaaDoor
