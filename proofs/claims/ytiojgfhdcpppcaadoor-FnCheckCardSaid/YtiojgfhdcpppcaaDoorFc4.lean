/-
  Contracts and lemmas that the card needs, part 4.
-/
import Derived.Test.YtiojgfhdcpppcaaDoorFc3
import Derived.Test.YtiojgfhdcpppcaaDoorRows
import Derived.Laws.RangeAny
import Derived.Laws.RangeString
namespace Go.Proofs.YtiojgfhdcpppcaaDoor
open Go Go.Aw
set_option maxRecDepth 100000
abbrev n_spec_l1In : FuncId := 35
abbrev n_spec_l30Find : FuncId := 120
abbrev n_spec_l1Class : FuncId := 109
abbrev n_spec_l1All : FuncId := 96
abbrev n_spec_KeyWords : FuncId := 110
abbrev n_spec_l1Key : FuncId := 97
abbrev n_spec_IsName : FuncId := 72
abbrev n_spec_l3Args : FuncId := 111
abbrev n_spec_l2Kids : FuncId := 128
abbrev n_spec_l2Form : FuncId := 121
abbrev n_spec_l2Parts : FuncId := 122
abbrev n_spec_ExprValid : FuncId := 112
abbrev n_spec_l3Stmt : FuncId := 98
abbrev n_spec_l3Stmts : FuncId := 73
abbrev n_spec_l3Fn : FuncId := 40
abbrev n_spec_l3Count : FuncId := 74
abbrev n_spec_l3All : FuncId := 41
abbrev n_spec_ProgramValid : FuncId := 18
abbrev n_spec_FnAt : FuncId := 42
abbrev n_spec_l4Walk_fail : FuncId := 43
abbrev n_spec_l4Walk_find : FuncId := 75
abbrev n_spec_l4Name : FuncId := 76
abbrev n_spec_l4Walk_put : FuncId := 44
abbrev n_spec_l4Walk_use : FuncId := 78
abbrev n_spec_l4Walk_expr : FuncId := 77
abbrev n_spec_l4Walk_stmts : FuncId := 45
abbrev n_spec_l4Fn : FuncId := 19
abbrev n_spec_CheckProgram : FuncId := 8
abbrev n_impl_within : FuncId := 28
abbrev n_strings_indexFunc : FuncId := 89
abbrev n_strings_IndexFunc : FuncId := 58
abbrev n_slices_Index_string : FuncId := 90
abbrev n_slices_Contains_string : FuncId := 60
abbrev n_impl_IsName_1 : FuncId := 59
abbrev n_impl_IsName : FuncId := 29
abbrev n_slices_IndexFunc_string : FuncId := 61
abbrev n_slices_ContainsFunc_string : FuncId := 30
abbrev n_slices_IndexFunc_impl_Stmt : FuncId := 91
abbrev n_slices_ContainsFunc_impl_Stmt : FuncId := 62
abbrev n_impl_argCount : FuncId := 92
abbrev n_impl_isByte : FuncId := 116
abbrev n_impl_levelOf : FuncId := 117
abbrev n_impl_exprSize : FuncId := 105
abbrev n_impl_ExprValid : FuncId := 93
abbrev n_impl_stmtOk : FuncId := 64
abbrev n_impl_blockOk_1 : FuncId := 63
abbrev n_impl_blockOk : FuncId := 32
abbrev n_impl_stmts : FuncId := 65
abbrev n_impl_measure_1 : FuncId := 66
abbrev n_impl_measure : FuncId := 33
abbrev n_impl_ProgramValid_1 : FuncId := 31
abbrev n_impl_ProgramValid : FuncId := 13
abbrev n_slices_IndexFunc_impl_Fn : FuncId := 47
abbrev n_impl_FnAt_1 : FuncId := 48
abbrev n_impl_FnAt : FuncId := 21
abbrev n_impl_checker_fail : FuncId := 22
abbrev n_impl_scope_open : FuncId := 23
abbrev n_impl_parts : FuncId := 81
abbrev n_impl_scope_find : FuncId := 50
abbrev n_impl_checker_expr_1 : FuncId := 82
abbrev n_impl_checker_expr : FuncId := 49
abbrev n_impl_checker_block : FuncId := 24
abbrev n_impl_CheckProgram : FuncId := 10
abbrev n_spec_l30Open : FuncId := 27
abbrev n_spec_l30Rd_pick : FuncId := 53
abbrev n_spec_l30Rd_num : FuncId := 69
abbrev n_spec_l30Rd_of : FuncId := 56
abbrev n_spec_l2Leaf : FuncId := 103
abbrev n_spec_l2Expr : FuncId := 104
abbrev n_spec_l3Gen_expr : FuncId := 102
abbrev n_spec_l3Gen_fresh : FuncId := 129
abbrev n_spec_l3Gen_let : FuncId := 125
abbrev n_spec_l3Gen_cell : FuncId := 126
abbrev n_spec_l3Gen_loop : FuncId := 127
abbrev n_spec_l3Gen_some : FuncId := 115
abbrev n_spec_l3Gen_block : FuncId := 101
abbrev n_spec_l3Gen_fn : FuncId := 85
abbrev n_spec_l3Prog : FuncId := 52
abbrev n_spec_l2Any : FuncId := 87
abbrev n_spec_l2Bent : FuncId := 86
abbrev n_spec_l3Bent : FuncId := 54
abbrev n_spec_l2Copy : FuncId := 88
abbrev n_spec_l4Stmts : FuncId := 57
abbrev n_spec_l4Copy : FuncId := 55
abbrev n_spec_l4Prog : FuncId := 26
abbrev n_spec_DrawCheckProgram : FuncId := 12
abbrev n_laws_FnCheck : FuncId := 4
def F_spec_l1In : FK := ⟨15, [.t 6],
 .seq (.reg [⟨(some 6), none, .mov (.c (.p (.bool false)))⟩])
 (.seq (.reg [⟨(some 7), none, .mov (.t 0)⟩,
   ⟨(some 8), none, .mov (.t 1)⟩,
   ⟨(some 9), none, .bin .geq (.t 7) (.t 8)⟩,
   ⟨(some 10), none, .mov (.t 9)⟩,
   ⟨(some 11), (some (10, true)), .mov (.t 0)⟩,
   ⟨(some 12), (some (10, true)), .mov (.t 2)⟩,
   ⟨(some 13), (some (10, true)), .bin .leq (.t 11) (.t 12)⟩,
   ⟨(some 14), none, .pick (.t 10) (.t 13) (.c (.p (.bool false)))⟩,
   ⟨(some 6), none, .mov (.t 14)⟩])
 (.ret))⟩
theorem k_spec_l1In : compF Tryd.prog n_spec_l1In = some F_spec_l1In := by kernel_rfl
def F_spec_l30Find : FK := ⟨18, [.t 4],
 .seq (.reg [⟨(some 4), none, .mov (.c (.p (.int .i64 0)))⟩])
 (.seq (.seq (.reg [⟨(some 5), none, .mov (.c (.p (.int .i64 0)))⟩])
 (.blk 0 (.loop (.seq (.seq (.reg [⟨(some 6), none, .mov (.t 5)⟩,
   ⟨(some 7), none, .mov (.t 0)⟩,
   ⟨(some 8), none, .len true (.t 7)⟩,
   ⟨(some 9), none, .bin .lss (.t 6) (.t 8)⟩])
 (.cond (.t 9)
  (.skip)
  (.exit 0)))
 (.seq (.blk 1 (.seq (.reg [⟨(some 12), none, .mov (.t 0)⟩,
   ⟨(some 13), none, .mov (.t 5)⟩,
   ⟨(some 14), none, .idxStr (.t 12) (.t 13)⟩,
   ⟨(some 15), none, .mov (.t 1)⟩,
   ⟨(some 16), none, .bin .eql (.t 14) (.t 15)⟩])
 (.cond (.t 16)
  (.seq (.reg [⟨(some 17), none, .mov (.t 5)⟩,
    ⟨(some 4), none, .mov (.t 17)⟩])
  (.ret))
  (.skip))))
 (.reg [⟨(some 10), none, .mov (.t 5)⟩,
   ⟨(some 11), none, .bin .add (.t 10) (.c (.p (.int .i64 1)))⟩,
   ⟨(some 5), none, .mov (.t 11)⟩]))))))
 (.seq (.reg [⟨(some 4), none, .mov (.c (.p (.int .i64 (-1))))⟩])
 (.ret)))⟩
theorem k_spec_l30Find : compF Tryd.prog n_spec_l30Find = some F_spec_l30Find := by kernel_rfl
def F_spec_l1Class : FK := ⟨28, [.t 2],
 .seq (.reg [⟨(some 2), none, .mov (.c (.p (.int .i64 0)))⟩])
 (.seq (.blk 0 (.seq (.reg [⟨(some 4), none, .mov (.t 0)⟩,
   ⟨(some 5), none, .bin .geq (.t 4) (.c (.p (.int .u8 97)))⟩,
   ⟨(some 6), none, .mov (.t 5)⟩,
   ⟨(some 7), (some (6, true)), .mov (.t 0)⟩,
   ⟨(some 8), (some (6, true)), .bin .leq (.t 7) (.c (.p (.int .u8 122)))⟩,
   ⟨(some 9), none, .pick (.t 6) (.t 8) (.c (.p (.bool false)))⟩,
   ⟨(some 3), none, .mov (.t 9)⟩])
 (.cond (.t 3)
  (.seq (.reg [⟨(some 2), none, .mov (.c (.p (.int .i64 1)))⟩])
  (.ret))
  (.seq (.reg [⟨(some 11), none, .mov (.t 0)⟩,
    ⟨(some 12), none, .bin .geq (.t 11) (.c (.p (.int .u8 48)))⟩,
    ⟨(some 13), none, .mov (.t 12)⟩,
    ⟨(some 14), (some (13, true)), .mov (.t 0)⟩,
    ⟨(some 15), (some (13, true)), .bin .leq (.t 14) (.c (.p (.int .u8 57)))⟩,
    ⟨(some 16), none, .pick (.t 13) (.t 15) (.c (.p (.bool false)))⟩,
    ⟨(some 10), none, .mov (.t 16)⟩])
  (.cond (.t 10)
   (.seq (.reg [⟨(some 2), none, .mov (.c (.p (.int .i64 2)))⟩])
   (.ret))
   (.seq (.reg [⟨(some 18), none, .mov (.t 0)⟩,
     ⟨(some 19), none, .call n_spec_l30Find [(.c (.p (.str [40, 41, 123, 125, 59, 44, 43, 45, 42, 47, 37, 60, 61, 38, 33, 64]))), (.t 18)]⟩,
     ⟨(some 20), none, .bin .geq (.t 19) (.c (.p (.int .i64 0)))⟩,
     ⟨(some 17), none, .mov (.t 20)⟩])
   (.cond (.t 17)
    (.seq (.reg [⟨(some 2), none, .mov (.c (.p (.int .i64 3)))⟩])
    (.ret))
    (.seq (.reg [⟨(some 22), none, .mov (.t 0)⟩,
      ⟨(some 23), none, .bin .eql (.t 22) (.c (.p (.int .u8 32)))⟩,
      ⟨(some 24), none, .mov (.t 23)⟩,
      ⟨(some 25), (some (24, false)), .mov (.t 0)⟩,
      ⟨(some 26), (some (24, false)), .bin .eql (.t 25) (.c (.p (.int .u8 10)))⟩,
      ⟨(some 27), none, .pick (.t 24) (.c (.p (.bool true))) (.t 26)⟩,
      ⟨(some 21), none, .mov (.t 27)⟩])
    (.cond (.t 21)
     (.seq (.reg [⟨(some 2), none, .mov (.c (.p (.int .i64 4)))⟩])
     (.ret))
     (.skip))))))))))
 (.seq (.reg [⟨(some 2), none, .mov (.c (.p (.int .i64 0)))⟩])
 (.ret)))⟩
theorem k_spec_l1Class : compF Tryd.prog n_spec_l1Class = some F_spec_l1Class := by kernel_rfl
def F_spec_l1All : FK := ⟨21, [.t 4],
 .seq (.reg [⟨(some 4), none, .mov (.c (.p (.bool false)))⟩])
 (.seq (.seq (.reg [⟨(some 5), none, .mov (.c (.p (.int .i64 0)))⟩])
 (.blk 0 (.loop (.seq (.seq (.reg [⟨(some 6), none, .mov (.t 5)⟩,
   ⟨(some 7), none, .mov (.t 0)⟩,
   ⟨(some 8), none, .len true (.t 7)⟩,
   ⟨(some 9), none, .bin .lss (.t 6) (.t 8)⟩])
 (.cond (.t 9)
  (.skip)
  (.exit 0)))
 (.seq (.blk 1 (.seq (.reg [⟨(some 12), none, .mov (.t 0)⟩,
   ⟨(some 13), none, .mov (.t 5)⟩,
   ⟨(some 14), none, .idxStr (.t 12) (.t 13)⟩,
   ⟨(some 15), none, .call n_spec_l1Class [(.t 14)]⟩,
   ⟨(some 16), none, .mov (.t 1)⟩,
   ⟨(some 17), none, .bin .neq (.t 15) (.t 16)⟩])
 (.cond (.t 17)
  (.seq (.reg [⟨(some 4), none, .mov (.c (.p (.bool false)))⟩])
  (.ret))
  (.skip))))
 (.reg [⟨(some 10), none, .mov (.t 5)⟩,
   ⟨(some 11), none, .bin .add (.t 10) (.c (.p (.int .i64 1)))⟩,
   ⟨(some 5), none, .mov (.t 11)⟩]))))))
 (.seq (.reg [⟨(some 18), none, .mov (.t 0)⟩,
   ⟨(some 19), none, .len true (.t 18)⟩,
   ⟨(some 20), none, .bin .gtr (.t 19) (.c (.p (.int .i64 0)))⟩,
   ⟨(some 4), none, .mov (.t 20)⟩])
 (.ret)))⟩
theorem k_spec_l1All : compF Tryd.prog n_spec_l1All = some F_spec_l1All := by kernel_rfl
def F_spec_KeyWords : FK := ⟨2, [.t 0],
 .seq (.reg [⟨(some 0), none, .mov (.c .nils)⟩])
 (.seq (.reg [⟨(some 1), none, .bsl 1 [(.p (.str []))] 9 [(0, 1, (.c (.p (.str [102, 110])))), (1, 1, (.c (.p (.str [108, 101, 116])))), (2, 1, (.c (.p (.str [115, 97, 121])))), (3, 1, (.c (.p (.str [112, 117, 116])))), (4, 1, (.c (.p (.str [105, 102])))), (5, 1, (.c (.p (.str [101, 108, 115, 101])))), (6, 1, (.c (.p (.str [108, 111, 111, 112])))), (7, 1, (.c (.p (.str [98, 97, 99, 107])))), (8, 1, (.c (.p (.str [100, 111]))))]⟩,
   ⟨(some 0), none, .mov (.t 1)⟩])
 (.ret))⟩
theorem k_spec_KeyWords : compF Tryd.prog n_spec_KeyWords = some F_spec_KeyWords := by kernel_rfl
def F_spec_l1Key : FK := ⟨18, [.t 2],
 .seq (.reg [⟨(some 2), none, .mov (.c (.p (.bool false)))⟩])
 (.seq (.reg [⟨(some 5), none, .call n_spec_KeyWords []⟩,
   ⟨(some 3), none, .mov (.t 5)⟩])
 (.seq (.seq (.reg [⟨(some 4), none, .mov (.c (.p (.int .i64 0)))⟩])
 (.blk 0 (.loop (.seq (.seq (.reg [⟨(some 6), none, .mov (.t 4)⟩,
   ⟨(some 7), none, .mov (.t 3)⟩,
   ⟨(some 8), none, .len false (.t 7)⟩,
   ⟨(some 9), none, .bin .lss (.t 6) (.t 8)⟩])
 (.cond (.t 9)
  (.skip)
  (.exit 0)))
 (.seq (.blk 1 (.seq (.reg [⟨(some 12), none, .mov (.t 3)⟩,
   ⟨(some 13), none, .mov (.t 4)⟩,
   ⟨(some 14), none, .idxS 1 (.t 12) (.t 13)⟩,
   ⟨(some 15), none, .ld none (.t 14)⟩,
   ⟨(some 16), none, .mov (.t 0)⟩,
   ⟨(some 17), none, .bins .eql (.t 15) (.t 16)⟩])
 (.cond (.t 17)
  (.seq (.reg [⟨(some 2), none, .mov (.c (.p (.bool true)))⟩])
  (.ret))
  (.skip))))
 (.reg [⟨(some 10), none, .mov (.t 4)⟩,
   ⟨(some 11), none, .bin .add (.t 10) (.c (.p (.int .i64 1)))⟩,
   ⟨(some 4), none, .mov (.t 11)⟩]))))))
 (.seq (.reg [⟨(some 2), none, .mov (.c (.p (.bool false)))⟩])
 (.ret))))⟩
theorem k_spec_l1Key : compF Tryd.prog n_spec_l1Key = some F_spec_l1Key := by kernel_rfl
def F_spec_IsName : FK := ⟨15, [.t 2],
 .seq (.reg [⟨(some 2), none, .mov (.c (.p (.bool false)))⟩])
 (.seq (.reg [⟨(some 3), none, .mov (.t 0)⟩,
   ⟨(some 4), none, .call n_spec_l1All [(.t 3), (.c (.p (.int .i64 1)))]⟩,
   ⟨(some 5), none, .mov (.t 4)⟩,
   ⟨(some 6), (some (5, true)), .mov (.t 0)⟩,
   ⟨(some 7), (some (5, true)), .len true (.t 6)⟩,
   ⟨(some 8), (some (5, true)), .bin .leq (.t 7) (.c (.p (.int .i64 4)))⟩,
   ⟨(some 9), none, .pick (.t 5) (.t 8) (.c (.p (.bool false)))⟩,
   ⟨(some 10), none, .mov (.t 9)⟩,
   ⟨(some 11), (some (10, true)), .mov (.t 0)⟩,
   ⟨(some 12), (some (10, true)), .call n_spec_l1Key [(.t 11)]⟩,
   ⟨(some 13), (some (10, true)), .not (.t 12)⟩,
   ⟨(some 14), none, .pick (.t 10) (.t 13) (.c (.p (.bool false)))⟩,
   ⟨(some 2), none, .mov (.t 14)⟩])
 (.ret))⟩
theorem k_spec_IsName : compF Tryd.prog n_spec_IsName = some F_spec_IsName := by kernel_rfl
def F_spec_l3Args : FK := ⟨5, [.t 2],
 .seq (.reg [⟨(some 2), none, .mov (.c (.p (.int .i64 0)))⟩])
 (.seq (.seq (.reg [⟨(some 3), none, .mov (.t 0)⟩,
   ⟨(some 4), none, .bin .eql (.t 3) (.c (.p (.int .i64 4)))⟩])
 (.cond (.t 4)
  (.seq (.reg [⟨(some 2), none, .mov (.c (.p (.int .i64 2)))⟩])
  (.ret))
  (.skip)))
 (.seq (.reg [⟨(some 2), none, .mov (.c (.p (.int .i64 1)))⟩])
 (.ret)))⟩
theorem k_spec_l3Args : compF Tryd.prog n_spec_l3Args = some F_spec_l3Args := by kernel_rfl
def F_spec_l2Kids : FK := ⟨13, [.t 2, .t 3],
 .seq (.reg [⟨(some 2), none, .mov (.c (.p (.int .i64 0)))⟩,
   ⟨(some 3), none, .mov (.c (.p (.int .i64 0)))⟩])
 (.seq (.seq (.reg [⟨(some 4), none, .mov (.t 0)⟩])
 (.blk 0 (.seq (.seq (.reg [⟨(some 6), none, .bin .eql (.t 4) (.c (.p (.int .i64 1)))⟩,
   ⟨(some 5), none, .mov (.t 6)⟩])
 (.cond (.t 5)
  (.skip)
  (.reg [⟨(some 7), none, .bin .eql (.t 4) (.c (.p (.int .i64 2)))⟩,
    ⟨(some 5), none, .mov (.t 7)⟩])))
 (.cond (.t 5)
  (.seq (.reg [⟨(some 2), none, .mov (.c (.p (.int .i64 0)))⟩,
    ⟨(some 3), none, .mov (.c (.p (.int .i64 0)))⟩])
  (.ret))
  (.seq (.seq (.reg [⟨(some 9), none, .bin .eql (.t 4) (.c (.p (.int .i64 11)))⟩,
    ⟨(some 8), none, .mov (.t 9)⟩])
  (.cond (.t 8)
   (.skip)
   (.reg [⟨(some 10), none, .bin .eql (.t 4) (.c (.p (.int .i64 12)))⟩,
     ⟨(some 8), none, .mov (.t 10)⟩])))
  (.cond (.t 8)
   (.seq (.reg [⟨(some 2), none, .mov (.c (.p (.int .i64 1)))⟩,
     ⟨(some 3), none, .mov (.c (.p (.int .i64 1)))⟩])
   (.ret))
   (.seq (.reg [⟨(some 12), none, .bin .eql (.t 4) (.c (.p (.int .i64 13)))⟩,
     ⟨(some 11), none, .mov (.t 12)⟩])
   (.cond (.t 11)
    (.seq (.reg [⟨(some 2), none, .mov (.c (.p (.int .i64 0)))⟩,
      ⟨(some 3), none, .mov (.c (.p (.int .i64 3)))⟩])
    (.ret))
    (.skip)))))))))
 (.seq (.reg [⟨(some 2), none, .mov (.c (.p (.int .i64 2)))⟩,
   ⟨(some 3), none, .mov (.c (.p (.int .i64 2)))⟩])
 (.ret)))⟩
theorem k_spec_l2Kids : compF Tryd.prog n_spec_l2Kids = some F_spec_l2Kids := by kernel_rfl
def F_spec_l2Form : FK := ⟨86, [.t 4],
 .seq (.reg [⟨(some 2), none, .box 4 (.t 0)⟩,
   ⟨(some 4), none, .mov (.c (.p (.bool false)))⟩])
 (.seq (.reg [⟨(some 10), none, .fldA 0 (.t 2)⟩,
   ⟨(some 11), none, .ld none (.t 10)⟩,
   ⟨(some 12), none, .call n_spec_l2Kids [(.t 11)]⟩,
   ⟨(some 9), none, .mov (.t 12)⟩,
   ⟨(some 13), none, .ext 0 (.t 9)⟩,
   ⟨(some 14), none, .ext 1 (.t 9)⟩,
   ⟨(some 5), none, .mov (.t 13)⟩,
   ⟨(some 6), none, .mov (.t 14)⟩])
 (.seq (.seq (.reg [⟨(some 15), none, .mov (.t 1)⟩,
   ⟨(some 16), none, .bin .lss (.t 15) (.c (.p (.int .i64 1)))⟩,
   ⟨(some 17), none, .mov (.t 16)⟩,
   ⟨(some 18), (some (17, false)), .fldA 0 (.t 2)⟩,
   ⟨(some 19), (some (17, false)), .ld none (.t 18)⟩,
   ⟨(some 20), (some (17, false)), .call n_spec_l1In [(.t 19), (.c (.p (.int .i64 1))), (.c (.p (.int .i64 13)))]⟩,
   ⟨(some 21), (some (17, false)), .not (.t 20)⟩,
   ⟨(some 22), none, .pick (.t 17) (.c (.p (.bool true))) (.t 21)⟩,
   ⟨(some 23), none, .mov (.t 22)⟩,
   ⟨(some 24), (some (23, false)), .fldA 3 (.t 2)⟩,
   ⟨(some 25), (some (23, false)), .ld none (.t 24)⟩,
   ⟨(some 26), (some (23, false)), .len false (.t 25)⟩,
   ⟨(some 27), (some (23, false)), .mov (.t 5)⟩,
   ⟨(some 28), (some (23, false)), .mov (.t 6)⟩,
   ⟨(some 29), (some (23, false)), .call n_spec_l1In [(.t 26), (.t 27), (.t 28)]⟩,
   ⟨(some 30), (some (23, false)), .not (.t 29)⟩,
   ⟨(some 31), none, .pick (.t 23) (.c (.p (.bool true))) (.t 30)⟩])
 (.cond (.t 31)
  (.seq (.reg [⟨(some 4), none, .mov (.c (.p (.bool false)))⟩])
  (.ret))
  (.skip)))
 (.seq (.reg [⟨(some 32), none, .fldA 0 (.t 2)⟩,
   ⟨(some 33), none, .ld none (.t 32)⟩,
   ⟨(some 34), none, .bin .eql (.t 33) (.c (.p (.int .i64 2)))⟩,
   ⟨(some 35), none, .mov (.t 34)⟩,
   ⟨(some 36), (some (35, false)), .fldA 0 (.t 2)⟩,
   ⟨(some 37), (some (35, false)), .ld none (.t 36)⟩,
   ⟨(some 38), (some (35, false)), .bin .eql (.t 37) (.c (.p (.int .i64 13)))⟩,
   ⟨(some 39), none, .pick (.t 35) (.c (.p (.bool true))) (.t 38)⟩,
   ⟨(some 7), none, .mov (.t 39)⟩])
 (.seq (.seq (.reg [⟨(some 40), none, .mov (.t 7)⟩,
   ⟨(some 41), none, .fldA 2 (.t 2)⟩,
   ⟨(some 42), none, .ld none (.t 41)⟩,
   ⟨(some 43), none, .call n_spec_IsName [(.t 42)]⟩,
   ⟨(some 44), none, .beq true (.t 40) (.t 43)⟩,
   ⟨(some 45), none, .mov (.t 44)⟩,
   ⟨(some 46), (some (45, false)), .mov (.t 7)⟩,
   ⟨(some 47), (some (45, false)), .not (.t 46)⟩,
   ⟨(some 48), (some (45, false)), .mov (.t 47)⟩,
   ⟨(some 49), (some (48, true)), .fldA 2 (.t 2)⟩,
   ⟨(some 50), (some (48, true)), .ld none (.t 49)⟩,
   ⟨(some 51), (some (48, true)), .bins .neq (.t 50) (.c (.p (.str [])))⟩,
   ⟨(some 52), (some (45, false)), .pick (.t 48) (.t 51) (.c (.p (.bool false)))⟩,
   ⟨(some 53), none, .pick (.t 45) (.c (.p (.bool true))) (.t 52)⟩,
   ⟨(some 54), none, .mov (.t 53)⟩,
   ⟨(some 55), (some (54, false)), .fldA 1 (.t 2)⟩,
   ⟨(some 56), (some (54, false)), .ld none (.t 55)⟩,
   ⟨(some 57), (some (54, false)), .call n_spec_l1In [(.t 56), (.c (.p (.int .i64 0))), (.c (.p (.int .i64 255)))]⟩,
   ⟨(some 58), (some (54, false)), .not (.t 57)⟩,
   ⟨(some 59), none, .pick (.t 54) (.c (.p (.bool true))) (.t 58)⟩,
   ⟨(some 60), none, .mov (.t 59)⟩,
   ⟨(some 61), (some (60, false)), .fldA 0 (.t 2)⟩,
   ⟨(some 62), (some (60, false)), .ld none (.t 61)⟩,
   ⟨(some 63), (some (60, false)), .bin .neq (.t 62) (.c (.p (.int .i64 1)))⟩,
   ⟨(some 64), (some (60, false)), .mov (.t 63)⟩,
   ⟨(some 65), (some (64, true)), .fldA 1 (.t 2)⟩,
   ⟨(some 66), (some (64, true)), .ld none (.t 65)⟩,
   ⟨(some 67), (some (64, true)), .bin .neq (.t 66) (.c (.p (.int .i64 0)))⟩,
   ⟨(some 68), (some (60, false)), .pick (.t 64) (.t 67) (.c (.p (.bool false)))⟩,
   ⟨(some 69), none, .pick (.t 60) (.c (.p (.bool true))) (.t 68)⟩])
 (.cond (.t 69)
  (.seq (.reg [⟨(some 4), none, .mov (.c (.p (.bool false)))⟩])
  (.ret))
  (.skip)))
 (.seq (.seq (.reg [⟨(some 8), none, .mov (.c (.p (.int .i64 0)))⟩])
 (.blk 0 (.loop (.seq (.seq (.reg [⟨(some 70), none, .mov (.t 8)⟩,
   ⟨(some 71), none, .fldA 3 (.t 2)⟩,
   ⟨(some 72), none, .ld none (.t 71)⟩,
   ⟨(some 73), none, .len false (.t 72)⟩,
   ⟨(some 74), none, .bin .lss (.t 70) (.t 73)⟩])
 (.cond (.t 74)
  (.skip)
  (.exit 0)))
 (.seq (.blk 1 (.seq (.reg [⟨(some 77), none, .fldA 3 (.t 2)⟩,
   ⟨(some 78), none, .ld none (.t 77)⟩,
   ⟨(some 79), none, .mov (.t 8)⟩,
   ⟨(some 80), none, .idxS 4 (.t 78) (.t 79)⟩,
   ⟨(some 81), none, .ld (some 4) (.t 80)⟩,
   ⟨(some 82), none, .mov (.t 1)⟩,
   ⟨(some 83), none, .bin .sub (.t 82) (.c (.p (.int .i64 1)))⟩,
   ⟨(some 84), none, .call n_spec_l2Form [(.t 81), (.t 83)]⟩,
   ⟨(some 85), none, .not (.t 84)⟩])
 (.cond (.t 85)
  (.seq (.reg [⟨(some 4), none, .mov (.c (.p (.bool false)))⟩])
  (.ret))
  (.skip))))
 (.reg [⟨(some 75), none, .mov (.t 8)⟩,
   ⟨(some 76), none, .bin .add (.t 75) (.c (.p (.int .i64 1)))⟩,
   ⟨(some 8), none, .mov (.t 76)⟩]))))))
 (.seq (.reg [⟨(some 4), none, .mov (.c (.p (.bool true)))⟩])
 (.ret)))))))⟩
theorem k_spec_l2Form : compF Tryd.prog n_spec_l2Form = some F_spec_l2Form := by kernel_rfl
def F_spec_l2Parts : FK := ⟨21, [.t 2],
 .seq (.reg [⟨(some 1), none, .box 4 (.t 0)⟩,
   ⟨(some 2), none, .mov (.c (.p (.int .i64 0)))⟩])
 (.seq (.reg [⟨(some 3), none, .mov (.c (.p (.int .i64 1)))⟩])
 (.seq (.seq (.reg [⟨(some 4), none, .mov (.c (.p (.int .i64 0)))⟩])
 (.blk 0 (.loop (.seq (.seq (.reg [⟨(some 5), none, .mov (.t 4)⟩,
   ⟨(some 6), none, .fldA 3 (.t 1)⟩,
   ⟨(some 7), none, .ld none (.t 6)⟩,
   ⟨(some 8), none, .len false (.t 7)⟩,
   ⟨(some 9), none, .bin .lss (.t 5) (.t 8)⟩])
 (.cond (.t 9)
  (.skip)
  (.exit 0)))
 (.seq (.blk 1 (.reg [⟨(some 12), none, .mov (.t 3)⟩,
   ⟨(some 13), none, .fldA 3 (.t 1)⟩,
   ⟨(some 14), none, .ld none (.t 13)⟩,
   ⟨(some 15), none, .mov (.t 4)⟩,
   ⟨(some 16), none, .idxS 4 (.t 14) (.t 15)⟩,
   ⟨(some 17), none, .ld (some 4) (.t 16)⟩,
   ⟨(some 18), none, .call n_spec_l2Parts [(.t 17)]⟩,
   ⟨(some 19), none, .bin .add (.t 12) (.t 18)⟩,
   ⟨(some 3), none, .mov (.t 19)⟩]))
 (.reg [⟨(some 10), none, .mov (.t 4)⟩,
   ⟨(some 11), none, .bin .add (.t 10) (.c (.p (.int .i64 1)))⟩,
   ⟨(some 4), none, .mov (.t 11)⟩]))))))
 (.seq (.reg [⟨(some 20), none, .mov (.t 3)⟩,
   ⟨(some 2), none, .mov (.t 20)⟩])
 (.ret))))⟩
theorem k_spec_l2Parts : compF Tryd.prog n_spec_l2Parts = some F_spec_l2Parts := by kernel_rfl
def F_spec_ExprValid : FK := ⟨10, [.t 2],
 .seq (.reg [⟨(some 1), none, .box 4 (.t 0)⟩,
   ⟨(some 2), none, .mov (.c (.p (.bool false)))⟩])
 (.seq (.reg [⟨(some 3), none, .ld (some 4) (.t 1)⟩,
   ⟨(some 4), none, .call n_spec_l2Form [(.t 3), (.c (.p (.int .i64 6)))]⟩,
   ⟨(some 5), none, .mov (.t 4)⟩,
   ⟨(some 6), (some (5, true)), .ld (some 4) (.t 1)⟩,
   ⟨(some 7), (some (5, true)), .call n_spec_l2Parts [(.t 6)]⟩,
   ⟨(some 8), (some (5, true)), .bin .leq (.t 7) (.c (.p (.int .i64 30)))⟩,
   ⟨(some 9), none, .pick (.t 5) (.t 8) (.c (.p (.bool false)))⟩,
   ⟨(some 2), none, .mov (.t 9)⟩])
 (.ret))⟩
theorem k_spec_ExprValid : compF Tryd.prog n_spec_ExprValid = some F_spec_ExprValid := by kernel_rfl
def F_spec_l3Stmt : FK := ⟨108, [.t 4],
 .seq (.reg [⟨(some 2), none, .box 5 (.t 0)⟩,
   ⟨(some 4), none, .mov (.c (.p (.bool false)))⟩])
 (.seq (.seq (.reg [⟨(some 7), none, .mov (.t 1)⟩,
   ⟨(some 8), none, .bin .lss (.t 7) (.c (.p (.int .i64 1)))⟩,
   ⟨(some 9), none, .mov (.t 8)⟩,
   ⟨(some 10), (some (9, false)), .fldA 0 (.t 2)⟩,
   ⟨(some 11), (some (9, false)), .ld none (.t 10)⟩,
   ⟨(some 12), (some (9, false)), .call n_spec_l1In [(.t 11), (.c (.p (.int .i64 1))), (.c (.p (.int .i64 8)))]⟩,
   ⟨(some 13), (some (9, false)), .not (.t 12)⟩,
   ⟨(some 14), none, .pick (.t 9) (.c (.p (.bool true))) (.t 13)⟩,
   ⟨(some 15), none, .mov (.t 14)⟩,
   ⟨(some 16), (some (15, false)), .fldA 2 (.t 2)⟩,
   ⟨(some 19), (some (15, false)), .fldA 0 (.t 2)⟩,
   ⟨(some 17), (some (15, false)), .ld none (.t 16)⟩,
   ⟨(some 18), (some (15, false)), .len false (.t 17)⟩,
   ⟨(some 20), (some (15, false)), .ld none (.t 19)⟩,
   ⟨(some 21), (some (15, false)), .qcall n_spec_l3Args [(.t 20)]⟩,
   ⟨(some 22), (some (15, false)), .bin .neq (.t 18) (.t 21)⟩,
   ⟨(some 23), none, .pick (.t 15) (.c (.p (.bool true))) (.t 22)⟩])
 (.cond (.t 23)
  (.seq (.reg [⟨(some 4), none, .mov (.c (.p (.bool false)))⟩])
  (.ret))
  (.skip)))
 (.seq (.reg [⟨(some 24), none, .fldA 0 (.t 2)⟩,
   ⟨(some 25), none, .ld none (.t 24)⟩,
   ⟨(some 26), none, .bin .eql (.t 25) (.c (.p (.int .i64 1)))⟩,
   ⟨(some 27), none, .mov (.t 26)⟩,
   ⟨(some 28), (some (27, false)), .fldA 0 (.t 2)⟩,
   ⟨(some 29), (some (27, false)), .ld none (.t 28)⟩,
   ⟨(some 30), (some (27, false)), .bin .eql (.t 29) (.c (.p (.int .i64 2)))⟩,
   ⟨(some 31), none, .pick (.t 27) (.c (.p (.bool true))) (.t 30)⟩,
   ⟨(some 5), none, .mov (.t 31)⟩])
 (.seq (.seq (.reg [⟨(some 32), none, .mov (.t 5)⟩,
   ⟨(some 33), none, .fldA 1 (.t 2)⟩,
   ⟨(some 34), none, .ld none (.t 33)⟩,
   ⟨(some 35), none, .call n_spec_IsName [(.t 34)]⟩,
   ⟨(some 36), none, .beq true (.t 32) (.t 35)⟩,
   ⟨(some 37), none, .mov (.t 36)⟩,
   ⟨(some 38), (some (37, false)), .mov (.t 5)⟩,
   ⟨(some 39), (some (37, false)), .not (.t 38)⟩,
   ⟨(some 40), (some (37, false)), .mov (.t 39)⟩,
   ⟨(some 41), (some (40, true)), .fldA 1 (.t 2)⟩,
   ⟨(some 42), (some (40, true)), .ld none (.t 41)⟩,
   ⟨(some 43), (some (40, true)), .bins .neq (.t 42) (.c (.p (.str [])))⟩,
   ⟨(some 44), (some (37, false)), .pick (.t 40) (.t 43) (.c (.p (.bool false)))⟩,
   ⟨(some 45), none, .pick (.t 37) (.c (.p (.bool true))) (.t 44)⟩])
 (.cond (.t 45)
  (.seq (.reg [⟨(some 4), none, .mov (.c (.p (.bool false)))⟩])
  (.ret))
  (.skip)))
 (.seq (.seq (.reg [⟨(some 6), none, .mov (.c (.p (.int .i64 0)))⟩])
 (.blk 0 (.loop (.seq (.seq (.reg [⟨(some 46), none, .mov (.t 6)⟩,
   ⟨(some 47), none, .fldA 2 (.t 2)⟩,
   ⟨(some 48), none, .ld none (.t 47)⟩,
   ⟨(some 49), none, .len false (.t 48)⟩,
   ⟨(some 50), none, .bin .lss (.t 46) (.t 49)⟩])
 (.cond (.t 50)
  (.skip)
  (.exit 0)))
 (.seq (.blk 1 (.seq (.reg [⟨(some 53), none, .fldA 2 (.t 2)⟩,
   ⟨(some 54), none, .ld none (.t 53)⟩,
   ⟨(some 55), none, .mov (.t 6)⟩,
   ⟨(some 56), none, .idxS 4 (.t 54) (.t 55)⟩,
   ⟨(some 57), none, .ld (some 4) (.t 56)⟩,
   ⟨(some 58), none, .call n_spec_ExprValid [(.t 57)]⟩,
   ⟨(some 59), none, .not (.t 58)⟩])
 (.cond (.t 59)
  (.seq (.reg [⟨(some 4), none, .mov (.c (.p (.bool false)))⟩])
  (.ret))
  (.skip))))
 (.reg [⟨(some 51), none, .mov (.t 6)⟩,
   ⟨(some 52), none, .bin .add (.t 51) (.c (.p (.int .i64 1)))⟩,
   ⟨(some 6), none, .mov (.t 52)⟩]))))))
 (.seq (.seq (.reg [⟨(some 60), none, .fldA 0 (.t 2)⟩,
   ⟨(some 61), none, .ld none (.t 60)⟩,
   ⟨(some 62), none, .bin .eql (.t 61) (.c (.p (.int .i64 8)))⟩,
   ⟨(some 63), none, .mov (.t 62)⟩,
   ⟨(some 64), (some (63, true)), .fldA 2 (.t 2)⟩,
   ⟨(some 65), (some (63, true)), .ld none (.t 64)⟩,
   ⟨(some 66), (some (63, true)), .idxS 4 (.t 65) (.c (.p (.int .i64 0)))⟩,
   ⟨(some 67), (some (63, true)), .fldA 0 (.t 66)⟩,
   ⟨(some 68), (some (63, true)), .ld none (.t 67)⟩,
   ⟨(some 69), (some (63, true)), .bin .neq (.t 68) (.c (.p (.int .i64 13)))⟩,
   ⟨(some 70), none, .pick (.t 63) (.t 69) (.c (.p (.bool false)))⟩])
 (.cond (.t 70)
  (.seq (.reg [⟨(some 4), none, .mov (.c (.p (.bool false)))⟩])
  (.ret))
  (.skip)))
 (.seq (.seq (.reg [⟨(some 71), none, .fldA 4 (.t 2)⟩,
   ⟨(some 72), none, .ld none (.t 71)⟩,
   ⟨(some 73), none, .len false (.t 72)⟩,
   ⟨(some 74), none, .bin .gtr (.t 73) (.c (.p (.int .i64 0)))⟩,
   ⟨(some 75), none, .mov (.t 74)⟩,
   ⟨(some 76), (some (75, true)), .fldA 0 (.t 2)⟩,
   ⟨(some 77), (some (75, true)), .ld none (.t 76)⟩,
   ⟨(some 78), (some (75, true)), .bin .neq (.t 77) (.c (.p (.int .i64 5)))⟩,
   ⟨(some 79), none, .pick (.t 75) (.t 78) (.c (.p (.bool false)))⟩,
   ⟨(some 80), none, .mov (.t 79)⟩,
   ⟨(some 81), (some (80, false)), .fldA 3 (.t 2)⟩,
   ⟨(some 82), (some (80, false)), .ld none (.t 81)⟩,
   ⟨(some 83), (some (80, false)), .len false (.t 82)⟩,
   ⟨(some 84), (some (80, false)), .bin .gtr (.t 83) (.c (.p (.int .i64 0)))⟩,
   ⟨(some 85), (some (80, false)), .mov (.t 84)⟩,
   ⟨(some 86), (some (85, true)), .fldA 0 (.t 2)⟩,
   ⟨(some 87), (some (85, true)), .ld none (.t 86)⟩,
   ⟨(some 88), (some (85, true)), .bin .neq (.t 87) (.c (.p (.int .i64 5)))⟩,
   ⟨(some 89), (some (80, false)), .pick (.t 85) (.t 88) (.c (.p (.bool false)))⟩,
   ⟨(some 90), (some (80, false)), .mov (.t 89)⟩,
   ⟨(some 91), (some (90, true)), .fldA 0 (.t 2)⟩,
   ⟨(some 92), (some (90, true)), .ld none (.t 91)⟩,
   ⟨(some 93), (some (90, true)), .bin .neq (.t 92) (.c (.p (.int .i64 6)))⟩,
   ⟨(some 94), (some (80, false)), .pick (.t 90) (.t 93) (.c (.p (.bool false)))⟩,
   ⟨(some 95), none, .pick (.t 80) (.c (.p (.bool true))) (.t 94)⟩])
 (.cond (.t 95)
  (.seq (.reg [⟨(some 4), none, .mov (.c (.p (.bool false)))⟩])
  (.ret))
  (.skip)))
 (.seq (.reg [⟨(some 96), none, .fldA 3 (.t 2)⟩,
   ⟨(some 97), none, .ld none (.t 96)⟩,
   ⟨(some 98), none, .mov (.t 1)⟩,
   ⟨(some 99), none, .bin .sub (.t 98) (.c (.p (.int .i64 1)))⟩,
   ⟨(some 100), none, .call n_spec_l3Stmts [(.t 97), (.t 99)]⟩,
   ⟨(some 101), none, .mov (.t 100)⟩,
   ⟨(some 102), (some (101, true)), .fldA 4 (.t 2)⟩,
   ⟨(some 103), (some (101, true)), .ld none (.t 102)⟩,
   ⟨(some 104), (some (101, true)), .mov (.t 1)⟩,
   ⟨(some 105), (some (101, true)), .bin .sub (.t 104) (.c (.p (.int .i64 1)))⟩,
   ⟨(some 106), (some (101, true)), .call n_spec_l3Stmts [(.t 103), (.t 105)]⟩,
   ⟨(some 107), none, .pick (.t 101) (.t 106) (.c (.p (.bool false)))⟩,
   ⟨(some 4), none, .mov (.t 107)⟩])
 (.ret))))))))⟩
theorem k_spec_l3Stmt : compF Tryd.prog n_spec_l3Stmt = some F_spec_l3Stmt := by kernel_rfl
def F_spec_l3Stmts : FK := ⟨19, [.t 4],
 .seq (.reg [⟨(some 4), none, .mov (.c (.p (.bool false)))⟩])
 (.seq (.seq (.reg [⟨(some 5), none, .mov (.c (.p (.int .i64 0)))⟩])
 (.blk 0 (.loop (.seq (.seq (.reg [⟨(some 6), none, .mov (.t 5)⟩,
   ⟨(some 7), none, .mov (.t 0)⟩,
   ⟨(some 8), none, .len false (.t 7)⟩,
   ⟨(some 9), none, .bin .lss (.t 6) (.t 8)⟩])
 (.cond (.t 9)
  (.skip)
  (.exit 0)))
 (.seq (.blk 1 (.seq (.reg [⟨(some 12), none, .mov (.t 0)⟩,
   ⟨(some 13), none, .mov (.t 5)⟩,
   ⟨(some 14), none, .idxS 5 (.t 12) (.t 13)⟩,
   ⟨(some 15), none, .ld (some 5) (.t 14)⟩,
   ⟨(some 16), none, .mov (.t 1)⟩,
   ⟨(some 17), none, .call n_spec_l3Stmt [(.t 15), (.t 16)]⟩,
   ⟨(some 18), none, .not (.t 17)⟩])
 (.cond (.t 18)
  (.seq (.reg [⟨(some 4), none, .mov (.c (.p (.bool false)))⟩])
  (.ret))
  (.skip))))
 (.reg [⟨(some 10), none, .mov (.t 5)⟩,
   ⟨(some 11), none, .bin .add (.t 10) (.c (.p (.int .i64 1)))⟩,
   ⟨(some 5), none, .mov (.t 11)⟩]))))))
 (.seq (.reg [⟨(some 4), none, .mov (.c (.p (.bool true)))⟩])
 (.ret)))⟩
theorem k_spec_l3Stmts : compF Tryd.prog n_spec_l3Stmts = some F_spec_l3Stmts := by kernel_rfl
def F_spec_l3Fn : FK := ⟨32, [.t 2],
 .seq (.reg [⟨(some 1), none, .box 3 (.t 0)⟩,
   ⟨(some 2), none, .mov (.c (.p (.bool false)))⟩])
 (.seq (.seq (.reg [⟨(some 3), none, .mov (.c (.p (.int .i64 0)))⟩])
 (.blk 0 (.loop (.seq (.seq (.reg [⟨(some 4), none, .mov (.t 3)⟩,
   ⟨(some 5), none, .fldA 1 (.t 1)⟩,
   ⟨(some 6), none, .ld none (.t 5)⟩,
   ⟨(some 7), none, .len false (.t 6)⟩,
   ⟨(some 8), none, .bin .lss (.t 4) (.t 7)⟩])
 (.cond (.t 8)
  (.skip)
  (.exit 0)))
 (.seq (.blk 1 (.seq (.reg [⟨(some 11), none, .fldA 1 (.t 1)⟩,
   ⟨(some 12), none, .ld none (.t 11)⟩,
   ⟨(some 13), none, .mov (.t 3)⟩,
   ⟨(some 14), none, .idxS 1 (.t 12) (.t 13)⟩,
   ⟨(some 15), none, .ld none (.t 14)⟩,
   ⟨(some 16), none, .call n_spec_IsName [(.t 15)]⟩,
   ⟨(some 17), none, .not (.t 16)⟩])
 (.cond (.t 17)
  (.seq (.reg [⟨(some 2), none, .mov (.c (.p (.bool false)))⟩])
  (.ret))
  (.skip))))
 (.reg [⟨(some 9), none, .mov (.t 3)⟩,
   ⟨(some 10), none, .bin .add (.t 9) (.c (.p (.int .i64 1)))⟩,
   ⟨(some 3), none, .mov (.t 10)⟩]))))))
 (.seq (.reg [⟨(some 18), none, .fldA 0 (.t 1)⟩,
   ⟨(some 19), none, .ld none (.t 18)⟩,
   ⟨(some 20), none, .call n_spec_IsName [(.t 19)]⟩,
   ⟨(some 21), none, .mov (.t 20)⟩,
   ⟨(some 22), (some (21, true)), .fldA 1 (.t 1)⟩,
   ⟨(some 23), (some (21, true)), .ld none (.t 22)⟩,
   ⟨(some 24), (some (21, true)), .len false (.t 23)⟩,
   ⟨(some 25), (some (21, true)), .bin .leq (.t 24) (.c (.p (.int .i64 3)))⟩,
   ⟨(some 26), none, .pick (.t 21) (.t 25) (.c (.p (.bool false)))⟩,
   ⟨(some 27), none, .mov (.t 26)⟩,
   ⟨(some 28), (some (27, true)), .fldA 2 (.t 1)⟩,
   ⟨(some 29), (some (27, true)), .ld none (.t 28)⟩,
   ⟨(some 30), (some (27, true)), .call n_spec_l3Stmts [(.t 29), (.c (.p (.int .i64 4)))]⟩,
   ⟨(some 31), none, .pick (.t 27) (.t 30) (.c (.p (.bool false)))⟩,
   ⟨(some 2), none, .mov (.t 31)⟩])
 (.ret)))⟩
theorem k_spec_l3Fn : compF Tryd.prog n_spec_l3Fn = some F_spec_l3Fn := by kernel_rfl
def F_spec_l3Count : FK := ⟨29, [.t 2],
 .seq (.reg [⟨(some 2), none, .mov (.c (.p (.int .i64 0)))⟩])
 (.seq (.reg [⟨(some 5), none, .mov (.t 0)⟩,
   ⟨(some 6), none, .len false (.t 5)⟩,
   ⟨(some 3), none, .mov (.t 6)⟩])
 (.seq (.seq (.reg [⟨(some 4), none, .mov (.c (.p (.int .i64 0)))⟩])
 (.blk 0 (.loop (.seq (.seq (.reg [⟨(some 7), none, .mov (.t 4)⟩,
   ⟨(some 8), none, .mov (.t 0)⟩,
   ⟨(some 9), none, .len false (.t 8)⟩,
   ⟨(some 10), none, .bin .lss (.t 7) (.t 9)⟩])
 (.cond (.t 10)
  (.skip)
  (.exit 0)))
 (.seq (.blk 1 (.reg [⟨(some 13), none, .mov (.t 3)⟩,
   ⟨(some 14), none, .mov (.t 0)⟩,
   ⟨(some 15), none, .mov (.t 4)⟩,
   ⟨(some 16), none, .idxS 5 (.t 14) (.t 15)⟩,
   ⟨(some 17), none, .fldA 3 (.t 16)⟩,
   ⟨(some 21), none, .mov (.t 0)⟩,
   ⟨(some 22), none, .mov (.t 4)⟩,
   ⟨(some 23), none, .idxS 5 (.t 21) (.t 22)⟩,
   ⟨(some 24), none, .fldA 4 (.t 23)⟩,
   ⟨(some 18), none, .ld none (.t 17)⟩,
   ⟨(some 25), none, .ld none (.t 24)⟩,
   ⟨(some 19), none, .call n_spec_l3Count [(.t 18)]⟩,
   ⟨none, none, .chk none 24 25⟩,
   ⟨(some 20), none, .bin .add (.t 13) (.t 19)⟩,
   ⟨(some 26), none, .call n_spec_l3Count [(.t 25)]⟩,
   ⟨(some 27), none, .bin .add (.t 20) (.t 26)⟩,
   ⟨(some 3), none, .mov (.t 27)⟩]))
 (.reg [⟨(some 11), none, .mov (.t 4)⟩,
   ⟨(some 12), none, .bin .add (.t 11) (.c (.p (.int .i64 1)))⟩,
   ⟨(some 4), none, .mov (.t 12)⟩]))))))
 (.seq (.reg [⟨(some 28), none, .mov (.t 3)⟩,
   ⟨(some 2), none, .mov (.t 28)⟩])
 (.ret))))⟩
theorem k_spec_l3Count : compF Tryd.prog n_spec_l3Count = some F_spec_l3Count := by kernel_rfl
def F_spec_l3All : FK := ⟨22, [.t 2],
 .seq (.reg [⟨(some 1), none, .box 1 (.t 0)⟩,
   ⟨(some 2), none, .mov (.c (.p (.int .i64 0)))⟩])
 (.seq (.reg [⟨(some 3), none, .mov (.c (.p (.int .i64 0)))⟩])
 (.seq (.seq (.reg [⟨(some 4), none, .mov (.c (.p (.int .i64 0)))⟩])
 (.blk 0 (.loop (.seq (.seq (.reg [⟨(some 5), none, .mov (.t 4)⟩,
   ⟨(some 6), none, .fldA 0 (.t 1)⟩,
   ⟨(some 7), none, .ld none (.t 6)⟩,
   ⟨(some 8), none, .len false (.t 7)⟩,
   ⟨(some 9), none, .bin .lss (.t 5) (.t 8)⟩])
 (.cond (.t 9)
  (.skip)
  (.exit 0)))
 (.seq (.blk 1 (.reg [⟨(some 12), none, .mov (.t 3)⟩,
   ⟨(some 13), none, .fldA 0 (.t 1)⟩,
   ⟨(some 14), none, .ld none (.t 13)⟩,
   ⟨(some 15), none, .mov (.t 4)⟩,
   ⟨(some 16), none, .idxS 3 (.t 14) (.t 15)⟩,
   ⟨(some 17), none, .fldA 2 (.t 16)⟩,
   ⟨(some 18), none, .ld none (.t 17)⟩,
   ⟨(some 19), none, .call n_spec_l3Count [(.t 18)]⟩,
   ⟨(some 20), none, .bin .add (.t 12) (.t 19)⟩,
   ⟨(some 3), none, .mov (.t 20)⟩]))
 (.reg [⟨(some 10), none, .mov (.t 4)⟩,
   ⟨(some 11), none, .bin .add (.t 10) (.c (.p (.int .i64 1)))⟩,
   ⟨(some 4), none, .mov (.t 11)⟩]))))))
 (.seq (.reg [⟨(some 21), none, .mov (.t 3)⟩,
   ⟨(some 2), none, .mov (.t 21)⟩])
 (.ret))))⟩
theorem k_spec_l3All : compF Tryd.prog n_spec_l3All = some F_spec_l3All := by kernel_rfl
def F_spec_ProgramValid : FK := ⟨26, [.t 2],
 .seq (.reg [⟨(some 1), none, .box 1 (.t 0)⟩,
   ⟨(some 2), none, .mov (.c (.p (.bool false)))⟩])
 (.seq (.seq (.reg [⟨(some 4), none, .fldA 0 (.t 1)⟩,
   ⟨(some 5), none, .ld none (.t 4)⟩,
   ⟨(some 6), none, .len false (.t 5)⟩,
   ⟨(some 7), none, .call n_spec_l1In [(.t 6), (.c (.p (.int .i64 1))), (.c (.p (.int .i64 4)))]⟩,
   ⟨(some 8), none, .not (.t 7)⟩])
 (.cond (.t 8)
  (.seq (.reg [⟨(some 2), none, .mov (.c (.p (.bool false)))⟩])
  (.ret))
  (.skip)))
 (.seq (.seq (.reg [⟨(some 3), none, .mov (.c (.p (.int .i64 0)))⟩])
 (.blk 0 (.loop (.seq (.seq (.reg [⟨(some 9), none, .mov (.t 3)⟩,
   ⟨(some 10), none, .fldA 0 (.t 1)⟩,
   ⟨(some 11), none, .ld none (.t 10)⟩,
   ⟨(some 12), none, .len false (.t 11)⟩,
   ⟨(some 13), none, .bin .lss (.t 9) (.t 12)⟩])
 (.cond (.t 13)
  (.skip)
  (.exit 0)))
 (.seq (.blk 1 (.seq (.reg [⟨(some 16), none, .fldA 0 (.t 1)⟩,
   ⟨(some 17), none, .ld none (.t 16)⟩,
   ⟨(some 18), none, .mov (.t 3)⟩,
   ⟨(some 19), none, .idxS 3 (.t 17) (.t 18)⟩,
   ⟨(some 20), none, .ld (some 3) (.t 19)⟩,
   ⟨(some 21), none, .call n_spec_l3Fn [(.t 20)]⟩,
   ⟨(some 22), none, .not (.t 21)⟩])
 (.cond (.t 22)
  (.seq (.reg [⟨(some 2), none, .mov (.c (.p (.bool false)))⟩])
  (.ret))
  (.skip))))
 (.reg [⟨(some 14), none, .mov (.t 3)⟩,
   ⟨(some 15), none, .bin .add (.t 14) (.c (.p (.int .i64 1)))⟩,
   ⟨(some 3), none, .mov (.t 15)⟩]))))))
 (.seq (.reg [⟨(some 23), none, .ld (some 1) (.t 1)⟩,
   ⟨(some 24), none, .call n_spec_l3All [(.t 23)]⟩,
   ⟨(some 25), none, .bin .leq (.t 24) (.c (.p (.int .i64 40)))⟩,
   ⟨(some 2), none, .mov (.t 25)⟩])
 (.ret))))⟩
theorem k_spec_ProgramValid : compF Tryd.prog n_spec_ProgramValid = some F_spec_ProgramValid := by kernel_rfl
def F_spec_FnAt : FK := ⟨22, [.t 4],
 .seq (.reg [⟨(some 2), none, .box 1 (.t 0)⟩,
   ⟨(some 4), none, .mov (.c (.p (.int .i64 0)))⟩])
 (.seq (.seq (.reg [⟨(some 5), none, .mov (.c (.p (.int .i64 0)))⟩])
 (.blk 0 (.loop (.seq (.seq (.reg [⟨(some 6), none, .mov (.t 5)⟩,
   ⟨(some 7), none, .fldA 0 (.t 2)⟩,
   ⟨(some 8), none, .ld none (.t 7)⟩,
   ⟨(some 9), none, .len false (.t 8)⟩,
   ⟨(some 10), none, .bin .lss (.t 6) (.t 9)⟩])
 (.cond (.t 10)
  (.skip)
  (.exit 0)))
 (.seq (.blk 1 (.seq (.reg [⟨(some 13), none, .fldA 0 (.t 2)⟩,
   ⟨(some 14), none, .ld none (.t 13)⟩,
   ⟨(some 15), none, .mov (.t 5)⟩,
   ⟨(some 16), none, .idxS 3 (.t 14) (.t 15)⟩,
   ⟨(some 17), none, .fldA 0 (.t 16)⟩,
   ⟨(some 18), none, .ld none (.t 17)⟩,
   ⟨(some 19), none, .mov (.t 1)⟩,
   ⟨(some 20), none, .bins .eql (.t 18) (.t 19)⟩])
 (.cond (.t 20)
  (.seq (.reg [⟨(some 21), none, .mov (.t 5)⟩,
    ⟨(some 4), none, .mov (.t 21)⟩])
  (.ret))
  (.skip))))
 (.reg [⟨(some 11), none, .mov (.t 5)⟩,
   ⟨(some 12), none, .bin .add (.t 11) (.c (.p (.int .i64 1)))⟩,
   ⟨(some 5), none, .mov (.t 12)⟩]))))))
 (.seq (.reg [⟨(some 4), none, .mov (.c (.p (.int .i64 (-1))))⟩])
 (.ret)))⟩
theorem k_spec_FnAt : compF Tryd.prog n_spec_FnAt = some F_spec_FnAt := by kernel_rfl
def F_spec_l4Walk_fail : FK := ⟨13, [],
 .seq (.reg [⟨(some 4), none, .mov (.t 0)⟩,
   ⟨(some 5), none, .nilck (.t 4)⟩,
   ⟨(some 6), none, .fldA 4 (.t 5)⟩,
   ⟨(some 7), none, .ld none (.t 6)⟩,
   ⟨(some 8), none, .bin .eql (.t 7) (.c (.p (.int .i64 0)))⟩])
 (.cond (.t 8)
  (.reg [⟨(some 9), none, .mov (.t 0)⟩,
    ⟨(some 10), none, .mov (.t 1)⟩,
    ⟨(some 11), none, .nilck (.t 9)⟩,
    ⟨(some 12), none, .fldA 4 (.t 11)⟩,
    ⟨none, none, .st 1 (.t 12) (.t 10)⟩])
  (.skip))⟩
theorem k_spec_l4Walk_fail : compF Tryd.prog n_spec_l4Walk_fail = some F_spec_l4Walk_fail := by kernel_rfl
def F_spec_l4Walk_find : FK := ⟨27, [.t 4],
 .seq (.reg [⟨(some 4), none, .mov (.c (.p (.int .i64 0)))⟩])
 (.seq (.seq (.reg [⟨(some 6), none, .mov (.t 0)⟩,
   ⟨(some 7), none, .nilck (.t 6)⟩,
   ⟨(some 8), none, .fldA 2 (.t 7)⟩,
   ⟨(some 9), none, .ld none (.t 8)⟩,
   ⟨(some 10), none, .len false (.t 9)⟩,
   ⟨(some 11), none, .bin .sub (.t 10) (.c (.p (.int .i64 1)))⟩,
   ⟨(some 5), none, .mov (.t 11)⟩])
 (.blk 0 (.loop (.seq (.seq (.reg [⟨(some 12), none, .mov (.t 5)⟩,
   ⟨(some 13), none, .bin .geq (.t 12) (.c (.p (.int .i64 0)))⟩])
 (.cond (.t 13)
  (.skip)
  (.exit 0)))
 (.seq (.blk 1 (.seq (.reg [⟨(some 16), none, .mov (.t 0)⟩,
   ⟨(some 17), none, .nilck (.t 16)⟩,
   ⟨(some 18), none, .fldA 2 (.t 17)⟩,
   ⟨(some 19), none, .ld none (.t 18)⟩,
   ⟨(some 20), none, .mov (.t 5)⟩,
   ⟨(some 21), none, .idxS 3 (.t 19) (.t 20)⟩,
   ⟨(some 22), none, .fldA 0 (.t 21)⟩,
   ⟨(some 23), none, .ld none (.t 22)⟩,
   ⟨(some 24), none, .mov (.t 1)⟩,
   ⟨(some 25), none, .bins .eql (.t 23) (.t 24)⟩])
 (.cond (.t 25)
  (.seq (.reg [⟨(some 26), none, .mov (.t 5)⟩,
    ⟨(some 4), none, .mov (.t 26)⟩])
  (.ret))
  (.skip))))
 (.reg [⟨(some 14), none, .mov (.t 5)⟩,
   ⟨(some 15), none, .bin .sub (.t 14) (.c (.p (.int .i64 1)))⟩,
   ⟨(some 5), none, .mov (.t 15)⟩]))))))
 (.seq (.reg [⟨(some 4), none, .mov (.c (.p (.int .i64 (-1))))⟩])
 (.ret)))⟩
theorem k_spec_l4Walk_find : compF Tryd.prog n_spec_l4Walk_find = some F_spec_l4Walk_find := by kernel_rfl
def F_spec_l4Name : FK := ⟨11, [.t 2],
 .seq (.reg [⟨(some 2), none, .mov (.c (.p (.str [])))⟩])
 (.seq (.reg [⟨(some 4), none, .mov (.t 0)⟩,
   ⟨(some 5), none, .bin .rem (.t 4) (.c (.p (.int .i64 26)))⟩,
   ⟨(some 3), none, .mov (.t 5)⟩])
 (.seq (.reg [⟨(some 6), none, .mov (.t 3)⟩,
   ⟨(some 7), none, .mov (.t 3)⟩,
   ⟨(some 8), none, .bin .add (.t 7) (.c (.p (.int .i64 1)))⟩,
   ⟨(some 9), none, .slStr (.c (.p (.str [97, 98, 99, 100, 101, 102, 103, 104, 105, 106, 107, 108, 109, 110, 111, 112, 113, 114, 115, 116, 117, 118, 119, 120, 121, 122]))) (some (.t 6)) (some (.t 8))⟩,
   ⟨(some 10), none, .bins .add (.c (.p (.str [118]))) (.t 9)⟩,
   ⟨(some 2), none, .mov (.t 10)⟩])
 (.ret)))⟩
theorem k_spec_l4Name : compF Tryd.prog n_spec_l4Name = some F_spec_l4Name := by kernel_rfl
def F_spec_l4Walk_put : FK := ⟨57, [.t 6],
 .seq (.reg [⟨(some 6), none, .mov (.c (.p (.str [])))⟩])
 (.seq (.reg [⟨(some 8), none, .mov (.t 0)⟩,
   ⟨(some 9), none, .mov (.t 1)⟩,
   ⟨(some 10), none, .call n_spec_l4Walk_find [(.t 8), (.t 9)]⟩,
   ⟨(some 7), none, .mov (.t 10)⟩])
 (.seq (.seq (.reg [⟨(some 11), none, .mov (.t 7)⟩,
   ⟨(some 12), none, .bin .geq (.t 11) (.c (.p (.int .i64 0)))⟩,
   ⟨(some 13), none, .mov (.t 12)⟩,
   ⟨(some 14), (some (13, true)), .mov (.t 0)⟩,
   ⟨(some 15), (some (13, true)), .nilck (.t 14)⟩,
   ⟨(some 16), (some (13, true)), .fldA 2 (.t 15)⟩,
   ⟨(some 17), (some (13, true)), .ld none (.t 16)⟩,
   ⟨(some 18), (some (13, true)), .mov (.t 7)⟩,
   ⟨(some 19), (some (13, true)), .idxS 3 (.t 17) (.t 18)⟩,
   ⟨(some 20), (some (13, true)), .fldA 2 (.t 19)⟩,
   ⟨(some 21), (some (13, true)), .ld none (.t 20)⟩,
   ⟨(some 22), (some (13, true)), .mov (.t 2)⟩,
   ⟨(some 23), (some (13, true)), .bin .eql (.t 21) (.t 22)⟩,
   ⟨(some 24), none, .pick (.t 13) (.t 23) (.c (.p (.bool false)))⟩])
 (.cond (.t 24)
  (.reg [⟨(some 25), none, .mov (.t 0)⟩,
    ⟨(some 26), none, .call n_spec_l4Walk_fail [(.t 25), (.c (.p (.int .i64 2)))]⟩])
  (.skip)))
 (.seq (.reg [⟨(some 27), none, .mov (.t 0)⟩,
   ⟨(some 28), none, .mov (.t 0)⟩,
   ⟨(some 29), none, .nilck (.t 28)⟩,
   ⟨(some 30), none, .fldA 2 (.t 29)⟩,
   ⟨(some 32), none, .mov (.t 1)⟩,
   ⟨(some 33), none, .mov (.t 0)⟩,
   ⟨(some 34), none, .nilck (.t 33)⟩,
   ⟨(some 35), none, .fldA 3 (.t 34)⟩,
   ⟨(some 37), none, .mov (.t 2)⟩,
   ⟨(some 31), none, .ld none (.t 30)⟩,
   ⟨(some 36), none, .ld none (.t 35)⟩,
   ⟨(some 38), none, .bld [(.p (.str [])), (.p (.int .i64 0)), (.p (.int .i64 0))] [(0, 1, (.t 32)), (1, 1, (.t 36)), (2, 1, (.t 37))]⟩,
   ⟨(some 39), none, .bslP 3 [(.p (.str [])), (.p (.int .i64 0)), (.p (.int .i64 0))] 1 [(0, 3, (.t 38))]⟩,
   ⟨(some 40), none, .app 3 32 (.t 31) (.t 39)⟩,
   ⟨(some 41), none, .nilck (.t 27)⟩,
   ⟨(some 42), none, .fldA 2 (.t 41)⟩,
   ⟨none, none, .st 1 (.t 42) (.t 40)⟩])
 (.seq (.reg [⟨(some 43), none, .mov (.t 0)⟩,
   ⟨(some 44), none, .mov (.t 0)⟩,
   ⟨(some 45), none, .nilck (.t 44)⟩,
   ⟨(some 46), none, .fldA 3 (.t 45)⟩,
   ⟨(some 47), none, .ld none (.t 46)⟩,
   ⟨(some 48), none, .bin .add (.t 47) (.c (.p (.int .i64 1)))⟩,
   ⟨(some 49), none, .nilck (.t 43)⟩,
   ⟨(some 50), none, .fldA 3 (.t 49)⟩,
   ⟨none, none, .st 1 (.t 50) (.t 48)⟩])
 (.seq (.reg [⟨(some 51), none, .mov (.t 0)⟩,
   ⟨(some 52), none, .nilck (.t 51)⟩,
   ⟨(some 53), none, .fldA 3 (.t 52)⟩,
   ⟨(some 54), none, .ld none (.t 53)⟩,
   ⟨(some 55), none, .bin .sub (.t 54) (.c (.p (.int .i64 1)))⟩,
   ⟨(some 56), none, .call n_spec_l4Name [(.t 55)]⟩,
   ⟨(some 6), none, .mov (.t 56)⟩])
 (.ret))))))⟩
theorem k_spec_l4Walk_put : compF Tryd.prog n_spec_l4Walk_put = some F_spec_l4Walk_put := by kernel_rfl
def F_spec_l4Walk_use : FK := ⟨23, [.t 4],
 .seq (.reg [⟨(some 4), none, .mov (.c (.p (.str [])))⟩])
 (.seq (.reg [⟨(some 6), none, .mov (.t 0)⟩,
   ⟨(some 7), none, .mov (.t 1)⟩,
   ⟨(some 8), none, .call n_spec_l4Walk_find [(.t 6), (.t 7)]⟩,
   ⟨(some 5), none, .mov (.t 8)⟩])
 (.seq (.seq (.reg [⟨(some 9), none, .mov (.t 5)⟩,
   ⟨(some 10), none, .bin .lss (.t 9) (.c (.p (.int .i64 0)))⟩])
 (.cond (.t 10)
  (.seq (.reg [⟨(some 11), none, .mov (.t 0)⟩,
    ⟨(some 12), none, .call n_spec_l4Walk_fail [(.t 11), (.c (.p (.int .i64 3)))]⟩])
  (.seq (.reg [⟨(some 13), none, .mov (.t 1)⟩,
    ⟨(some 4), none, .mov (.t 13)⟩])
  (.ret)))
  (.skip)))
 (.seq (.reg [⟨(some 14), none, .mov (.t 0)⟩,
   ⟨(some 15), none, .nilck (.t 14)⟩,
   ⟨(some 16), none, .fldA 2 (.t 15)⟩,
   ⟨(some 17), none, .ld none (.t 16)⟩,
   ⟨(some 18), none, .mov (.t 5)⟩,
   ⟨(some 19), none, .idxS 3 (.t 17) (.t 18)⟩,
   ⟨(some 20), none, .fldA 1 (.t 19)⟩,
   ⟨(some 21), none, .ld none (.t 20)⟩,
   ⟨(some 22), none, .call n_spec_l4Name [(.t 21)]⟩,
   ⟨(some 4), none, .mov (.t 22)⟩])
 (.ret))))⟩
theorem k_spec_l4Walk_use : compF Tryd.prog n_spec_l4Walk_use = some F_spec_l4Walk_use := by kernel_rfl
def F_spec_l4Walk_expr : FK := ⟨75, [.c 4 (some 4)],
 .seq (.reg [⟨(some 3), none, .box 4 (.t 1)⟩,
   ⟨(some 4), none, .alloc [(.p (.int .i64 0)), (.p (.int .i64 0)), (.p (.str [])), .nils]⟩])
 (.seq (.seq (.reg [⟨(some 8), none, .fldA 0 (.t 3)⟩,
   ⟨(some 9), none, .ld none (.t 8)⟩,
   ⟨(some 10), none, .bin .eql (.t 9) (.c (.p (.int .i64 2)))⟩])
 (.cond (.t 10)
  (.reg [⟨(some 11), none, .mov (.t 0)⟩,
    ⟨(some 12), none, .fldA 2 (.t 3)⟩,
    ⟨(some 13), none, .ld none (.t 12)⟩,
    ⟨(some 14), none, .call n_spec_l4Walk_use [(.t 11), (.t 13)]⟩,
    ⟨(some 15), none, .fldA 2 (.t 3)⟩,
    ⟨none, none, .st 1 (.t 15) (.t 14)⟩])
  (.skip)))
 (.seq (.seq (.reg [⟨(some 16), none, .fldA 0 (.t 3)⟩,
   ⟨(some 17), none, .ld none (.t 16)⟩,
   ⟨(some 18), none, .bin .eql (.t 17) (.c (.p (.int .i64 13)))⟩])
 (.cond (.t 18)
  (.seq (.reg [⟨(some 19), none, .mov (.t 0)⟩,
    ⟨(some 20), none, .nilck (.t 19)⟩,
    ⟨(some 21), none, .fldA 0 (.t 20)⟩,
    ⟨(some 23), none, .fldA 2 (.t 3)⟩,
    ⟨(some 22), none, .ld (some 1) (.t 21)⟩,
    ⟨(some 24), none, .ld none (.t 23)⟩,
    ⟨(some 25), none, .call n_spec_FnAt [(.t 22), (.t 24)]⟩,
    ⟨(some 5), none, .mov (.t 25)⟩])
  (.seq (.reg [⟨(some 26), none, .mov (.t 5)⟩,
    ⟨(some 27), none, .bin .lss (.t 26) (.c (.p (.int .i64 0)))⟩,
    ⟨(some 28), none, .mov (.t 27)⟩,
    ⟨(some 29), (some (28, false)), .mov (.t 5)⟩,
    ⟨(some 30), (some (28, false)), .mov (.t 0)⟩,
    ⟨(some 31), (some (28, false)), .nilck (.t 30)⟩,
    ⟨(some 32), (some (28, false)), .fldA 1 (.t 31)⟩,
    ⟨(some 33), (some (28, false)), .ld none (.t 32)⟩,
    ⟨(some 34), (some (28, false)), .bin .geq (.t 29) (.t 33)⟩,
    ⟨(some 35), none, .pick (.t 28) (.c (.p (.bool true))) (.t 34)⟩])
  (.cond (.t 35)
   (.reg [⟨(some 36), none, .mov (.t 0)⟩,
     ⟨(some 37), none, .call n_spec_l4Walk_fail [(.t 36), (.c (.p (.int .i64 4)))]⟩])
   (.seq (.reg [⟨(some 38), none, .mov (.t 0)⟩,
     ⟨(some 39), none, .nilck (.t 38)⟩,
     ⟨(some 40), none, .fldA 0 (.t 39)⟩,
     ⟨(some 41), none, .fldA 0 (.t 40)⟩,
     ⟨(some 43), none, .mov (.t 5)⟩,
     ⟨(some 48), none, .fldA 3 (.t 3)⟩,
     ⟨(some 42), none, .ld none (.t 41)⟩,
     ⟨(some 44), none, .idxS 3 (.t 42) (.t 43)⟩,
     ⟨(some 45), none, .fldA 1 (.t 44)⟩,
     ⟨(some 46), none, .ld none (.t 45)⟩,
     ⟨(some 47), none, .len false (.t 46)⟩,
     ⟨(some 49), none, .ld none (.t 48)⟩,
     ⟨(some 50), none, .len false (.t 49)⟩,
     ⟨(some 51), none, .bin .neq (.t 47) (.t 50)⟩])
   (.cond (.t 51)
    (.reg [⟨(some 52), none, .mov (.t 0)⟩,
      ⟨(some 53), none, .call n_spec_l4Walk_fail [(.t 52), (.c (.p (.int .i64 5)))]⟩])
    (.skip))))))
  (.skip)))
 (.seq (.reg [⟨(some 54), none, .bsl 4 [(.p (.int .i64 0)), (.p (.int .i64 0)), (.p (.str [])), .nils] 0 []⟩,
   ⟨(some 6), none, .mov (.t 54)⟩])
 (.seq (.seq (.reg [⟨(some 7), none, .mov (.c (.p (.int .i64 0)))⟩])
 (.blk 0 (.loop (.seq (.seq (.reg [⟨(some 55), none, .mov (.t 7)⟩,
   ⟨(some 56), none, .fldA 3 (.t 3)⟩,
   ⟨(some 57), none, .ld none (.t 56)⟩,
   ⟨(some 58), none, .len false (.t 57)⟩,
   ⟨(some 59), none, .bin .lss (.t 55) (.t 58)⟩])
 (.cond (.t 59)
  (.skip)
  (.exit 0)))
 (.seq (.blk 1 (.reg [⟨(some 62), none, .mov (.t 6)⟩,
   ⟨(some 63), none, .mov (.t 0)⟩,
   ⟨(some 64), none, .fldA 3 (.t 3)⟩,
   ⟨(some 65), none, .ld none (.t 64)⟩,
   ⟨(some 66), none, .mov (.t 7)⟩,
   ⟨(some 67), none, .idxS 4 (.t 65) (.t 66)⟩,
   ⟨(some 68), none, .ld (some 4) (.t 67)⟩,
   ⟨(some 69), none, .call n_spec_l4Walk_expr [(.t 63), (.t 68)]⟩,
   ⟨(some 70), none, .bsl 4 [(.p (.int .i64 0)), (.p (.int .i64 0)), (.p (.str [])), .nils] 1 [(0, 4, (.t 69))]⟩,
   ⟨(some 71), none, .app 4 56 (.t 62) (.t 70)⟩,
   ⟨(some 6), none, .mov (.t 71)⟩]))
 (.reg [⟨(some 60), none, .mov (.t 7)⟩,
   ⟨(some 61), none, .bin .add (.t 60) (.c (.p (.int .i64 1)))⟩,
   ⟨(some 7), none, .mov (.t 61)⟩]))))))
 (.seq (.reg [⟨(some 72), none, .mov (.t 6)⟩,
   ⟨(some 73), none, .fldA 3 (.t 3)⟩,
   ⟨none, none, .st 1 (.t 73) (.t 72)⟩])
 (.seq (.reg [⟨(some 74), none, .ld (some 4) (.t 3)⟩,
   ⟨none, none, .st 4 (.t 4) (.t 74)⟩])
 (.ret)))))))⟩
theorem k_spec_l4Walk_expr : compF Tryd.prog n_spec_l4Walk_expr = some F_spec_l4Walk_expr := by kernel_rfl
def F_spec_l4Walk_stmts : FK := ⟨96, [.t 6],
 .seq (.reg [⟨(some 6), none, .mov (.c .nils)⟩])
 (.seq (.reg [⟨(some 13), none, .bsl 5 [(.p (.int .i64 0)), (.p (.str [])), .nils, .nils, .nils] 0 []⟩,
   ⟨(some 7), none, .mov (.t 13)⟩])
 (.seq (.reg [⟨(some 14), none, .mov (.t 0)⟩,
   ⟨(some 15), none, .nilck (.t 14)⟩,
   ⟨(some 16), none, .fldA 2 (.t 15)⟩,
   ⟨(some 17), none, .ld none (.t 16)⟩,
   ⟨(some 18), none, .len false (.t 17)⟩,
   ⟨(some 8), none, .mov (.t 18)⟩])
 (.seq (.seq (.reg [⟨(some 9), none, .mov (.c (.p (.int .i64 0)))⟩])
 (.blk 0 (.loop (.seq (.seq (.reg [⟨(some 19), none, .mov (.t 9)⟩,
   ⟨(some 20), none, .mov (.t 1)⟩,
   ⟨(some 21), none, .len false (.t 20)⟩,
   ⟨(some 22), none, .bin .lss (.t 19) (.t 21)⟩])
 (.cond (.t 22)
  (.skip)
  (.exit 0)))
 (.seq (.blk 1 (.seq (.reg [⟨(some 25), none, .mov (.t 1)⟩,
   ⟨(some 26), none, .mov (.t 9)⟩,
   ⟨(some 27), none, .idxS 5 (.t 25) (.t 26)⟩,
   ⟨(some 28), none, .ld (some 5) (.t 27)⟩,
   ⟨(some 10), none, .alloc [(.p (.int .i64 0)), (.p (.str [])), .nils, .nils, .nils]⟩,
   ⟨none, none, .st 5 (.t 10) (.t 28)⟩])
 (.seq (.reg [⟨(some 29), none, .bsl 4 [(.p (.int .i64 0)), (.p (.int .i64 0)), (.p (.str [])), .nils] 0 []⟩,
   ⟨(some 11), none, .mov (.t 29)⟩])
 (.seq (.seq (.reg [⟨(some 12), none, .mov (.c (.p (.int .i64 0)))⟩])
 (.blk 2 (.loop (.seq (.seq (.reg [⟨(some 30), none, .mov (.t 12)⟩,
   ⟨(some 31), none, .fldA 2 (.t 10)⟩,
   ⟨(some 32), none, .ld none (.t 31)⟩,
   ⟨(some 33), none, .len false (.t 32)⟩,
   ⟨(some 34), none, .bin .lss (.t 30) (.t 33)⟩])
 (.cond (.t 34)
  (.skip)
  (.exit 2)))
 (.seq (.blk 3 (.reg [⟨(some 37), none, .mov (.t 11)⟩,
   ⟨(some 38), none, .mov (.t 0)⟩,
   ⟨(some 39), none, .fldA 2 (.t 10)⟩,
   ⟨(some 40), none, .ld none (.t 39)⟩,
   ⟨(some 41), none, .mov (.t 12)⟩,
   ⟨(some 42), none, .idxS 4 (.t 40) (.t 41)⟩,
   ⟨(some 43), none, .ld (some 4) (.t 42)⟩,
   ⟨(some 44), none, .call n_spec_l4Walk_expr [(.t 38), (.t 43)]⟩,
   ⟨(some 45), none, .bsl 4 [(.p (.int .i64 0)), (.p (.int .i64 0)), (.p (.str [])), .nils] 1 [(0, 4, (.t 44))]⟩,
   ⟨(some 46), none, .app 4 56 (.t 37) (.t 45)⟩,
   ⟨(some 11), none, .mov (.t 46)⟩]))
 (.reg [⟨(some 35), none, .mov (.t 12)⟩,
   ⟨(some 36), none, .bin .add (.t 35) (.c (.p (.int .i64 1)))⟩,
   ⟨(some 12), none, .mov (.t 36)⟩]))))))
 (.seq (.reg [⟨(some 47), none, .mov (.t 11)⟩,
   ⟨(some 48), none, .fldA 2 (.t 10)⟩,
   ⟨none, none, .st 1 (.t 48) (.t 47)⟩])
 (.seq (.seq (.reg [⟨(some 49), none, .fldA 0 (.t 10)⟩,
   ⟨(some 50), none, .ld none (.t 49)⟩,
   ⟨(some 51), none, .bin .eql (.t 50) (.c (.p (.int .i64 1)))⟩])
 (.cond (.t 51)
  (.reg [⟨(some 52), none, .mov (.t 0)⟩,
    ⟨(some 53), none, .fldA 1 (.t 10)⟩,
    ⟨(some 54), none, .ld none (.t 53)⟩,
    ⟨(some 55), none, .mov (.t 2)⟩,
    ⟨(some 56), none, .call n_spec_l4Walk_put [(.t 52), (.t 54), (.t 55)]⟩,
    ⟨(some 57), none, .fldA 1 (.t 10)⟩,
    ⟨none, none, .st 1 (.t 57) (.t 56)⟩])
  (.skip)))
 (.seq (.seq (.reg [⟨(some 58), none, .fldA 0 (.t 10)⟩,
   ⟨(some 59), none, .ld none (.t 58)⟩,
   ⟨(some 60), none, .bin .eql (.t 59) (.c (.p (.int .i64 2)))⟩])
 (.cond (.t 60)
  (.reg [⟨(some 61), none, .mov (.t 0)⟩,
    ⟨(some 62), none, .fldA 1 (.t 10)⟩,
    ⟨(some 63), none, .ld none (.t 62)⟩,
    ⟨(some 64), none, .call n_spec_l4Walk_use [(.t 61), (.t 63)]⟩,
    ⟨(some 65), none, .fldA 1 (.t 10)⟩,
    ⟨none, none, .st 1 (.t 65) (.t 64)⟩])
  (.skip)))
 (.seq (.reg [⟨(some 66), none, .mov (.t 0)⟩,
   ⟨(some 67), none, .fldA 3 (.t 10)⟩,
   ⟨(some 68), none, .ld none (.t 67)⟩,
   ⟨(some 69), none, .mov (.t 2)⟩,
   ⟨(some 70), none, .bin .add (.t 69) (.c (.p (.int .i64 1)))⟩,
   ⟨(some 71), none, .call n_spec_l4Walk_stmts [(.t 66), (.t 68), (.t 70)]⟩,
   ⟨(some 72), none, .fldA 3 (.t 10)⟩,
   ⟨none, none, .st 1 (.t 72) (.t 71)⟩])
 (.seq (.reg [⟨(some 73), none, .mov (.t 0)⟩,
   ⟨(some 74), none, .fldA 4 (.t 10)⟩,
   ⟨(some 75), none, .ld none (.t 74)⟩,
   ⟨(some 76), none, .mov (.t 2)⟩,
   ⟨(some 77), none, .bin .add (.t 76) (.c (.p (.int .i64 1)))⟩,
   ⟨(some 78), none, .call n_spec_l4Walk_stmts [(.t 73), (.t 75), (.t 77)]⟩,
   ⟨(some 79), none, .fldA 4 (.t 10)⟩,
   ⟨none, none, .st 1 (.t 79) (.t 78)⟩])
 (.reg [⟨(some 80), none, .mov (.t 7)⟩,
   ⟨(some 81), none, .ld (some 5) (.t 10)⟩,
   ⟨(some 82), none, .bsl 5 [(.p (.int .i64 0)), (.p (.str [])), .nils, .nils, .nils] 1 [(0, 5, (.t 81))]⟩,
   ⟨(some 83), none, .app 5 96 (.t 80) (.t 82)⟩,
   ⟨(some 7), none, .mov (.t 83)⟩]))))))))))
 (.reg [⟨(some 23), none, .mov (.t 9)⟩,
   ⟨(some 24), none, .bin .add (.t 23) (.c (.p (.int .i64 1)))⟩,
   ⟨(some 9), none, .mov (.t 24)⟩]))))))
 (.seq (.seq (.reg [⟨(some 84), none, .mov (.t 2)⟩,
   ⟨(some 85), none, .bin .gtr (.t 84) (.c (.p (.int .i64 0)))⟩])
 (.cond (.t 85)
  (.reg [⟨(some 86), none, .mov (.t 0)⟩,
    ⟨(some 87), none, .mov (.t 0)⟩,
    ⟨(some 88), none, .nilck (.t 87)⟩,
    ⟨(some 89), none, .fldA 2 (.t 88)⟩,
    ⟨(some 90), none, .ld none (.t 89)⟩,
    ⟨(some 91), none, .mov (.t 8)⟩,
    ⟨(some 92), none, .slS 3 (.t 90) none (some (.t 91))⟩,
    ⟨(some 93), none, .nilck (.t 86)⟩,
    ⟨(some 94), none, .fldA 2 (.t 93)⟩,
    ⟨none, none, .st 1 (.t 94) (.t 92)⟩])
  (.skip)))
 (.seq (.reg [⟨(some 95), none, .mov (.t 7)⟩,
   ⟨(some 6), none, .mov (.t 95)⟩])
 (.ret))))))⟩
theorem k_spec_l4Walk_stmts : compF Tryd.prog n_spec_l4Walk_stmts = some F_spec_l4Walk_stmts := by kernel_rfl
def F_spec_l4Fn : FK := ⟨62, [.c 4 (some 3), .t 5, .t 6],
 .seq (.reg [⟨(some 2), none, .box 1 (.t 0)⟩,
   ⟨(some 4), none, .alloc [(.p (.str [])), .nils, .nils]⟩,
   ⟨(some 5), none, .mov (.c (.p (.int .i64 0)))⟩,
   ⟨(some 6), none, .mov (.c (.p (.int .i64 0)))⟩])
 (.seq (.reg [⟨(some 11), none, .ld (some 1) (.t 2)⟩,
   ⟨(some 12), none, .mov (.t 1)⟩,
   ⟨(some 13), none, .bld [.nils, (.p (.int .i64 0)), .nils, (.p (.int .i64 0)), (.p (.int .i64 0))] [(0, 1, (.t 11)), (1, 1, (.t 12))]⟩,
   ⟨(some 14), none, .box 5 (.t 13)⟩,
   ⟨(some 7), none, .mov (.t 14)⟩])
 (.seq (.reg [⟨(some 15), none, .fldA 0 (.t 2)⟩,
   ⟨(some 16), none, .ld none (.t 15)⟩,
   ⟨(some 17), none, .mov (.t 1)⟩,
   ⟨(some 18), none, .idxS 3 (.t 16) (.t 17)⟩,
   ⟨(some 19), none, .ld (some 3) (.t 18)⟩,
   ⟨(some 8), none, .alloc [(.p (.str [])), .nils, .nils]⟩,
   ⟨none, none, .st 3 (.t 8) (.t 19)⟩])
 (.seq (.seq (.reg [⟨(some 20), none, .ld (some 1) (.t 2)⟩,
   ⟨(some 21), none, .fldA 0 (.t 8)⟩,
   ⟨(some 22), none, .ld none (.t 21)⟩,
   ⟨(some 23), none, .call n_spec_FnAt [(.t 20), (.t 22)]⟩,
   ⟨(some 24), none, .mov (.t 1)⟩,
   ⟨(some 25), none, .bin .neq (.t 23) (.t 24)⟩])
 (.cond (.t 25)
  (.reg [⟨(some 26), none, .mov (.t 7)⟩,
    ⟨(some 27), none, .call n_spec_l4Walk_fail [(.t 26), (.c (.p (.int .i64 2)))]⟩])
  (.skip)))
 (.seq (.reg [⟨(some 28), none, .bsl 1 [(.p (.str []))] 0 []⟩,
   ⟨(some 9), none, .mov (.t 28)⟩])
 (.seq (.seq (.reg [⟨(some 10), none, .mov (.c (.p (.int .i64 0)))⟩])
 (.blk 0 (.loop (.seq (.seq (.reg [⟨(some 29), none, .mov (.t 10)⟩,
   ⟨(some 30), none, .fldA 1 (.t 8)⟩,
   ⟨(some 31), none, .ld none (.t 30)⟩,
   ⟨(some 32), none, .len false (.t 31)⟩,
   ⟨(some 33), none, .bin .lss (.t 29) (.t 32)⟩])
 (.cond (.t 33)
  (.skip)
  (.exit 0)))
 (.seq (.blk 1 (.reg [⟨(some 36), none, .mov (.t 9)⟩,
   ⟨(some 37), none, .mov (.t 7)⟩,
   ⟨(some 38), none, .fldA 1 (.t 8)⟩,
   ⟨(some 39), none, .ld none (.t 38)⟩,
   ⟨(some 40), none, .mov (.t 10)⟩,
   ⟨(some 41), none, .idxS 1 (.t 39) (.t 40)⟩,
   ⟨(some 42), none, .ld none (.t 41)⟩,
   ⟨(some 43), none, .call n_spec_l4Walk_put [(.t 37), (.t 42), (.c (.p (.int .i64 0)))]⟩,
   ⟨(some 44), none, .bsl 1 [(.p (.str []))] 1 [(0, 1, (.t 43))]⟩,
   ⟨(some 45), none, .app 1 16 (.t 36) (.t 44)⟩,
   ⟨(some 9), none, .mov (.t 45)⟩]))
 (.reg [⟨(some 34), none, .mov (.t 10)⟩,
   ⟨(some 35), none, .bin .add (.t 34) (.c (.p (.int .i64 1)))⟩,
   ⟨(some 10), none, .mov (.t 35)⟩]))))))
 (.seq (.reg [⟨(some 46), none, .mov (.t 9)⟩,
   ⟨(some 47), none, .fldA 1 (.t 8)⟩,
   ⟨none, none, .st 1 (.t 47) (.t 46)⟩])
 (.seq (.reg [⟨(some 48), none, .mov (.t 7)⟩,
   ⟨(some 49), none, .fldA 2 (.t 8)⟩,
   ⟨(some 50), none, .ld none (.t 49)⟩,
   ⟨(some 51), none, .call n_spec_l4Walk_stmts [(.t 48), (.t 50), (.c (.p (.int .i64 0)))]⟩,
   ⟨(some 52), none, .fldA 2 (.t 8)⟩,
   ⟨none, none, .st 1 (.t 52) (.t 51)⟩])
 (.seq (.reg [⟨(some 54), none, .mov (.t 7)⟩,
   ⟨(some 55), none, .nilck (.t 54)⟩,
   ⟨(some 56), none, .fldA 4 (.t 55)⟩,
   ⟨(some 58), none, .mov (.t 7)⟩,
   ⟨(some 59), none, .nilck (.t 58)⟩,
   ⟨(some 60), none, .fldA 3 (.t 59)⟩,
   ⟨(some 53), none, .ld (some 3) (.t 8)⟩,
   ⟨(some 57), none, .ld none (.t 56)⟩,
   ⟨(some 61), none, .ld none (.t 60)⟩,
   ⟨none, none, .st 3 (.t 4) (.t 53)⟩,
   ⟨none, none, .chk none 56 57⟩,
   ⟨none, none, .chk none 60 61⟩,
   ⟨(some 5), none, .mov (.t 57)⟩,
   ⟨(some 6), none, .mov (.t 61)⟩])
 (.ret)))))))))⟩
theorem k_spec_l4Fn : compF Tryd.prog n_spec_l4Fn = some F_spec_l4Fn := by kernel_rfl
def F_spec_CheckProgram : FK := ⟨27, [.t 2],
 .seq (.reg [⟨(some 1), none, .box 1 (.t 0)⟩,
   ⟨(some 2), none, .mov (.c (.p (.int .i64 0)))⟩])
 (.seq (.seq (.reg [⟨(some 7), none, .ld (some 1) (.t 1)⟩,
   ⟨(some 8), none, .call n_spec_ProgramValid [(.t 7)]⟩,
   ⟨(some 9), none, .not (.t 8)⟩])
 (.cond (.t 9)
  (.seq (.reg [⟨(some 2), none, .mov (.c (.p (.int .i64 1)))⟩])
  (.ret))
  (.skip)))
 (.seq (.seq (.reg [⟨(some 3), none, .mov (.c (.p (.int .i64 0)))⟩])
 (.blk 0 (.loop (.seq (.seq (.reg [⟨(some 10), none, .mov (.t 3)⟩,
   ⟨(some 11), none, .fldA 0 (.t 1)⟩,
   ⟨(some 12), none, .ld none (.t 11)⟩,
   ⟨(some 13), none, .len false (.t 12)⟩,
   ⟨(some 14), none, .bin .lss (.t 10) (.t 13)⟩])
 (.cond (.t 14)
  (.skip)
  (.exit 0)))
 (.seq (.blk 1 (.seq (.reg [⟨(some 18), none, .ld (some 1) (.t 1)⟩,
   ⟨(some 19), none, .mov (.t 3)⟩,
   ⟨(some 20), none, .call n_spec_l4Fn [(.t 18), (.t 19)]⟩,
   ⟨(some 17), none, .mov (.t 20)⟩,
   ⟨(some 21), none, .ext 0 (.t 17)⟩,
   ⟨(some 22), none, .ext 1 (.t 17)⟩,
   ⟨(some 23), none, .ext 2 (.t 17)⟩,
   ⟨(some 4), none, .alloc [(.p (.str [])), .nils, .nils]⟩,
   ⟨none, none, .st 3 (.t 4) (.t 21)⟩,
   ⟨(some 5), none, .mov (.t 22)⟩,
   ⟨(some 6), none, .mov (.t 23)⟩])
 (.seq (.reg [⟨(some 24), none, .mov (.t 5)⟩,
   ⟨(some 25), none, .bin .neq (.t 24) (.c (.p (.int .i64 0)))⟩])
 (.cond (.t 25)
  (.seq (.reg [⟨(some 26), none, .mov (.t 5)⟩,
    ⟨(some 2), none, .mov (.t 26)⟩])
  (.ret))
  (.skip)))))
 (.reg [⟨(some 15), none, .mov (.t 3)⟩,
   ⟨(some 16), none, .bin .add (.t 15) (.c (.p (.int .i64 1)))⟩,
   ⟨(some 3), none, .mov (.t 16)⟩]))))))
 (.seq (.reg [⟨(some 2), none, .mov (.c (.p (.int .i64 0)))⟩])
 (.ret))))⟩
theorem k_spec_CheckProgram : compF Tryd.prog n_spec_CheckProgram = some F_spec_CheckProgram := by kernel_rfl
def F_impl_within : FK := ⟨15, [.t 6],
 .seq (.reg [⟨(some 6), none, .mov (.c (.p (.bool false)))⟩])
 (.seq (.reg [⟨(some 7), none, .mov (.t 1)⟩,
   ⟨(some 8), none, .mov (.t 0)⟩,
   ⟨(some 9), none, .bin .leq (.t 7) (.t 8)⟩,
   ⟨(some 10), none, .mov (.t 9)⟩,
   ⟨(some 11), (some (10, true)), .mov (.t 0)⟩,
   ⟨(some 12), (some (10, true)), .mov (.t 2)⟩,
   ⟨(some 13), (some (10, true)), .bin .leq (.t 11) (.t 12)⟩,
   ⟨(some 14), none, .pick (.t 10) (.t 13) (.c (.p (.bool false)))⟩,
   ⟨(some 6), none, .mov (.t 14)⟩])
 (.ret))⟩
theorem k_impl_within : compF Tryd.prog n_impl_within = some F_impl_within := by kernel_rfl
def F_strings_indexFunc : FK := ⟨21, [.t 6],
 .seq (.reg [⟨(some 6), none, .mov (.c (.p (.int .i64 0)))⟩])
 (.seq (.seq (.reg [⟨(some 9), none, .mov (.t 0)⟩,
   ⟨(some 10), none, .rngS (.t 9)⟩])
 (.blk 0 (.loop (.seq (.reg [⟨(some 11), none, .nxtS (.t 10)⟩,
   ⟨(some 12), none, .ext 0 (.t 11)⟩])
 (.seq (.cond (.t 12)
  (.skip)
  (.exit 0))
 (.blk 1 (.seq (.reg [⟨(some 13), none, .ext 1 (.t 11)⟩,
   ⟨(some 14), none, .ext 2 (.t 11)⟩,
   ⟨(some 7), none, .mov (.t 13)⟩,
   ⟨(some 8), none, .mov (.t 14)⟩])
 (.seq (.reg [⟨(some 15), none, .mov (.t 1)⟩,
   ⟨(some 16), none, .mov (.t 8)⟩,
   ⟨(some 17), none, .callv (.t 15) [(.t 16)]⟩,
   ⟨(some 18), none, .mov (.t 2)⟩,
   ⟨(some 19), none, .beq false (.t 17) (.t 18)⟩])
 (.cond (.t 19)
  (.seq (.reg [⟨(some 20), none, .mov (.t 7)⟩,
    ⟨(some 6), none, .mov (.t 20)⟩])
  (.ret))
  (.skip))))))))))
 (.seq (.reg [⟨(some 6), none, .mov (.c (.p (.int .i64 (-1))))⟩])
 (.ret)))⟩
theorem k_strings_indexFunc : compF Tryd.prog n_strings_indexFunc = some F_strings_indexFunc := by kernel_rfl
def F_strings_IndexFunc : FK := ⟨8, [.t 4],
 .seq (.reg [⟨(some 4), none, .mov (.c (.p (.int .i64 0)))⟩])
 (.seq (.reg [⟨(some 5), none, .mov (.t 0)⟩,
   ⟨(some 6), none, .mov (.t 1)⟩,
   ⟨(some 7), none, .call n_strings_indexFunc [(.t 5), (.t 6), (.c (.p (.bool true)))]⟩,
   ⟨(some 4), none, .mov (.t 7)⟩])
 (.ret))⟩
theorem k_strings_IndexFunc : compF Tryd.prog n_strings_IndexFunc = some F_strings_IndexFunc := by kernel_rfl
def F_slices_Index_string : FK := ⟨19, [.t 4],
 .seq (.reg [⟨(some 4), none, .mov (.c (.p (.int .i64 0)))⟩])
 (.seq (.seq (.reg [⟨(some 6), none, .mov (.t 0)⟩,
   ⟨(some 7), none, .len false (.t 6)⟩,
   ⟨(some 8), none, .mov (.c (.p (.int .i64 0)))⟩])
 (.blk 0 (.loop (.seq (.reg [⟨(some 9), none, .bin .lss (.t 8) (.t 7)⟩])
 (.seq (.cond (.t 9)
  (.skip)
  (.exit 0))
 (.seq (.blk 1 (.seq (.reg [⟨(some 10), none, .mov (.t 8)⟩,
   ⟨(some 5), none, .mov (.t 10)⟩])
 (.seq (.reg [⟨(some 11), none, .mov (.t 1)⟩,
   ⟨(some 12), none, .mov (.t 0)⟩,
   ⟨(some 13), none, .mov (.t 5)⟩,
   ⟨(some 14), none, .idxS 1 (.t 12) (.t 13)⟩,
   ⟨(some 15), none, .ld none (.t 14)⟩,
   ⟨(some 16), none, .bins .eql (.t 11) (.t 15)⟩])
 (.cond (.t 16)
  (.seq (.reg [⟨(some 17), none, .mov (.t 5)⟩,
    ⟨(some 4), none, .mov (.t 17)⟩])
  (.ret))
  (.skip)))))
 (.reg [⟨(some 18), none, .bin .add (.t 8) (.c (.p (.int .i64 1)))⟩,
   ⟨(some 8), none, .mov (.t 18)⟩])))))))
 (.seq (.reg [⟨(some 4), none, .mov (.c (.p (.int .i64 (-1))))⟩])
 (.ret)))⟩
theorem k_slices_Index_string : compF Tryd.prog n_slices_Index_string = some F_slices_Index_string := by kernel_rfl
def F_slices_Contains_string : FK := ⟨9, [.t 4],
 .seq (.reg [⟨(some 4), none, .mov (.c (.p (.bool false)))⟩])
 (.seq (.reg [⟨(some 5), none, .mov (.t 0)⟩,
   ⟨(some 6), none, .mov (.t 1)⟩,
   ⟨(some 7), none, .call n_slices_Index_string [(.t 5), (.t 6)]⟩,
   ⟨(some 8), none, .bin .geq (.t 7) (.c (.p (.int .i64 0)))⟩,
   ⟨(some 4), none, .mov (.t 8)⟩])
 (.ret))⟩
theorem k_slices_Contains_string : compF Tryd.prog n_slices_Contains_string = some F_slices_Contains_string := by kernel_rfl
def F_impl_IsName_1 : FK := ⟨9, [.t 2],
 .seq (.reg [⟨(some 2), none, .mov (.c (.p (.bool false)))⟩])
 (.seq (.reg [⟨(some 3), none, .mov (.t 0)⟩,
   ⟨(some 4), none, .bin .lss (.t 3) (.c (.p (.int .i32 97)))⟩,
   ⟨(some 5), none, .mov (.t 4)⟩,
   ⟨(some 6), (some (5, false)), .mov (.t 0)⟩,
   ⟨(some 7), (some (5, false)), .bin .gtr (.t 6) (.c (.p (.int .i32 122)))⟩,
   ⟨(some 8), none, .pick (.t 5) (.c (.p (.bool true))) (.t 7)⟩,
   ⟨(some 2), none, .mov (.t 8)⟩])
 (.ret))⟩
theorem k_impl_IsName_1 : compF Tryd.prog n_impl_IsName_1 = some F_impl_IsName_1 := by kernel_rfl
def F_impl_IsName : FK := ⟨17, [.t 2],
 .seq (.reg [⟨(some 2), none, .mov (.c (.p (.bool false)))⟩])
 (.seq (.reg [⟨(some 3), none, .mov (.t 0)⟩,
   ⟨(some 4), none, .len true (.t 3)⟩,
   ⟨(some 5), none, .call n_impl_within [(.t 4), (.c (.p (.int .i64 1))), (.c (.p (.int .i64 4)))]⟩,
   ⟨(some 6), none, .mov (.t 5)⟩,
   ⟨(some 7), (some (6, true)), .mov (.t 0)⟩,
   ⟨(some 8), (some (6, true)), .call n_strings_IndexFunc [(.t 7), (.c (.fn (.func n_impl_IsName_1) []))]⟩,
   ⟨(some 9), (some (6, true)), .bin .lss (.t 8) (.c (.p (.int .i64 0)))⟩,
   ⟨(some 10), none, .pick (.t 6) (.t 9) (.c (.p (.bool false)))⟩,
   ⟨(some 11), none, .mov (.t 10)⟩,
   ⟨(some 12), (some (11, true)), .slA 9 1 (.c (.gp 0 0)) none none⟩,
   ⟨(some 13), (some (11, true)), .mov (.t 0)⟩,
   ⟨(some 14), (some (11, true)), .call n_slices_Contains_string [(.t 12), (.t 13)]⟩,
   ⟨(some 15), (some (11, true)), .not (.t 14)⟩,
   ⟨(some 16), none, .pick (.t 11) (.t 15) (.c (.p (.bool false)))⟩,
   ⟨(some 2), none, .mov (.t 16)⟩])
 (.ret))⟩
theorem k_impl_IsName : compF Tryd.prog n_impl_IsName = some F_impl_IsName := by kernel_rfl
def F_slices_IndexFunc_string : FK := ⟨19, [.t 4],
 .seq (.reg [⟨(some 4), none, .mov (.c (.p (.int .i64 0)))⟩])
 (.seq (.seq (.reg [⟨(some 6), none, .mov (.t 0)⟩,
   ⟨(some 7), none, .len false (.t 6)⟩,
   ⟨(some 8), none, .mov (.c (.p (.int .i64 0)))⟩])
 (.blk 0 (.loop (.seq (.reg [⟨(some 9), none, .bin .lss (.t 8) (.t 7)⟩])
 (.seq (.cond (.t 9)
  (.skip)
  (.exit 0))
 (.seq (.blk 1 (.seq (.reg [⟨(some 10), none, .mov (.t 8)⟩,
   ⟨(some 5), none, .mov (.t 10)⟩])
 (.seq (.reg [⟨(some 11), none, .mov (.t 1)⟩,
   ⟨(some 12), none, .mov (.t 0)⟩,
   ⟨(some 13), none, .mov (.t 5)⟩,
   ⟨(some 14), none, .idxS 1 (.t 12) (.t 13)⟩,
   ⟨(some 15), none, .ld none (.t 14)⟩,
   ⟨(some 16), none, .callv (.t 11) [(.t 15)]⟩])
 (.cond (.t 16)
  (.seq (.reg [⟨(some 17), none, .mov (.t 5)⟩,
    ⟨(some 4), none, .mov (.t 17)⟩])
  (.ret))
  (.skip)))))
 (.reg [⟨(some 18), none, .bin .add (.t 8) (.c (.p (.int .i64 1)))⟩,
   ⟨(some 8), none, .mov (.t 18)⟩])))))))
 (.seq (.reg [⟨(some 4), none, .mov (.c (.p (.int .i64 (-1))))⟩])
 (.ret)))⟩
theorem k_slices_IndexFunc_string : compF Tryd.prog n_slices_IndexFunc_string = some F_slices_IndexFunc_string := by kernel_rfl
def F_slices_ContainsFunc_string : FK := ⟨9, [.t 4],
 .seq (.reg [⟨(some 4), none, .mov (.c (.p (.bool false)))⟩])
 (.seq (.reg [⟨(some 5), none, .mov (.t 0)⟩,
   ⟨(some 6), none, .mov (.t 1)⟩,
   ⟨(some 7), none, .call n_slices_IndexFunc_string [(.t 5), (.t 6)]⟩,
   ⟨(some 8), none, .bin .geq (.t 7) (.c (.p (.int .i64 0)))⟩,
   ⟨(some 4), none, .mov (.t 8)⟩])
 (.ret))⟩
theorem k_slices_ContainsFunc_string : compF Tryd.prog n_slices_ContainsFunc_string = some F_slices_ContainsFunc_string := by kernel_rfl
def F_slices_IndexFunc_impl_Stmt : FK := ⟨19, [.t 4],
 .seq (.reg [⟨(some 4), none, .mov (.c (.p (.int .i64 0)))⟩])
 (.seq (.seq (.reg [⟨(some 6), none, .mov (.t 0)⟩,
   ⟨(some 7), none, .len false (.t 6)⟩,
   ⟨(some 8), none, .mov (.c (.p (.int .i64 0)))⟩])
 (.blk 0 (.loop (.seq (.reg [⟨(some 9), none, .bin .lss (.t 8) (.t 7)⟩])
 (.seq (.cond (.t 9)
  (.skip)
  (.exit 0))
 (.seq (.blk 1 (.seq (.reg [⟨(some 10), none, .mov (.t 8)⟩,
   ⟨(some 5), none, .mov (.t 10)⟩])
 (.seq (.reg [⟨(some 11), none, .mov (.t 1)⟩,
   ⟨(some 12), none, .mov (.t 0)⟩,
   ⟨(some 13), none, .mov (.t 5)⟩,
   ⟨(some 14), none, .idxS 5 (.t 12) (.t 13)⟩,
   ⟨(some 15), none, .ld (some 5) (.t 14)⟩,
   ⟨(some 16), none, .callv (.t 11) [(.t 15)]⟩])
 (.cond (.t 16)
  (.seq (.reg [⟨(some 17), none, .mov (.t 5)⟩,
    ⟨(some 4), none, .mov (.t 17)⟩])
  (.ret))
  (.skip)))))
 (.reg [⟨(some 18), none, .bin .add (.t 8) (.c (.p (.int .i64 1)))⟩,
   ⟨(some 8), none, .mov (.t 18)⟩])))))))
 (.seq (.reg [⟨(some 4), none, .mov (.c (.p (.int .i64 (-1))))⟩])
 (.ret)))⟩
theorem k_slices_IndexFunc_impl_Stmt : compF Tryd.prog n_slices_IndexFunc_impl_Stmt = some F_slices_IndexFunc_impl_Stmt := by kernel_rfl
def F_slices_ContainsFunc_impl_Stmt : FK := ⟨9, [.t 4],
 .seq (.reg [⟨(some 4), none, .mov (.c (.p (.bool false)))⟩])
 (.seq (.reg [⟨(some 5), none, .mov (.t 0)⟩,
   ⟨(some 6), none, .mov (.t 1)⟩,
   ⟨(some 7), none, .call n_slices_IndexFunc_impl_Stmt [(.t 5), (.t 6)]⟩,
   ⟨(some 8), none, .bin .geq (.t 7) (.c (.p (.int .i64 0)))⟩,
   ⟨(some 4), none, .mov (.t 8)⟩])
 (.ret))⟩
theorem k_slices_ContainsFunc_impl_Stmt : compF Tryd.prog n_slices_ContainsFunc_impl_Stmt = some F_slices_ContainsFunc_impl_Stmt := by kernel_rfl
def F_impl_argCount : FK := ⟨20, [.t 2, .t 3, .t 4, .t 5],
 .seq (.reg [⟨(some 2), none, .mov (.c (.p (.int .i64 0)))⟩,
   ⟨(some 3), none, .mov (.c (.p (.bool false)))⟩,
   ⟨(some 4), none, .mov (.c (.p (.bool false)))⟩,
   ⟨(some 5), none, .mov (.c (.p (.bool false)))⟩])
 (.seq (.seq (.reg [⟨(some 6), none, .mov (.t 0)⟩])
 (.blk 0 (.seq (.seq (.reg [⟨(some 8), none, .bin .eql (.t 6) (.c (.p (.int .i64 1)))⟩,
   ⟨(some 7), none, .mov (.t 8)⟩])
 (.cond (.t 7)
  (.skip)
  (.reg [⟨(some 9), none, .bin .eql (.t 6) (.c (.p (.int .i64 2)))⟩,
    ⟨(some 7), none, .mov (.t 9)⟩])))
 (.cond (.t 7)
  (.seq (.reg [⟨(some 2), none, .mov (.c (.p (.int .i64 1)))⟩,
    ⟨(some 3), none, .mov (.c (.p (.bool true)))⟩,
    ⟨(some 4), none, .mov (.c (.p (.bool false)))⟩,
    ⟨(some 5), none, .mov (.c (.p (.bool false)))⟩])
  (.ret))
  (.seq (.seq (.reg [⟨(some 11), none, .bin .eql (.t 6) (.c (.p (.int .i64 3)))⟩,
    ⟨(some 10), none, .mov (.t 11)⟩])
  (.cond (.t 10)
   (.skip)
   (.seq (.reg [⟨(some 12), none, .bin .eql (.t 6) (.c (.p (.int .i64 7)))⟩,
     ⟨(some 10), none, .mov (.t 12)⟩])
   (.cond (.t 10)
    (.skip)
    (.reg [⟨(some 13), none, .bin .eql (.t 6) (.c (.p (.int .i64 8)))⟩,
      ⟨(some 10), none, .mov (.t 13)⟩])))))
  (.cond (.t 10)
   (.seq (.reg [⟨(some 2), none, .mov (.c (.p (.int .i64 1)))⟩,
     ⟨(some 3), none, .mov (.c (.p (.bool false)))⟩,
     ⟨(some 4), none, .mov (.c (.p (.bool false)))⟩,
     ⟨(some 5), none, .mov (.c (.p (.bool false)))⟩])
   (.ret))
   (.seq (.reg [⟨(some 15), none, .bin .eql (.t 6) (.c (.p (.int .i64 4)))⟩,
     ⟨(some 14), none, .mov (.t 15)⟩])
   (.cond (.t 14)
    (.seq (.reg [⟨(some 2), none, .mov (.c (.p (.int .i64 2)))⟩,
      ⟨(some 3), none, .mov (.c (.p (.bool false)))⟩,
      ⟨(some 4), none, .mov (.c (.p (.bool false)))⟩,
      ⟨(some 5), none, .mov (.c (.p (.bool false)))⟩])
    (.ret))
    (.seq (.reg [⟨(some 17), none, .bin .eql (.t 6) (.c (.p (.int .i64 5)))⟩,
      ⟨(some 16), none, .mov (.t 17)⟩])
    (.cond (.t 16)
     (.seq (.reg [⟨(some 2), none, .mov (.c (.p (.int .i64 1)))⟩,
       ⟨(some 3), none, .mov (.c (.p (.bool false)))⟩,
       ⟨(some 4), none, .mov (.c (.p (.bool true)))⟩,
       ⟨(some 5), none, .mov (.c (.p (.bool true)))⟩])
     (.ret))
     (.seq (.reg [⟨(some 19), none, .bin .eql (.t 6) (.c (.p (.int .i64 6)))⟩,
       ⟨(some 18), none, .mov (.t 19)⟩])
     (.cond (.t 18)
      (.seq (.reg [⟨(some 2), none, .mov (.c (.p (.int .i64 1)))⟩,
        ⟨(some 3), none, .mov (.c (.p (.bool false)))⟩,
        ⟨(some 4), none, .mov (.c (.p (.bool true)))⟩,
        ⟨(some 5), none, .mov (.c (.p (.bool false)))⟩])
      (.ret))
      (.skip)))))))))))))
 (.seq (.reg [⟨(some 2), none, .mov (.c (.p (.int .i64 (-1))))⟩,
   ⟨(some 3), none, .mov (.c (.p (.bool false)))⟩,
   ⟨(some 4), none, .mov (.c (.p (.bool false)))⟩,
   ⟨(some 5), none, .mov (.c (.p (.bool false)))⟩])
 (.ret)))⟩
theorem k_impl_argCount : compF Tryd.prog n_impl_argCount = some F_impl_argCount := by kernel_rfl
def F_impl_isByte : FK := ⟨5, [.t 2],
 .seq (.reg [⟨(some 2), none, .mov (.c (.p (.bool false)))⟩])
 (.seq (.reg [⟨(some 3), none, .mov (.t 0)⟩,
   ⟨(some 4), none, .call n_impl_within [(.t 3), (.c (.p (.int .i64 0))), (.c (.p (.int .i64 255)))]⟩,
   ⟨(some 2), none, .mov (.t 4)⟩])
 (.ret))⟩
theorem k_impl_isByte : compF Tryd.prog n_impl_isByte = some F_impl_isByte := by kernel_rfl
def F_impl_levelOf : FK := ⟨20, [.t 2],
 .seq (.reg [⟨(some 2), none, .mov (.c (.p (.int .i64 0)))⟩])
 (.seq (.blk 0 (.seq (.reg [⟨(some 4), none, .ld none (.c (.gp 1 0))⟩,
   ⟨(some 5), none, .mov (.t 0)⟩,
   ⟨(some 6), none, .lk 0 (.agg [(.p (.str [])), (.p (.int .i64 0))]) false (.t 4) (.t 5)⟩,
   ⟨(some 7), none, .fldv 1 none (.t 6)⟩,
   ⟨(some 8), none, .bin .gtr (.t 7) (.c (.p (.int .i64 0)))⟩,
   ⟨(some 3), none, .mov (.t 8)⟩])
 (.cond (.t 3)
  (.seq (.reg [⟨(some 9), none, .ld none (.c (.gp 1 0))⟩,
    ⟨(some 10), none, .mov (.t 0)⟩,
    ⟨(some 11), none, .lk 0 (.agg [(.p (.str [])), (.p (.int .i64 0))]) false (.t 9) (.t 10)⟩,
    ⟨(some 12), none, .fldv 1 none (.t 11)⟩,
    ⟨(some 2), none, .mov (.t 12)⟩])
  (.ret))
  (.seq (.reg [⟨(some 14), none, .mov (.t 0)⟩,
    ⟨(some 15), none, .bin .eql (.t 14) (.c (.p (.int .i64 11)))⟩,
    ⟨(some 16), none, .mov (.t 15)⟩,
    ⟨(some 17), (some (16, false)), .mov (.t 0)⟩,
    ⟨(some 18), (some (16, false)), .bin .eql (.t 17) (.c (.p (.int .i64 12)))⟩,
    ⟨(some 19), none, .pick (.t 16) (.c (.p (.bool true))) (.t 18)⟩,
    ⟨(some 13), none, .mov (.t 19)⟩])
  (.cond (.t 13)
   (.seq (.reg [⟨(some 2), none, .mov (.c (.p (.int .i64 5)))⟩])
   (.ret))
   (.skip))))))
 (.seq (.reg [⟨(some 2), none, .mov (.c (.p (.int .i64 6)))⟩])
 (.ret)))⟩
theorem k_impl_levelOf : compF Tryd.prog n_impl_levelOf = some F_impl_levelOf := by kernel_rfl
def F_impl_exprSize : FK := ⟨127, [.t 4, .t 5, .t 6],
 .seq (.reg [⟨(some 2), none, .box 4 (.t 0)⟩,
   ⟨(some 4), none, .mov (.c (.p (.int .i64 0)))⟩,
   ⟨(some 5), none, .mov (.c (.p (.int .i64 0)))⟩,
   ⟨(some 6), none, .mov (.c (.p (.bool false)))⟩])
 (.seq (.reg [⟨(some 7), none, .mov (.c (.p (.int .i64 0)))⟩,
   ⟨(some 8), none, .mov (.c (.p (.int .i64 0)))⟩])
 (.seq (.blk 0 (.seq (.reg [⟨(some 17), none, .fldA 0 (.t 2)⟩,
   ⟨(some 18), none, .ld none (.t 17)⟩,
   ⟨(some 19), none, .bin .eql (.t 18) (.c (.p (.int .i64 1)))⟩,
   ⟨(some 16), none, .mov (.t 19)⟩])
 (.cond (.t 16)
  (.seq (.reg [⟨(some 20), none, .fldA 1 (.t 2)⟩,
    ⟨(some 21), none, .ld none (.t 20)⟩,
    ⟨(some 22), none, .call n_impl_isByte [(.t 21)]⟩,
    ⟨(some 23), none, .not (.t 22)⟩,
    ⟨(some 24), none, .mov (.t 23)⟩,
    ⟨(some 25), (some (24, false)), .fldA 2 (.t 2)⟩,
    ⟨(some 26), (some (24, false)), .ld none (.t 25)⟩,
    ⟨(some 27), (some (24, false)), .bins .neq (.t 26) (.c (.p (.str [])))⟩,
    ⟨(some 28), none, .pick (.t 24) (.c (.p (.bool true))) (.t 27)⟩])
  (.cond (.t 28)
   (.seq (.reg [⟨(some 4), none, .mov (.c (.p (.int .i64 0)))⟩,
     ⟨(some 5), none, .mov (.c (.p (.int .i64 0)))⟩,
     ⟨(some 6), none, .mov (.c (.p (.bool false)))⟩])
   (.ret))
   (.skip)))
  (.seq (.reg [⟨(some 30), none, .fldA 0 (.t 2)⟩,
    ⟨(some 31), none, .ld none (.t 30)⟩,
    ⟨(some 32), none, .bin .eql (.t 31) (.c (.p (.int .i64 2)))⟩,
    ⟨(some 29), none, .mov (.t 32)⟩])
  (.cond (.t 29)
   (.seq (.reg [⟨(some 33), none, .fldA 2 (.t 2)⟩,
     ⟨(some 34), none, .ld none (.t 33)⟩,
     ⟨(some 35), none, .call n_impl_IsName [(.t 34)]⟩,
     ⟨(some 36), none, .not (.t 35)⟩,
     ⟨(some 37), none, .mov (.t 36)⟩,
     ⟨(some 38), (some (37, false)), .fldA 1 (.t 2)⟩,
     ⟨(some 39), (some (37, false)), .ld none (.t 38)⟩,
     ⟨(some 40), (some (37, false)), .bin .neq (.t 39) (.c (.p (.int .i64 0)))⟩,
     ⟨(some 41), none, .pick (.t 37) (.c (.p (.bool true))) (.t 40)⟩])
   (.cond (.t 41)
    (.seq (.reg [⟨(some 4), none, .mov (.c (.p (.int .i64 0)))⟩,
      ⟨(some 5), none, .mov (.c (.p (.int .i64 0)))⟩,
      ⟨(some 6), none, .mov (.c (.p (.bool false)))⟩])
    (.ret))
    (.skip)))
   (.seq (.reg [⟨(some 43), none, .fldA 0 (.t 2)⟩,
     ⟨(some 44), none, .ld none (.t 43)⟩,
     ⟨(some 45), none, .bin .eql (.t 44) (.c (.p (.int .i64 13)))⟩,
     ⟨(some 42), none, .mov (.t 45)⟩])
   (.cond (.t 42)
    (.seq (.reg [⟨(some 8), none, .mov (.c (.p (.int .i64 3)))⟩])
    (.seq (.reg [⟨(some 46), none, .fldA 2 (.t 2)⟩,
      ⟨(some 47), none, .ld none (.t 46)⟩,
      ⟨(some 48), none, .call n_impl_IsName [(.t 47)]⟩,
      ⟨(some 49), none, .not (.t 48)⟩,
      ⟨(some 50), none, .mov (.t 49)⟩,
      ⟨(some 51), (some (50, false)), .fldA 1 (.t 2)⟩,
      ⟨(some 52), (some (50, false)), .ld none (.t 51)⟩,
      ⟨(some 53), (some (50, false)), .bin .neq (.t 52) (.c (.p (.int .i64 0)))⟩,
      ⟨(some 54), none, .pick (.t 50) (.c (.p (.bool true))) (.t 53)⟩])
    (.cond (.t 54)
     (.seq (.reg [⟨(some 4), none, .mov (.c (.p (.int .i64 0)))⟩,
       ⟨(some 5), none, .mov (.c (.p (.int .i64 0)))⟩,
       ⟨(some 6), none, .mov (.c (.p (.bool false)))⟩])
     (.ret))
     (.skip))))
    (.seq (.reg [⟨(some 56), none, .ld none (.c (.gp 1 0))⟩,
      ⟨(some 57), none, .fldA 0 (.t 2)⟩,
      ⟨(some 58), none, .ld none (.t 57)⟩,
      ⟨(some 59), none, .lk 0 (.agg [(.p (.str [])), (.p (.int .i64 0))]) false (.t 56) (.t 58)⟩,
      ⟨(some 60), none, .fldv 1 none (.t 59)⟩,
      ⟨(some 61), none, .bin .gtr (.t 60) (.c (.p (.int .i64 0)))⟩,
      ⟨(some 55), none, .mov (.t 61)⟩])
    (.cond (.t 55)
     (.reg [⟨(some 7), none, .mov (.c (.p (.int .i64 2)))⟩,
       ⟨(some 8), none, .mov (.c (.p (.int .i64 2)))⟩])
     (.seq (.reg [⟨(some 63), none, .fldA 0 (.t 2)⟩,
       ⟨(some 64), none, .ld none (.t 63)⟩,
       ⟨(some 65), none, .bin .eql (.t 64) (.c (.p (.int .i64 11)))⟩,
       ⟨(some 66), none, .mov (.t 65)⟩,
       ⟨(some 67), (some (66, false)), .fldA 0 (.t 2)⟩,
       ⟨(some 68), (some (66, false)), .ld none (.t 67)⟩,
       ⟨(some 69), (some (66, false)), .bin .eql (.t 68) (.c (.p (.int .i64 12)))⟩,
       ⟨(some 70), none, .pick (.t 66) (.c (.p (.bool true))) (.t 69)⟩,
       ⟨(some 62), none, .mov (.t 70)⟩])
     (.cond (.t 62)
      (.reg [⟨(some 7), none, .mov (.c (.p (.int .i64 1)))⟩,
        ⟨(some 8), none, .mov (.c (.p (.int .i64 1)))⟩])
      (.seq (.reg [⟨(some 4), none, .mov (.c (.p (.int .i64 0)))⟩,
        ⟨(some 5), none, .mov (.c (.p (.int .i64 0)))⟩,
        ⟨(some 6), none, .mov (.c (.p (.bool false)))⟩])
      (.ret)))))))))))))
 (.seq (.seq (.reg [⟨(some 71), none, .fldA 0 (.t 2)⟩,
   ⟨(some 72), none, .ld none (.t 71)⟩,
   ⟨(some 73), none, .call n_impl_levelOf [(.t 72)]⟩,
   ⟨(some 74), none, .bin .lss (.t 73) (.c (.p (.int .i64 6)))⟩,
   ⟨(some 75), none, .mov (.t 74)⟩,
   ⟨(some 76), (some (75, true)), .fldA 1 (.t 2)⟩,
   ⟨(some 77), (some (75, true)), .ld none (.t 76)⟩,
   ⟨(some 78), (some (75, true)), .bin .neq (.t 77) (.c (.p (.int .i64 0)))⟩,
   ⟨(some 79), (some (75, true)), .mov (.t 78)⟩,
   ⟨(some 80), (some (79, false)), .fldA 2 (.t 2)⟩,
   ⟨(some 81), (some (79, false)), .ld none (.t 80)⟩,
   ⟨(some 82), (some (79, false)), .bins .neq (.t 81) (.c (.p (.str [])))⟩,
   ⟨(some 83), (some (75, true)), .pick (.t 79) (.c (.p (.bool true))) (.t 82)⟩,
   ⟨(some 84), none, .pick (.t 75) (.t 83) (.c (.p (.bool false)))⟩,
   ⟨(some 85), none, .mov (.t 84)⟩,
   ⟨(some 86), (some (85, false)), .fldA 3 (.t 2)⟩,
   ⟨(some 87), (some (85, false)), .ld none (.t 86)⟩,
   ⟨(some 88), (some (85, false)), .len false (.t 87)⟩,
   ⟨(some 89), (some (85, false)), .mov (.t 7)⟩,
   ⟨(some 90), (some (85, false)), .mov (.t 8)⟩,
   ⟨(some 91), (some (85, false)), .call n_impl_within [(.t 88), (.t 89), (.t 90)]⟩,
   ⟨(some 92), (some (85, false)), .not (.t 91)⟩,
   ⟨(some 93), none, .pick (.t 85) (.c (.p (.bool true))) (.t 92)⟩,
   ⟨(some 94), none, .mov (.t 93)⟩,
   ⟨(some 95), (some (94, false)), .mov (.t 1)⟩,
   ⟨(some 96), (some (94, false)), .bin .lss (.t 95) (.c (.p (.int .i64 1)))⟩,
   ⟨(some 97), none, .pick (.t 94) (.c (.p (.bool true))) (.t 96)⟩])
 (.cond (.t 97)
  (.seq (.reg [⟨(some 4), none, .mov (.c (.p (.int .i64 0)))⟩,
    ⟨(some 5), none, .mov (.c (.p (.int .i64 0)))⟩,
    ⟨(some 6), none, .mov (.c (.p (.bool false)))⟩])
  (.ret))
  (.skip)))
 (.seq (.reg [⟨(some 9), none, .mov (.c (.p (.int .i64 1)))⟩,
   ⟨(some 10), none, .mov (.c (.p (.int .i64 1)))⟩])
 (.seq (.seq (.reg [⟨(some 98), none, .fldA 3 (.t 2)⟩,
   ⟨(some 99), none, .ld none (.t 98)⟩,
   ⟨(some 100), none, .len false (.t 99)⟩,
   ⟨(some 101), none, .mov (.c (.p (.int .i64 0)))⟩])
 (.blk 1 (.loop (.seq (.reg [⟨(some 102), none, .bin .lss (.t 101) (.t 100)⟩])
 (.seq (.cond (.t 102)
  (.skip)
  (.exit 1))
 (.seq (.blk 2 (.seq (.reg [⟨(some 103), none, .idxS 4 (.t 99) (.t 101)⟩,
   ⟨(some 104), none, .ld (some 4) (.t 103)⟩,
   ⟨(some 12), none, .alloc [(.p (.int .i64 0)), (.p (.int .i64 0)), (.p (.str [])), .nils]⟩,
   ⟨none, none, .st 4 (.t 12) (.t 104)⟩])
 (.seq (.reg [⟨(some 106), none, .ld (some 4) (.t 12)⟩,
   ⟨(some 107), none, .mov (.t 1)⟩,
   ⟨(some 108), none, .bin .sub (.t 107) (.c (.p (.int .i64 1)))⟩,
   ⟨(some 109), none, .call n_impl_exprSize [(.t 106), (.t 108)]⟩,
   ⟨(some 105), none, .mov (.t 109)⟩,
   ⟨(some 110), none, .ext 0 (.t 105)⟩,
   ⟨(some 111), none, .ext 1 (.t 105)⟩,
   ⟨(some 112), none, .ext 2 (.t 105)⟩,
   ⟨(some 13), none, .mov (.t 110)⟩,
   ⟨(some 14), none, .mov (.t 111)⟩,
   ⟨(some 15), none, .mov (.t 112)⟩])
 (.seq (.seq (.reg [⟨(some 113), none, .mov (.t 15)⟩,
   ⟨(some 114), none, .not (.t 113)⟩])
 (.cond (.t 114)
  (.seq (.reg [⟨(some 4), none, .mov (.c (.p (.int .i64 0)))⟩,
    ⟨(some 5), none, .mov (.c (.p (.int .i64 0)))⟩,
    ⟨(some 6), none, .mov (.c (.p (.bool false)))⟩])
  (.ret))
  (.skip)))
 (.seq (.reg [⟨(some 115), none, .mov (.t 9)⟩,
   ⟨(some 116), none, .mov (.t 13)⟩,
   ⟨(some 117), none, .bin .add (.t 115) (.t 116)⟩,
   ⟨(some 9), none, .mov (.t 117)⟩])
 (.reg [⟨(some 118), none, .mov (.t 10)⟩,
   ⟨(some 119), none, .mov (.t 14)⟩,
   ⟨(some 120), none, .bin .add (.t 119) (.c (.p (.int .i64 1)))⟩,
   ⟨(some 121), none, .mx (.t 118) (.t 120)⟩,
   ⟨(some 10), none, .mov (.t 121)⟩]))))))
 (.reg [⟨(some 122), none, .bin .add (.t 101) (.c (.p (.int .i64 1)))⟩,
   ⟨(some 101), none, .mov (.t 122)⟩])))))))
 (.seq (.reg [⟨(some 123), none, .mov (.t 9)⟩,
   ⟨(some 124), none, .mov (.t 10)⟩,
   ⟨(some 125), none, .mov (.t 9)⟩,
   ⟨(some 126), none, .bin .leq (.t 125) (.c (.p (.int .i64 30)))⟩,
   ⟨(some 4), none, .mov (.t 123)⟩,
   ⟨(some 5), none, .mov (.t 124)⟩,
   ⟨(some 6), none, .mov (.t 126)⟩])
 (.ret)))))))⟩
theorem k_impl_exprSize : compF Tryd.prog n_impl_exprSize = some F_impl_exprSize := by kernel_rfl
def F_impl_ExprValid : FK := ⟨13, [.t 2],
 .seq (.reg [⟨(some 1), none, .box 4 (.t 0)⟩,
   ⟨(some 2), none, .mov (.c (.p (.bool false)))⟩])
 (.seq (.reg [⟨(some 7), none, .ld (some 4) (.t 1)⟩,
   ⟨(some 8), none, .call n_impl_exprSize [(.t 7), (.c (.p (.int .i64 6)))]⟩,
   ⟨(some 6), none, .mov (.t 8)⟩,
   ⟨(some 9), none, .ext 0 (.t 6)⟩,
   ⟨(some 10), none, .ext 1 (.t 6)⟩,
   ⟨(some 11), none, .ext 2 (.t 6)⟩,
   ⟨(some 3), none, .mov (.t 9)⟩,
   ⟨(some 4), none, .mov (.t 10)⟩,
   ⟨(some 5), none, .mov (.t 11)⟩])
 (.seq (.reg [⟨(some 12), none, .mov (.t 5)⟩,
   ⟨(some 2), none, .mov (.t 12)⟩])
 (.ret)))⟩
theorem k_impl_ExprValid : compF Tryd.prog n_impl_ExprValid = some F_impl_ExprValid := by kernel_rfl
def F_impl_stmtOk : FK := ⟨91, [.t 4],
 .seq (.reg [⟨(some 2), none, .box 5 (.t 0)⟩,
   ⟨(some 4), none, .mov (.c (.p (.bool false)))⟩])
 (.seq (.reg [⟨(some 12), none, .fldA 0 (.t 2)⟩,
   ⟨(some 13), none, .ld none (.t 12)⟩,
   ⟨(some 14), none, .call n_impl_argCount [(.t 13)]⟩,
   ⟨(some 11), none, .mov (.t 14)⟩,
   ⟨(some 15), none, .ext 0 (.t 11)⟩,
   ⟨(some 16), none, .ext 1 (.t 11)⟩,
   ⟨(some 17), none, .ext 2 (.t 11)⟩,
   ⟨(some 18), none, .ext 3 (.t 11)⟩,
   ⟨(some 5), none, .mov (.t 15)⟩,
   ⟨(some 6), none, .mov (.t 16)⟩,
   ⟨(some 7), none, .mov (.t 17)⟩,
   ⟨(some 8), none, .mov (.t 18)⟩])
 (.seq (.blk 0 (.seq (.seq (.reg [⟨(some 20), none, .mov (.t 1)⟩,
   ⟨(some 21), none, .bin .gtr (.t 20) (.c (.p (.int .i64 4)))⟩,
   ⟨(some 19), none, .mov (.t 21)⟩])
 (.cond (.t 19)
  (.skip)
  (.seq (.reg [⟨(some 22), none, .fldA 2 (.t 2)⟩,
    ⟨(some 23), none, .ld none (.t 22)⟩,
    ⟨(some 24), none, .len false (.t 23)⟩,
    ⟨(some 25), none, .mov (.t 5)⟩,
    ⟨(some 26), none, .bin .neq (.t 24) (.t 25)⟩,
    ⟨(some 19), none, .mov (.t 26)⟩])
  (.cond (.t 19)
   (.skip)
   (.seq (.reg [⟨(some 27), none, .mov (.t 6)⟩,
     ⟨(some 28), none, .mov (.t 27)⟩,
     ⟨(some 29), (some (28, true)), .fldA 1 (.t 2)⟩,
     ⟨(some 30), (some (28, true)), .ld none (.t 29)⟩,
     ⟨(some 31), (some (28, true)), .call n_impl_IsName [(.t 30)]⟩,
     ⟨(some 32), (some (28, true)), .not (.t 31)⟩,
     ⟨(some 33), none, .pick (.t 28) (.t 32) (.c (.p (.bool false)))⟩,
     ⟨(some 19), none, .mov (.t 33)⟩])
   (.cond (.t 19)
    (.skip)
    (.seq (.reg [⟨(some 34), none, .mov (.t 6)⟩,
      ⟨(some 35), none, .not (.t 34)⟩,
      ⟨(some 36), none, .mov (.t 35)⟩,
      ⟨(some 37), (some (36, true)), .fldA 1 (.t 2)⟩,
      ⟨(some 38), (some (36, true)), .ld none (.t 37)⟩,
      ⟨(some 39), (some (36, true)), .bins .neq (.t 38) (.c (.p (.str [])))⟩,
      ⟨(some 40), none, .pick (.t 36) (.t 39) (.c (.p (.bool false)))⟩,
      ⟨(some 19), none, .mov (.t 40)⟩])
    (.cond (.t 19)
     (.skip)
     (.seq (.reg [⟨(some 41), none, .mov (.t 7)⟩,
       ⟨(some 42), none, .not (.t 41)⟩,
       ⟨(some 43), none, .mov (.t 42)⟩,
       ⟨(some 44), (some (43, true)), .fldA 3 (.t 2)⟩,
       ⟨(some 45), (some (43, true)), .ld none (.t 44)⟩,
       ⟨(some 46), (some (43, true)), .len false (.t 45)⟩,
       ⟨(some 47), (some (43, true)), .bin .gtr (.t 46) (.c (.p (.int .i64 0)))⟩,
       ⟨(some 48), none, .pick (.t 43) (.t 47) (.c (.p (.bool false)))⟩,
       ⟨(some 19), none, .mov (.t 48)⟩])
     (.cond (.t 19)
      (.skip)
      (.seq (.reg [⟨(some 49), none, .mov (.t 8)⟩,
        ⟨(some 50), none, .not (.t 49)⟩,
        ⟨(some 51), none, .mov (.t 50)⟩,
        ⟨(some 52), (some (51, true)), .fldA 4 (.t 2)⟩,
        ⟨(some 53), (some (51, true)), .ld none (.t 52)⟩,
        ⟨(some 54), (some (51, true)), .len false (.t 53)⟩,
        ⟨(some 55), (some (51, true)), .bin .gtr (.t 54) (.c (.p (.int .i64 0)))⟩,
        ⟨(some 56), none, .pick (.t 51) (.t 55) (.c (.p (.bool false)))⟩,
        ⟨(some 19), none, .mov (.t 56)⟩])
      (.cond (.t 19)
       (.skip)
       (.reg [⟨(some 57), none, .fldA 0 (.t 2)⟩,
         ⟨(some 58), none, .ld none (.t 57)⟩,
         ⟨(some 59), none, .bin .eql (.t 58) (.c (.p (.int .i64 8)))⟩,
         ⟨(some 60), none, .mov (.t 59)⟩,
         ⟨(some 61), (some (60, true)), .fldA 2 (.t 2)⟩,
         ⟨(some 62), (some (60, true)), .ld none (.t 61)⟩,
         ⟨(some 63), (some (60, true)), .idxS 4 (.t 62) (.c (.p (.int .i64 0)))⟩,
         ⟨(some 64), (some (60, true)), .fldA 0 (.t 63)⟩,
         ⟨(some 65), (some (60, true)), .ld none (.t 64)⟩,
         ⟨(some 66), (some (60, true)), .bin .neq (.t 65) (.c (.p (.int .i64 13)))⟩,
         ⟨(some 67), none, .pick (.t 60) (.t 66) (.c (.p (.bool false)))⟩,
         ⟨(some 19), none, .mov (.t 67)⟩])))))))))))))
 (.cond (.t 19)
  (.seq (.reg [⟨(some 4), none, .mov (.c (.p (.bool false)))⟩])
  (.ret))
  (.skip))))
 (.seq (.seq (.reg [⟨(some 68), none, .fldA 2 (.t 2)⟩,
   ⟨(some 69), none, .ld none (.t 68)⟩,
   ⟨(some 70), none, .len false (.t 69)⟩,
   ⟨(some 71), none, .mov (.c (.p (.int .i64 0)))⟩])
 (.blk 1 (.loop (.seq (.reg [⟨(some 72), none, .bin .lss (.t 71) (.t 70)⟩])
 (.seq (.cond (.t 72)
  (.skip)
  (.exit 1))
 (.seq (.blk 2 (.seq (.reg [⟨(some 73), none, .idxS 4 (.t 69) (.t 71)⟩,
   ⟨(some 74), none, .ld (some 4) (.t 73)⟩,
   ⟨(some 10), none, .alloc [(.p (.int .i64 0)), (.p (.int .i64 0)), (.p (.str [])), .nils]⟩,
   ⟨none, none, .st 4 (.t 10) (.t 74)⟩])
 (.seq (.reg [⟨(some 75), none, .ld (some 4) (.t 10)⟩,
   ⟨(some 76), none, .call n_impl_ExprValid [(.t 75)]⟩,
   ⟨(some 77), none, .not (.t 76)⟩])
 (.cond (.t 77)
  (.seq (.reg [⟨(some 4), none, .mov (.c (.p (.bool false)))⟩])
  (.ret))
  (.skip)))))
 (.reg [⟨(some 78), none, .bin .add (.t 71) (.c (.p (.int .i64 1)))⟩,
   ⟨(some 71), none, .mov (.t 78)⟩])))))))
 (.seq (.reg [⟨(some 79), none, .fldA 3 (.t 2)⟩,
   ⟨(some 80), none, .ld none (.t 79)⟩,
   ⟨(some 81), none, .mov (.t 1)⟩,
   ⟨(some 82), none, .bin .add (.t 81) (.c (.p (.int .i64 1)))⟩,
   ⟨(some 83), none, .call n_impl_blockOk [(.t 80), (.t 82)]⟩,
   ⟨(some 84), none, .mov (.t 83)⟩,
   ⟨(some 85), (some (84, true)), .fldA 4 (.t 2)⟩,
   ⟨(some 86), (some (84, true)), .ld none (.t 85)⟩,
   ⟨(some 87), (some (84, true)), .mov (.t 1)⟩,
   ⟨(some 88), (some (84, true)), .bin .add (.t 87) (.c (.p (.int .i64 1)))⟩,
   ⟨(some 89), (some (84, true)), .call n_impl_blockOk [(.t 86), (.t 88)]⟩,
   ⟨(some 90), none, .pick (.t 84) (.t 89) (.c (.p (.bool false)))⟩,
   ⟨(some 4), none, .mov (.t 90)⟩])
 (.ret)))))⟩
theorem k_impl_stmtOk : compF Tryd.prog n_impl_stmtOk = some F_impl_stmtOk := by kernel_rfl
def F_impl_blockOk_1 : FK := ⟨8, [.t 3],
 .seq (.reg [⟨(some 2), none, .box 5 (.t 0)⟩,
   ⟨(some 3), none, .mov (.c (.p (.bool false)))⟩])
 (.seq (.reg [⟨(some 4), none, .ld (some 5) (.t 2)⟩,
   ⟨(some 5), none, .ld none (.t 1)⟩,
   ⟨(some 6), none, .call n_impl_stmtOk [(.t 4), (.t 5)]⟩,
   ⟨(some 7), none, .not (.t 6)⟩,
   ⟨(some 3), none, .mov (.t 7)⟩])
 (.ret))⟩
theorem k_impl_blockOk_1 : compF Tryd.prog n_impl_blockOk_1 = some F_impl_blockOk_1 := by kernel_rfl
def F_impl_blockOk : FK := ⟨9, [.t 4],
 .seq (.reg [⟨(some 3), none, .box 1 (.t 1)⟩,
   ⟨(some 4), none, .mov (.c (.p (.bool false)))⟩])
 (.seq (.reg [⟨(some 5), none, .mov (.t 0)⟩,
   ⟨(some 6), none, .mkf (.func n_impl_blockOk_1) [(.t 3)]⟩,
   ⟨(some 7), none, .call n_slices_ContainsFunc_impl_Stmt [(.t 5), (.t 6)]⟩,
   ⟨(some 8), none, .not (.t 7)⟩,
   ⟨(some 4), none, .mov (.t 8)⟩])
 (.ret))⟩
theorem k_impl_blockOk : compF Tryd.prog n_impl_blockOk = some F_impl_blockOk := by kernel_rfl
def F_impl_stmts : FK := ⟨31, [],
 .seq (.reg [⟨(some 8), none, .mov (.t 0)⟩,
   ⟨(some 9), none, .len false (.t 8)⟩,
   ⟨(some 10), none, .mov (.c (.p (.int .i64 0)))⟩])
 (.blk 0 (.loop (.seq (.reg [⟨(some 11), none, .bin .lss (.t 10) (.t 9)⟩])
 (.seq (.cond (.t 11)
  (.skip)
  (.exit 0))
 (.seq (.blk 1 (.seq (.reg [⟨(some 12), none, .idxS 5 (.t 8) (.t 10)⟩,
   ⟨(some 13), none, .ld (some 5) (.t 12)⟩,
   ⟨(some 7), none, .alloc [(.p (.int .i64 0)), (.p (.str [])), .nils, .nils, .nils]⟩,
   ⟨none, none, .st 5 (.t 7) (.t 13)⟩])
 (.seq (.reg [⟨(some 14), none, .mov (.t 2)⟩,
   ⟨(some 15), none, .ld (some 5) (.t 7)⟩,
   ⟨(some 16), none, .mov (.t 1)⟩,
   ⟨(some 17), none, .callv (.t 14) [(.t 15), (.t 16)]⟩])
 (.seq (.reg [⟨(some 18), none, .fldA 3 (.t 7)⟩,
   ⟨(some 19), none, .ld none (.t 18)⟩,
   ⟨(some 20), none, .mov (.t 1)⟩,
   ⟨(some 21), none, .bin .add (.t 20) (.c (.p (.int .i64 1)))⟩,
   ⟨(some 22), none, .mov (.t 2)⟩,
   ⟨(some 23), none, .call n_impl_stmts [(.t 19), (.t 21), (.t 22)]⟩])
 (.reg [⟨(some 24), none, .fldA 4 (.t 7)⟩,
   ⟨(some 25), none, .ld none (.t 24)⟩,
   ⟨(some 26), none, .mov (.t 1)⟩,
   ⟨(some 27), none, .bin .add (.t 26) (.c (.p (.int .i64 1)))⟩,
   ⟨(some 28), none, .mov (.t 2)⟩,
   ⟨(some 29), none, .call n_impl_stmts [(.t 25), (.t 27), (.t 28)]⟩])))))
 (.reg [⟨(some 30), none, .bin .add (.t 10) (.c (.p (.int .i64 1)))⟩,
   ⟨(some 10), none, .mov (.t 30)⟩]))))))⟩
theorem k_impl_stmts : compF Tryd.prog n_impl_stmts = some F_impl_stmts := by kernel_rfl
def F_impl_measure_1 : FK := ⟨11, [],
 .seq (.reg [⟨(some 4), none, .box 5 (.t 0)⟩])
 (.seq (.reg [⟨(some 6), none, .ld none (.t 2)⟩,
   ⟨(some 7), none, .bin .add (.t 6) (.c (.p (.int .i64 1)))⟩,
   ⟨none, none, .st 1 (.t 2) (.t 7)⟩])
 (.reg [⟨(some 8), none, .ld none (.t 3)⟩,
   ⟨(some 9), none, .mov (.t 1)⟩,
   ⟨(some 10), none, .mx (.t 8) (.t 9)⟩,
   ⟨none, none, .st 1 (.t 3) (.t 10)⟩]))⟩
theorem k_impl_measure_1 : compF Tryd.prog n_impl_measure_1 = some F_impl_measure_1 := by kernel_rfl
def F_impl_measure : FK := ⟨20, [.c 2 none, .c 3 none],
 .seq (.reg [⟨(some 1), none, .box 1 (.t 0)⟩,
   ⟨(some 2), none, .alloc [(.p (.int .i64 0))]⟩,
   ⟨(some 3), none, .alloc [(.p (.int .i64 0))]⟩])
 (.seq (.seq (.reg [⟨(some 6), none, .fldA 0 (.t 1)⟩,
   ⟨(some 7), none, .ld none (.t 6)⟩,
   ⟨(some 8), none, .len false (.t 7)⟩,
   ⟨(some 9), none, .mov (.c (.p (.int .i64 0)))⟩])
 (.blk 0 (.loop (.seq (.reg [⟨(some 10), none, .bin .lss (.t 9) (.t 8)⟩])
 (.seq (.cond (.t 10)
  (.skip)
  (.exit 0))
 (.seq (.blk 1 (.seq (.reg [⟨(some 11), none, .idxS 3 (.t 7) (.t 9)⟩,
   ⟨(some 12), none, .ld (some 3) (.t 11)⟩,
   ⟨(some 5), none, .alloc [(.p (.str [])), .nils, .nils]⟩,
   ⟨none, none, .st 3 (.t 5) (.t 12)⟩])
 (.reg [⟨(some 13), none, .fldA 2 (.t 5)⟩,
   ⟨(some 14), none, .ld none (.t 13)⟩,
   ⟨(some 15), none, .mkf (.func n_impl_measure_1) [(.t 2), (.t 3)]⟩,
   ⟨(some 16), none, .call n_impl_stmts [(.t 14), (.c (.p (.int .i64 1))), (.t 15)]⟩])))
 (.reg [⟨(some 17), none, .bin .add (.t 9) (.c (.p (.int .i64 1)))⟩,
   ⟨(some 9), none, .mov (.t 17)⟩])))))))
 (.seq (.reg [⟨(some 18), none, .ld none (.t 2)⟩,
   ⟨(some 19), none, .ld none (.t 3)⟩,
   ⟨none, none, .st 1 (.t 2) (.t 18)⟩,
   ⟨none, none, .chk none 3 19⟩,
   ⟨none, none, .st 1 (.t 3) (.t 19)⟩])
 (.ret)))⟩
theorem k_impl_measure : compF Tryd.prog n_impl_measure = some F_impl_measure := by kernel_rfl
def F_impl_ProgramValid_1 : FK := ⟨6, [.t 2],
 .seq (.reg [⟨(some 2), none, .mov (.c (.p (.bool false)))⟩])
 (.seq (.reg [⟨(some 3), none, .mov (.t 0)⟩,
   ⟨(some 4), none, .call n_impl_IsName [(.t 3)]⟩,
   ⟨(some 5), none, .not (.t 4)⟩,
   ⟨(some 2), none, .mov (.t 5)⟩])
 (.ret))⟩
theorem k_impl_ProgramValid_1 : compF Tryd.prog n_impl_ProgramValid_1 = some F_impl_ProgramValid_1 := by kernel_rfl
def F_impl_ProgramValid : FK := ⟨48, [.t 2],
 .seq (.reg [⟨(some 1), none, .box 1 (.t 0)⟩,
   ⟨(some 2), none, .mov (.c (.p (.bool false)))⟩])
 (.seq (.seq (.reg [⟨(some 7), none, .fldA 0 (.t 1)⟩,
   ⟨(some 8), none, .ld none (.t 7)⟩,
   ⟨(some 9), none, .len false (.t 8)⟩,
   ⟨(some 10), none, .call n_impl_within [(.t 9), (.c (.p (.int .i64 1))), (.c (.p (.int .i64 4)))]⟩,
   ⟨(some 11), none, .not (.t 10)⟩])
 (.cond (.t 11)
  (.seq (.reg [⟨(some 2), none, .mov (.c (.p (.bool false)))⟩])
  (.ret))
  (.skip)))
 (.seq (.seq (.reg [⟨(some 12), none, .fldA 0 (.t 1)⟩,
   ⟨(some 13), none, .ld none (.t 12)⟩,
   ⟨(some 14), none, .len false (.t 13)⟩,
   ⟨(some 15), none, .mov (.c (.p (.int .i64 0)))⟩])
 (.blk 0 (.loop (.seq (.reg [⟨(some 16), none, .bin .lss (.t 15) (.t 14)⟩])
 (.seq (.cond (.t 16)
  (.skip)
  (.exit 0))
 (.seq (.blk 1 (.seq (.reg [⟨(some 17), none, .idxS 3 (.t 13) (.t 15)⟩,
   ⟨(some 18), none, .ld (some 3) (.t 17)⟩,
   ⟨(some 4), none, .alloc [(.p (.str [])), .nils, .nils]⟩,
   ⟨none, none, .st 3 (.t 4) (.t 18)⟩])
 (.seq (.reg [⟨(some 19), none, .fldA 0 (.t 4)⟩,
   ⟨(some 20), none, .ld none (.t 19)⟩,
   ⟨(some 21), none, .call n_impl_IsName [(.t 20)]⟩,
   ⟨(some 22), none, .not (.t 21)⟩,
   ⟨(some 23), none, .mov (.t 22)⟩,
   ⟨(some 24), (some (23, false)), .fldA 1 (.t 4)⟩,
   ⟨(some 25), (some (23, false)), .ld none (.t 24)⟩,
   ⟨(some 26), (some (23, false)), .len false (.t 25)⟩,
   ⟨(some 27), (some (23, false)), .bin .gtr (.t 26) (.c (.p (.int .i64 3)))⟩,
   ⟨(some 28), none, .pick (.t 23) (.c (.p (.bool true))) (.t 27)⟩,
   ⟨(some 29), none, .mov (.t 28)⟩,
   ⟨(some 30), (some (29, false)), .fldA 1 (.t 4)⟩,
   ⟨(some 31), (some (29, false)), .ld none (.t 30)⟩,
   ⟨(some 32), (some (29, false)), .call n_slices_ContainsFunc_string [(.t 31), (.c (.fn (.func n_impl_ProgramValid_1) []))]⟩,
   ⟨(some 33), none, .pick (.t 29) (.c (.p (.bool true))) (.t 32)⟩,
   ⟨(some 34), none, .mov (.t 33)⟩,
   ⟨(some 35), (some (34, false)), .fldA 2 (.t 4)⟩,
   ⟨(some 36), (some (34, false)), .ld none (.t 35)⟩,
   ⟨(some 37), (some (34, false)), .call n_impl_blockOk [(.t 36), (.c (.p (.int .i64 1)))]⟩,
   ⟨(some 38), (some (34, false)), .not (.t 37)⟩,
   ⟨(some 39), none, .pick (.t 34) (.c (.p (.bool true))) (.t 38)⟩])
 (.cond (.t 39)
  (.seq (.reg [⟨(some 2), none, .mov (.c (.p (.bool false)))⟩])
  (.ret))
  (.skip)))))
 (.reg [⟨(some 40), none, .bin .add (.t 15) (.c (.p (.int .i64 1)))⟩,
   ⟨(some 15), none, .mov (.t 40)⟩])))))))
 (.seq (.reg [⟨(some 42), none, .ld (some 1) (.t 1)⟩,
   ⟨(some 43), none, .call n_impl_measure [(.t 42)]⟩,
   ⟨(some 41), none, .mov (.t 43)⟩,
   ⟨(some 44), none, .ext 0 (.t 41)⟩,
   ⟨(some 45), none, .ext 1 (.t 41)⟩,
   ⟨(some 5), none, .mov (.t 44)⟩,
   ⟨(some 6), none, .mov (.t 45)⟩])
 (.seq (.reg [⟨(some 46), none, .mov (.t 5)⟩,
   ⟨(some 47), none, .bin .leq (.t 46) (.c (.p (.int .i64 40)))⟩,
   ⟨(some 2), none, .mov (.t 47)⟩])
 (.ret)))))⟩
theorem k_impl_ProgramValid : compF Tryd.prog n_impl_ProgramValid = some F_impl_ProgramValid := by kernel_rfl
def F_slices_IndexFunc_impl_Fn : FK := ⟨19, [.t 4],
 .seq (.reg [⟨(some 4), none, .mov (.c (.p (.int .i64 0)))⟩])
 (.seq (.seq (.reg [⟨(some 6), none, .mov (.t 0)⟩,
   ⟨(some 7), none, .len false (.t 6)⟩,
   ⟨(some 8), none, .mov (.c (.p (.int .i64 0)))⟩])
 (.blk 0 (.loop (.seq (.reg [⟨(some 9), none, .bin .lss (.t 8) (.t 7)⟩])
 (.seq (.cond (.t 9)
  (.skip)
  (.exit 0))
 (.seq (.blk 1 (.seq (.reg [⟨(some 10), none, .mov (.t 8)⟩,
   ⟨(some 5), none, .mov (.t 10)⟩])
 (.seq (.reg [⟨(some 11), none, .mov (.t 1)⟩,
   ⟨(some 12), none, .mov (.t 0)⟩,
   ⟨(some 13), none, .mov (.t 5)⟩,
   ⟨(some 14), none, .idxS 3 (.t 12) (.t 13)⟩,
   ⟨(some 15), none, .ld (some 3) (.t 14)⟩,
   ⟨(some 16), none, .callv (.t 11) [(.t 15)]⟩])
 (.cond (.t 16)
  (.seq (.reg [⟨(some 17), none, .mov (.t 5)⟩,
    ⟨(some 4), none, .mov (.t 17)⟩])
  (.ret))
  (.skip)))))
 (.reg [⟨(some 18), none, .bin .add (.t 8) (.c (.p (.int .i64 1)))⟩,
   ⟨(some 8), none, .mov (.t 18)⟩])))))))
 (.seq (.reg [⟨(some 4), none, .mov (.c (.p (.int .i64 (-1))))⟩])
 (.ret)))⟩
theorem k_slices_IndexFunc_impl_Fn : compF Tryd.prog n_slices_IndexFunc_impl_Fn = some F_slices_IndexFunc_impl_Fn := by kernel_rfl
def F_impl_FnAt_1 : FK := ⟨8, [.t 3],
 .seq (.reg [⟨(some 2), none, .box 3 (.t 0)⟩,
   ⟨(some 3), none, .mov (.c (.p (.bool false)))⟩])
 (.seq (.reg [⟨(some 4), none, .fldA 0 (.t 2)⟩,
   ⟨(some 5), none, .ld none (.t 4)⟩,
   ⟨(some 6), none, .ld none (.t 1)⟩,
   ⟨(some 7), none, .bins .eql (.t 5) (.t 6)⟩,
   ⟨(some 3), none, .mov (.t 7)⟩])
 (.ret))⟩
theorem k_impl_FnAt_1 : compF Tryd.prog n_impl_FnAt_1 = some F_impl_FnAt_1 := by kernel_rfl
def F_impl_FnAt : FK := ⟨9, [.t 4],
 .seq (.reg [⟨(some 2), none, .box 1 (.t 0)⟩,
   ⟨(some 3), none, .box 1 (.t 1)⟩,
   ⟨(some 4), none, .mov (.c (.p (.int .i64 0)))⟩])
 (.seq (.reg [⟨(some 5), none, .fldA 0 (.t 2)⟩,
   ⟨(some 6), none, .ld none (.t 5)⟩,
   ⟨(some 7), none, .mkf (.func n_impl_FnAt_1) [(.t 3)]⟩,
   ⟨(some 8), none, .call n_slices_IndexFunc_impl_Fn [(.t 6), (.t 7)]⟩,
   ⟨(some 4), none, .mov (.t 8)⟩])
 (.ret))⟩
theorem k_impl_FnAt : compF Tryd.prog n_impl_FnAt = some F_impl_FnAt := by kernel_rfl
def F_impl_checker_fail : FK := ⟨13, [],
 .seq (.reg [⟨(some 4), none, .mov (.t 0)⟩,
   ⟨(some 5), none, .nilck (.t 4)⟩,
   ⟨(some 6), none, .fldA 2 (.t 5)⟩,
   ⟨(some 7), none, .ld none (.t 6)⟩,
   ⟨(some 8), none, .bin .eql (.t 7) (.c (.p (.int .i64 0)))⟩])
 (.cond (.t 8)
  (.reg [⟨(some 9), none, .mov (.t 0)⟩,
    ⟨(some 10), none, .mov (.t 1)⟩,
    ⟨(some 11), none, .nilck (.t 9)⟩,
    ⟨(some 12), none, .fldA 2 (.t 11)⟩,
    ⟨none, none, .st 1 (.t 12) (.t 10)⟩])
  (.skip))⟩
theorem k_impl_checker_fail : compF Tryd.prog n_impl_checker_fail = some F_impl_checker_fail := by kernel_rfl
def F_impl_scope_open : FK := ⟨7, [.t 2],
 .seq (.reg [⟨(some 2), none, .mov (.c .nilp)⟩])
 (.seq (.reg [⟨(some 3), none, .mkm⟩,
   ⟨(some 4), none, .mov (.t 0)⟩,
   ⟨(some 5), none, .bld [.nilm, .nilp] [(0, 1, (.t 3)), (1, 1, (.t 4))]⟩,
   ⟨(some 6), none, .box 2 (.t 5)⟩,
   ⟨(some 2), none, .mov (.t 6)⟩])
 (.ret))⟩
theorem k_impl_scope_open : compF Tryd.prog n_impl_scope_open = some F_impl_scope_open := by kernel_rfl
def F_impl_parts : FK := ⟨20, [],
 .seq (.reg [⟨(some 2), none, .box 4 (.t 0)⟩])
 (.seq (.reg [⟨(some 6), none, .mov (.t 1)⟩,
   ⟨(some 7), none, .ld (some 4) (.t 2)⟩,
   ⟨(some 8), none, .callv (.t 6) [(.t 7)]⟩])
 (.seq (.reg [⟨(some 9), none, .fldA 3 (.t 2)⟩,
   ⟨(some 10), none, .ld none (.t 9)⟩,
   ⟨(some 11), none, .len false (.t 10)⟩,
   ⟨(some 12), none, .mov (.c (.p (.int .i64 0)))⟩])
 (.blk 0 (.loop (.seq (.reg [⟨(some 13), none, .bin .lss (.t 12) (.t 11)⟩])
 (.seq (.cond (.t 13)
  (.skip)
  (.exit 0))
 (.seq (.blk 1 (.seq (.reg [⟨(some 14), none, .idxS 4 (.t 10) (.t 12)⟩,
   ⟨(some 15), none, .ld (some 4) (.t 14)⟩,
   ⟨(some 5), none, .alloc [(.p (.int .i64 0)), (.p (.int .i64 0)), (.p (.str [])), .nils]⟩,
   ⟨none, none, .st 4 (.t 5) (.t 15)⟩])
 (.reg [⟨(some 16), none, .ld (some 4) (.t 5)⟩,
   ⟨(some 17), none, .mov (.t 1)⟩,
   ⟨(some 18), none, .call n_impl_parts [(.t 16), (.t 17)]⟩])))
 (.reg [⟨(some 19), none, .bin .add (.t 12) (.c (.p (.int .i64 1)))⟩,
   ⟨(some 12), none, .mov (.t 19)⟩]))))))))⟩
theorem k_impl_parts : compF Tryd.prog n_impl_parts = some F_impl_parts := by kernel_rfl
def F_impl_scope_find : FK := ⟨25, [.t 4, .t 5],
 .seq (.reg [⟨(some 4), none, .mov (.c (.p (.int .i64 0)))⟩,
   ⟨(some 5), none, .mov (.c (.p (.bool false)))⟩])
 (.seq (.blk 0 (.loop (.seq (.seq (.reg [⟨(some 8), none, .mov (.t 0)⟩,
   ⟨(some 9), none, .pnil 0 true (.t 8)⟩])
 (.cond (.t 9)
  (.skip)
  (.exit 0)))
 (.seq (.blk 1 (.seq (.reg [⟨(some 15), none, .mov (.t 0)⟩,
   ⟨(some 16), none, .nilck (.t 15)⟩,
   ⟨(some 17), none, .fldA 0 (.t 16)⟩,
   ⟨(some 18), none, .ld none (.t 17)⟩,
   ⟨(some 19), none, .mov (.t 1)⟩,
   ⟨(some 20), none, .lk 1 (.p (.int .i64 0)) true (.t 18) (.t 19)⟩,
   ⟨(some 14), none, .mov (.t 20)⟩,
   ⟨(some 21), none, .ext 0 (.t 14)⟩,
   ⟨(some 22), none, .ext 1 (.t 14)⟩,
   ⟨(some 6), none, .mov (.t 21)⟩,
   ⟨(some 7), none, .mov (.t 22)⟩])
 (.seq (.reg [⟨(some 23), none, .mov (.t 7)⟩])
 (.cond (.t 23)
  (.seq (.reg [⟨(some 24), none, .mov (.t 6)⟩,
    ⟨(some 4), none, .mov (.t 24)⟩,
    ⟨(some 5), none, .mov (.c (.p (.bool true)))⟩])
  (.ret))
  (.skip)))))
 (.reg [⟨(some 10), none, .mov (.t 0)⟩,
   ⟨(some 11), none, .nilck (.t 10)⟩,
   ⟨(some 12), none, .fldA 1 (.t 11)⟩,
   ⟨(some 13), none, .ld none (.t 12)⟩,
   ⟨(some 0), none, .mov (.t 13)⟩])))))
 (.seq (.reg [⟨(some 4), none, .mov (.c (.p (.int .i64 0)))⟩,
   ⟨(some 5), none, .mov (.c (.p (.bool false)))⟩])
 (.ret)))⟩
theorem k_impl_scope_find : compF Tryd.prog n_impl_scope_find = some F_impl_scope_find := by kernel_rfl
def F_impl_checker_expr_1 : FK := ⟨58, [],
 .seq (.reg [⟨(some 3), none, .box 4 (.t 0)⟩])
 (.seq (.reg [⟨(some 7), none, .fldA 0 (.t 3)⟩,
   ⟨(some 8), none, .ld none (.t 7)⟩])
 (.blk 0 (.seq (.reg [⟨(some 10), none, .bin .eql (.t 8) (.c (.p (.int .i64 2)))⟩,
   ⟨(some 9), none, .mov (.t 10)⟩])
 (.cond (.t 9)
  (.seq (.reg [⟨(some 12), none, .ld none (.t 1)⟩,
    ⟨(some 13), none, .fldA 2 (.t 3)⟩,
    ⟨(some 14), none, .ld none (.t 13)⟩,
    ⟨(some 15), none, .call n_impl_scope_find [(.t 12), (.t 14)]⟩,
    ⟨(some 11), none, .mov (.t 15)⟩,
    ⟨(some 16), none, .ext 0 (.t 11)⟩,
    ⟨(some 17), none, .ext 1 (.t 11)⟩,
    ⟨(some 4), none, .mov (.t 16)⟩,
    ⟨(some 5), none, .mov (.t 17)⟩])
  (.seq (.reg [⟨(some 18), none, .mov (.t 5)⟩,
    ⟨(some 19), none, .not (.t 18)⟩])
  (.cond (.t 19)
   (.reg [⟨(some 20), none, .ld none (.t 2)⟩,
     ⟨(some 21), none, .call n_impl_checker_fail [(.t 20), (.c (.p (.int .i64 3)))]⟩])
   (.skip))))
  (.seq (.reg [⟨(some 23), none, .bin .eql (.t 8) (.c (.p (.int .i64 13)))⟩,
    ⟨(some 22), none, .mov (.t 23)⟩])
  (.cond (.t 22)
   (.seq (.reg [⟨(some 35), none, .fldA 2 (.t 3)⟩,
     ⟨(some 24), none, .ld none (.t 2)⟩,
     ⟨(some 25), none, .nilck (.t 24)⟩,
     ⟨(some 26), none, .fldA 0 (.t 25)⟩,
     ⟨(some 27), none, .fldA 0 (.t 26)⟩,
     ⟨(some 28), none, .ld none (.t 27)⟩,
     ⟨(some 29), none, .ld none (.t 2)⟩,
     ⟨(some 30), none, .nilck (.t 29)⟩,
     ⟨(some 31), none, .fldA 1 (.t 30)⟩,
     ⟨(some 32), none, .ld none (.t 31)⟩,
     ⟨(some 33), none, .slS 3 (.t 28) none (some (.t 32))⟩,
     ⟨(some 34), none, .bld [.nils] [(0, 1, (.t 33))]⟩,
     ⟨(some 36), none, .ld none (.t 35)⟩,
     ⟨(some 37), none, .call n_impl_FnAt [(.t 34), (.t 36)]⟩,
     ⟨(some 6), none, .mov (.t 37)⟩])
   (.seq (.reg [⟨(some 38), none, .mov (.t 6)⟩,
     ⟨(some 39), none, .bin .lss (.t 38) (.c (.p (.int .i64 0)))⟩])
   (.cond (.t 39)
    (.reg [⟨(some 40), none, .ld none (.t 2)⟩,
      ⟨(some 41), none, .call n_impl_checker_fail [(.t 40), (.c (.p (.int .i64 4)))]⟩])
    (.seq (.reg [⟨(some 47), none, .mov (.t 6)⟩,
      ⟨(some 52), none, .fldA 3 (.t 3)⟩,
      ⟨(some 42), none, .ld none (.t 2)⟩,
      ⟨(some 43), none, .nilck (.t 42)⟩,
      ⟨(some 44), none, .fldA 0 (.t 43)⟩,
      ⟨(some 45), none, .fldA 0 (.t 44)⟩,
      ⟨(some 46), none, .ld none (.t 45)⟩,
      ⟨(some 48), none, .idxS 3 (.t 46) (.t 47)⟩,
      ⟨(some 49), none, .fldA 1 (.t 48)⟩,
      ⟨(some 50), none, .ld none (.t 49)⟩,
      ⟨(some 51), none, .len false (.t 50)⟩,
      ⟨(some 53), none, .ld none (.t 52)⟩,
      ⟨(some 54), none, .len false (.t 53)⟩,
      ⟨(some 55), none, .bin .neq (.t 51) (.t 54)⟩])
    (.cond (.t 55)
     (.reg [⟨(some 56), none, .ld none (.t 2)⟩,
       ⟨(some 57), none, .call n_impl_checker_fail [(.t 56), (.c (.p (.int .i64 5)))]⟩])
     (.skip))))))
   (.skip)))))))⟩
theorem k_impl_checker_expr_1 : compF Tryd.prog n_impl_checker_expr_1 = some F_impl_checker_expr_1 := by kernel_rfl
def F_impl_checker_expr : FK := ⟨9, [],
 .seq (.reg [⟨(some 3), none, .box 1 (.t 0)⟩,
   ⟨(some 4), none, .box 4 (.t 1)⟩,
   ⟨(some 5), none, .box 1 (.t 2)⟩])
 (.reg [⟨(some 6), none, .ld (some 4) (.t 4)⟩,
   ⟨(some 7), none, .mkf (.func n_impl_checker_expr_1) [(.t 5), (.t 3)]⟩,
   ⟨(some 8), none, .call n_impl_parts [(.t 6), (.t 7)]⟩])⟩
theorem k_impl_checker_expr : compF Tryd.prog n_impl_checker_expr = some F_impl_checker_expr := by kernel_rfl
def F_impl_checker_block : FK := ⟨89, [],
 .seq (.reg [⟨(some 14), none, .mov (.t 1)⟩,
   ⟨(some 15), none, .len false (.t 14)⟩,
   ⟨(some 16), none, .mov (.c (.p (.int .i64 0)))⟩])
 (.blk 0 (.loop (.seq (.reg [⟨(some 17), none, .bin .lss (.t 16) (.t 15)⟩])
 (.seq (.cond (.t 17)
  (.skip)
  (.exit 0))
 (.seq (.blk 1 (.seq (.reg [⟨(some 18), none, .idxS 5 (.t 14) (.t 16)⟩,
   ⟨(some 19), none, .ld (some 5) (.t 18)⟩,
   ⟨(some 7), none, .alloc [(.p (.int .i64 0)), (.p (.str [])), .nils, .nils, .nils]⟩,
   ⟨none, none, .st 5 (.t 7) (.t 19)⟩])
 (.seq (.seq (.reg [⟨(some 20), none, .fldA 2 (.t 7)⟩,
   ⟨(some 21), none, .ld none (.t 20)⟩,
   ⟨(some 22), none, .len false (.t 21)⟩,
   ⟨(some 23), none, .mov (.c (.p (.int .i64 0)))⟩])
 (.blk 2 (.loop (.seq (.reg [⟨(some 24), none, .bin .lss (.t 23) (.t 22)⟩])
 (.seq (.cond (.t 24)
  (.skip)
  (.exit 2))
 (.seq (.blk 3 (.seq (.reg [⟨(some 25), none, .idxS 4 (.t 21) (.t 23)⟩,
   ⟨(some 26), none, .ld (some 4) (.t 25)⟩,
   ⟨(some 9), none, .alloc [(.p (.int .i64 0)), (.p (.int .i64 0)), (.p (.str [])), .nils]⟩,
   ⟨none, none, .st 4 (.t 9) (.t 26)⟩])
 (.reg [⟨(some 27), none, .mov (.t 0)⟩,
   ⟨(some 28), none, .ld (some 4) (.t 9)⟩,
   ⟨(some 29), none, .mov (.t 2)⟩,
   ⟨(some 30), none, .call n_impl_checker_expr [(.t 27), (.t 28), (.t 29)]⟩])))
 (.reg [⟨(some 31), none, .bin .add (.t 23) (.c (.p (.int .i64 1)))⟩,
   ⟨(some 23), none, .mov (.t 31)⟩])))))))
 (.seq (.seq (.reg [⟨(some 32), none, .fldA 0 (.t 7)⟩,
   ⟨(some 33), none, .ld none (.t 32)⟩])
 (.blk 4 (.seq (.reg [⟨(some 35), none, .bin .eql (.t 33) (.c (.p (.int .i64 1)))⟩,
   ⟨(some 34), none, .mov (.t 35)⟩])
 (.cond (.t 34)
  (.seq (.seq (.reg [⟨(some 37), none, .mov (.t 2)⟩,
    ⟨(some 38), none, .nilck (.t 37)⟩,
    ⟨(some 39), none, .fldA 0 (.t 38)⟩,
    ⟨(some 41), none, .fldA 1 (.t 7)⟩,
    ⟨(some 40), none, .ld none (.t 39)⟩,
    ⟨(some 42), none, .ld none (.t 41)⟩,
    ⟨(some 43), none, .lk 1 (.p (.int .i64 0)) true (.t 40) (.t 42)⟩,
    ⟨(some 36), none, .mov (.t 43)⟩,
    ⟨(some 44), none, .ext 0 (.t 36)⟩,
    ⟨(some 45), none, .ext 1 (.t 36)⟩,
    ⟨(some 10), none, .mov (.t 44)⟩,
    ⟨(some 11), none, .mov (.t 45)⟩])
  (.seq (.reg [⟨(some 46), none, .mov (.t 11)⟩])
  (.cond (.t 46)
   (.reg [⟨(some 47), none, .mov (.t 0)⟩,
     ⟨(some 48), none, .call n_impl_checker_fail [(.t 47), (.c (.p (.int .i64 2)))]⟩])
   (.skip))))
  (.reg [⟨(some 49), none, .mov (.t 2)⟩,
    ⟨(some 50), none, .nilck (.t 49)⟩,
    ⟨(some 51), none, .fldA 0 (.t 50)⟩,
    ⟨(some 53), none, .fldA 1 (.t 7)⟩,
    ⟨(some 52), none, .ld none (.t 51)⟩,
    ⟨(some 54), none, .ld none (.t 53)⟩,
    ⟨none, none, .mup 1 (.t 52) (.t 54) (.c (.p (.int .i64 0)))⟩]))
  (.seq (.reg [⟨(some 56), none, .bin .eql (.t 33) (.c (.p (.int .i64 2)))⟩,
    ⟨(some 55), none, .mov (.t 56)⟩])
  (.cond (.t 55)
   (.seq (.reg [⟨(some 58), none, .mov (.t 2)⟩,
     ⟨(some 59), none, .fldA 1 (.t 7)⟩,
     ⟨(some 60), none, .ld none (.t 59)⟩,
     ⟨(some 61), none, .call n_impl_scope_find [(.t 58), (.t 60)]⟩,
     ⟨(some 57), none, .mov (.t 61)⟩,
     ⟨(some 62), none, .ext 0 (.t 57)⟩,
     ⟨(some 63), none, .ext 1 (.t 57)⟩,
     ⟨(some 12), none, .mov (.t 62)⟩,
     ⟨(some 13), none, .mov (.t 63)⟩])
   (.seq (.reg [⟨(some 64), none, .mov (.t 13)⟩,
     ⟨(some 65), none, .not (.t 64)⟩])
   (.cond (.t 65)
    (.reg [⟨(some 66), none, .mov (.t 0)⟩,
      ⟨(some 67), none, .call n_impl_checker_fail [(.t 66), (.c (.p (.int .i64 3)))]⟩])
    (.skip))))
   (.skip)))))))
 (.seq (.reg [⟨(some 68), none, .fldA 0 (.t 7)⟩,
   ⟨(some 69), none, .ld none (.t 68)⟩,
   ⟨(some 70), none, .bin .eql (.t 69) (.c (.p (.int .i64 5)))⟩,
   ⟨(some 71), none, .mov (.t 70)⟩,
   ⟨(some 72), (some (71, false)), .fldA 0 (.t 7)⟩,
   ⟨(some 73), (some (71, false)), .ld none (.t 72)⟩,
   ⟨(some 74), (some (71, false)), .bin .eql (.t 73) (.c (.p (.int .i64 6)))⟩,
   ⟨(some 75), none, .pick (.t 71) (.c (.p (.bool true))) (.t 74)⟩])
 (.cond (.t 75)
  (.seq (.reg [⟨(some 76), none, .mov (.t 0)⟩,
    ⟨(some 77), none, .fldA 3 (.t 7)⟩,
    ⟨(some 79), none, .mov (.t 2)⟩,
    ⟨(some 78), none, .ld none (.t 77)⟩,
    ⟨(some 80), none, .call n_impl_scope_open [(.t 79)]⟩,
    ⟨none, none, .chk none 77 78⟩,
    ⟨(some 81), none, .call n_impl_checker_block [(.t 76), (.t 78), (.t 80)]⟩])
  (.reg [⟨(some 82), none, .mov (.t 0)⟩,
    ⟨(some 83), none, .fldA 4 (.t 7)⟩,
    ⟨(some 85), none, .mov (.t 2)⟩,
    ⟨(some 84), none, .ld none (.t 83)⟩,
    ⟨(some 86), none, .call n_impl_scope_open [(.t 85)]⟩,
    ⟨none, none, .chk none 83 84⟩,
    ⟨(some 87), none, .call n_impl_checker_block [(.t 82), (.t 84), (.t 86)]⟩]))
  (.skip)))))))
 (.reg [⟨(some 88), none, .bin .add (.t 16) (.c (.p (.int .i64 1)))⟩,
   ⟨(some 16), none, .mov (.t 88)⟩]))))))⟩
theorem k_impl_checker_block : compF Tryd.prog n_impl_checker_block = some F_impl_checker_block := by kernel_rfl
def F_impl_CheckProgram : FK := ⟨73, [.t 2],
 .seq (.reg [⟨(some 1), none, .box 1 (.t 0)⟩,
   ⟨(some 2), none, .mov (.c (.p (.int .i64 0)))⟩])
 (.seq (.seq (.reg [⟨(some 11), none, .ld (some 1) (.t 1)⟩,
   ⟨(some 12), none, .call n_impl_ProgramValid [(.t 11)]⟩,
   ⟨(some 13), none, .not (.t 12)⟩])
 (.cond (.t 13)
  (.seq (.reg [⟨(some 2), none, .mov (.c (.p (.int .i64 1)))⟩])
  (.ret))
  (.skip)))
 (.seq (.reg [⟨(some 14), none, .ld (some 1) (.t 1)⟩,
   ⟨(some 15), none, .bld [.nils, (.p (.int .i64 0)), (.p (.int .i64 0))] [(0, 1, (.t 14))]⟩,
   ⟨(some 16), none, .box 3 (.t 15)⟩,
   ⟨(some 3), none, .mov (.t 16)⟩])
 (.seq (.seq (.reg [⟨(some 17), none, .fldA 0 (.t 1)⟩,
   ⟨(some 18), none, .ld none (.t 17)⟩,
   ⟨(some 19), none, .len false (.t 18)⟩,
   ⟨(some 20), none, .mov (.c (.p (.int .i64 0)))⟩])
 (.blk 0 (.loop (.seq (.reg [⟨(some 21), none, .bin .lss (.t 20) (.t 19)⟩])
 (.seq (.cond (.t 21)
  (.skip)
  (.exit 0))
 (.seq (.blk 1 (.seq (.reg [⟨(some 22), none, .mov (.t 20)⟩,
   ⟨(some 23), none, .idxS 3 (.t 18) (.t 20)⟩,
   ⟨(some 24), none, .ld (some 3) (.t 23)⟩,
   ⟨(some 5), none, .alloc [(.p (.str [])), .nils, .nils]⟩,
   ⟨(some 4), none, .mov (.t 22)⟩,
   ⟨none, none, .st 3 (.t 5) (.t 24)⟩])
 (.seq (.reg [⟨(some 25), none, .mov (.t 3)⟩,
   ⟨(some 26), none, .mov (.t 4)⟩,
   ⟨(some 27), none, .nilck (.t 25)⟩,
   ⟨(some 28), none, .fldA 1 (.t 27)⟩,
   ⟨none, none, .st 1 (.t 28) (.t 26)⟩])
 (.seq (.seq (.reg [⟨(some 29), none, .ld (some 1) (.t 1)⟩,
   ⟨(some 30), none, .fldA 0 (.t 5)⟩,
   ⟨(some 31), none, .ld none (.t 30)⟩,
   ⟨(some 32), none, .call n_impl_FnAt [(.t 29), (.t 31)]⟩,
   ⟨(some 33), none, .mov (.t 4)⟩,
   ⟨(some 34), none, .bin .lss (.t 32) (.t 33)⟩])
 (.cond (.t 34)
  (.reg [⟨(some 35), none, .mov (.t 3)⟩,
    ⟨(some 36), none, .call n_impl_checker_fail [(.t 35), (.c (.p (.int .i64 2)))]⟩])
  (.skip)))
 (.seq (.reg [⟨(some 37), none, .call n_impl_scope_open [(.c .nilp)]⟩,
   ⟨(some 6), none, .mov (.t 37)⟩])
 (.seq (.seq (.reg [⟨(some 38), none, .fldA 1 (.t 5)⟩,
   ⟨(some 39), none, .ld none (.t 38)⟩,
   ⟨(some 40), none, .len false (.t 39)⟩,
   ⟨(some 41), none, .mov (.c (.p (.int .i64 0)))⟩])
 (.blk 2 (.loop (.seq (.reg [⟨(some 42), none, .bin .lss (.t 41) (.t 40)⟩])
 (.seq (.cond (.t 42)
  (.skip)
  (.exit 2))
 (.seq (.blk 3 (.seq (.reg [⟨(some 43), none, .idxS 1 (.t 39) (.t 41)⟩,
   ⟨(some 44), none, .ld none (.t 43)⟩,
   ⟨(some 8), none, .mov (.t 44)⟩])
 (.seq (.seq (.reg [⟨(some 46), none, .mov (.t 6)⟩,
   ⟨(some 47), none, .nilck (.t 46)⟩,
   ⟨(some 48), none, .fldA 0 (.t 47)⟩,
   ⟨(some 49), none, .ld none (.t 48)⟩,
   ⟨(some 50), none, .mov (.t 8)⟩,
   ⟨(some 51), none, .lk 1 (.p (.int .i64 0)) true (.t 49) (.t 50)⟩,
   ⟨(some 45), none, .mov (.t 51)⟩,
   ⟨(some 52), none, .ext 0 (.t 45)⟩,
   ⟨(some 53), none, .ext 1 (.t 45)⟩,
   ⟨(some 9), none, .mov (.t 52)⟩,
   ⟨(some 10), none, .mov (.t 53)⟩])
 (.seq (.reg [⟨(some 54), none, .mov (.t 10)⟩])
 (.cond (.t 54)
  (.reg [⟨(some 55), none, .mov (.t 3)⟩,
    ⟨(some 56), none, .call n_impl_checker_fail [(.t 55), (.c (.p (.int .i64 2)))]⟩])
  (.skip))))
 (.reg [⟨(some 57), none, .mov (.t 6)⟩,
   ⟨(some 58), none, .nilck (.t 57)⟩,
   ⟨(some 59), none, .fldA 0 (.t 58)⟩,
   ⟨(some 60), none, .ld none (.t 59)⟩,
   ⟨(some 61), none, .mov (.t 8)⟩,
   ⟨none, none, .mup 1 (.t 60) (.t 61) (.c (.p (.int .i64 0)))⟩]))))
 (.reg [⟨(some 62), none, .bin .add (.t 41) (.c (.p (.int .i64 1)))⟩,
   ⟨(some 41), none, .mov (.t 62)⟩])))))))
 (.reg [⟨(some 63), none, .mov (.t 3)⟩,
   ⟨(some 64), none, .fldA 2 (.t 5)⟩,
   ⟨(some 65), none, .ld none (.t 64)⟩,
   ⟨(some 66), none, .mov (.t 6)⟩,
   ⟨(some 67), none, .call n_impl_checker_block [(.t 63), (.t 65), (.t 66)]⟩])))))))
 (.reg [⟨(some 68), none, .bin .add (.t 20) (.c (.p (.int .i64 1)))⟩,
   ⟨(some 20), none, .mov (.t 68)⟩])))))))
 (.seq (.reg [⟨(some 69), none, .mov (.t 3)⟩,
   ⟨(some 70), none, .nilck (.t 69)⟩,
   ⟨(some 71), none, .fldA 2 (.t 70)⟩,
   ⟨(some 72), none, .ld none (.t 71)⟩,
   ⟨(some 2), none, .mov (.t 72)⟩])
 (.ret)))))⟩
theorem k_impl_CheckProgram : compF Tryd.prog n_impl_CheckProgram = some F_impl_CheckProgram := by kernel_rfl
def F_spec_l30Open : FK := ⟨11, [.t 2],
 .seq (.reg [⟨(some 2), none, .mov (.c .nilp)⟩])
 (.seq (.seq (.reg [⟨(some 3), none, .mov (.t 0)⟩,
   ⟨(some 4), none, .len false (.t 3)⟩,
   ⟨(some 5), none, .bin .gtr (.t 4) (.c (.p (.int .i64 2000)))⟩])
 (.cond (.t 5)
  (.reg [⟨(some 6), none, .mov (.t 0)⟩,
    ⟨(some 7), none, .slS 1 (.t 6) none (some (.c (.p (.int .i64 2000))))⟩,
    ⟨(some 0), none, .mov (.t 7)⟩])
  (.skip)))
 (.seq (.reg [⟨(some 8), none, .mov (.t 0)⟩,
   ⟨(some 9), none, .bld [.nils, (.p (.int .i64 0))] [(0, 1, (.t 8))]⟩,
   ⟨(some 10), none, .box 2 (.t 9)⟩,
   ⟨(some 2), none, .mov (.t 10)⟩])
 (.ret)))⟩
theorem k_spec_l30Open : compF Tryd.prog n_spec_l30Open = some F_spec_l30Open := by kernel_rfl
def F_spec_l30Rd_pick : FK := ⟨99, [.t 4],
 .seq (.reg [⟨(some 4), none, .mov (.c (.p (.int .i64 0)))⟩])
 (.seq (.reg [⟨(some 7), none, .mov (.t 0)⟩,
   ⟨(some 8), none, .mov (.t 0)⟩,
   ⟨(some 9), none, .nilck (.t 8)⟩,
   ⟨(some 10), none, .fldA 1 (.t 9)⟩,
   ⟨(some 11), none, .ld none (.t 10)⟩,
   ⟨(some 12), none, .bin .add (.t 11) (.c (.p (.int .i64 1)))⟩,
   ⟨(some 13), none, .nilck (.t 7)⟩,
   ⟨(some 14), none, .fldA 1 (.t 13)⟩,
   ⟨none, none, .st 1 (.t 14) (.t 12)⟩])
 (.seq (.seq (.reg [⟨(some 15), none, .mov (.t 1)⟩,
   ⟨(some 16), none, .bin .lss (.t 15) (.c (.p (.int .i64 1)))⟩,
   ⟨(some 17), none, .mov (.t 16)⟩,
   ⟨(some 18), (some (17, false)), .mov (.t 0)⟩,
   ⟨(some 19), (some (17, false)), .nilck (.t 18)⟩,
   ⟨(some 20), (some (17, false)), .fldA 0 (.t 19)⟩,
   ⟨(some 21), (some (17, false)), .ld none (.t 20)⟩,
   ⟨(some 22), (some (17, false)), .len false (.t 21)⟩,
   ⟨(some 23), (some (17, false)), .bin .eql (.t 22) (.c (.p (.int .i64 0)))⟩,
   ⟨(some 24), none, .pick (.t 17) (.c (.p (.bool true))) (.t 23)⟩])
 (.cond (.t 24)
  (.seq (.reg [⟨(some 4), none, .mov (.c (.p (.int .i64 0)))⟩])
  (.ret))
  (.skip)))
 (.seq (.reg [⟨(some 25), none, .mov (.t 0)⟩,
   ⟨(some 26), none, .nilck (.t 25)⟩,
   ⟨(some 27), none, .fldA 1 (.t 26)⟩,
   ⟨(some 28), none, .ld none (.t 27)⟩,
   ⟨(some 29), none, .bin .sub (.t 28) (.c (.p (.int .i64 1)))⟩,
   ⟨(some 5), none, .mov (.t 29)⟩])
 (.seq (.seq (.reg [⟨(some 30), none, .mov (.t 5)⟩,
   ⟨(some 31), none, .mov (.t 0)⟩,
   ⟨(some 32), none, .nilck (.t 31)⟩,
   ⟨(some 33), none, .fldA 0 (.t 32)⟩,
   ⟨(some 34), none, .ld none (.t 33)⟩,
   ⟨(some 35), none, .len false (.t 34)⟩,
   ⟨(some 36), none, .bin .lss (.t 30) (.t 35)⟩])
 (.cond (.t 36)
  (.seq (.reg [⟨(some 37), none, .mov (.t 0)⟩,
    ⟨(some 38), none, .nilck (.t 37)⟩,
    ⟨(some 39), none, .fldA 0 (.t 38)⟩,
    ⟨(some 40), none, .ld none (.t 39)⟩,
    ⟨(some 41), none, .mov (.t 5)⟩,
    ⟨(some 42), none, .idxS 1 (.t 40) (.t 41)⟩,
    ⟨(some 43), none, .ld none (.t 42)⟩,
    ⟨(some 44), none, .conv .i64 (.t 43)⟩,
    ⟨(some 45), none, .mov (.t 1)⟩,
    ⟨(some 46), none, .bin .rem (.t 44) (.t 45)⟩,
    ⟨(some 4), none, .mov (.t 46)⟩])
  (.ret))
  (.skip)))
 (.seq (.reg [⟨(some 47), none, .mov (.t 0)⟩,
   ⟨(some 48), none, .nilck (.t 47)⟩,
   ⟨(some 49), none, .fldA 0 (.t 48)⟩,
   ⟨(some 51), none, .mov (.t 5)⟩,
   ⟨(some 52), none, .mov (.t 0)⟩,
   ⟨(some 53), none, .nilck (.t 52)⟩,
   ⟨(some 54), none, .fldA 0 (.t 53)⟩,
   ⟨(some 62), none, .mov (.t 0)⟩,
   ⟨(some 63), none, .nilck (.t 62)⟩,
   ⟨(some 64), none, .fldA 0 (.t 63)⟩,
   ⟨(some 66), none, .mov (.t 5)⟩,
   ⟨(some 67), none, .bin .mul (.t 66) (.c (.p (.int .i64 7)))⟩,
   ⟨(some 68), none, .bin .add (.t 67) (.c (.p (.int .i64 3)))⟩,
   ⟨(some 69), none, .mov (.t 0)⟩,
   ⟨(some 70), none, .nilck (.t 69)⟩,
   ⟨(some 71), none, .fldA 0 (.t 70)⟩,
   ⟨(some 80), none, .mov (.t 5)⟩,
   ⟨(some 81), none, .bin .mul (.t 80) (.c (.p (.int .i64 29)))⟩,
   ⟨(some 83), none, .mov (.t 5)⟩,
   ⟨(some 84), none, .mov (.t 0)⟩,
   ⟨(some 85), none, .nilck (.t 84)⟩,
   ⟨(some 86), none, .fldA 0 (.t 85)⟩,
   ⟨(some 50), none, .ld none (.t 49)⟩,
   ⟨(some 55), none, .ld none (.t 54)⟩,
   ⟨(some 56), none, .len false (.t 55)⟩,
   ⟨(some 57), none, .bin .rem (.t 51) (.t 56)⟩,
   ⟨(some 58), none, .idxS 1 (.t 50) (.t 57)⟩,
   ⟨(some 59), none, .ld none (.t 58)⟩,
   ⟨(some 60), none, .conv .i64 (.t 59)⟩,
   ⟨(some 61), none, .bin .mul (.t 60) (.c (.p (.int .i64 131)))⟩,
   ⟨(some 65), none, .ld none (.t 64)⟩,
   ⟨(some 72), none, .ld none (.t 71)⟩,
   ⟨(some 73), none, .len false (.t 72)⟩,
   ⟨(some 74), none, .bin .rem (.t 68) (.t 73)⟩,
   ⟨(some 75), none, .idxS 1 (.t 65) (.t 74)⟩,
   ⟨(some 76), none, .ld none (.t 75)⟩,
   ⟨(some 77), none, .conv .i64 (.t 76)⟩,
   ⟨(some 78), none, .bin .mul (.t 77) (.c (.p (.int .i64 1117)))⟩,
   ⟨(some 79), none, .bin .add (.t 61) (.t 78)⟩,
   ⟨(some 82), none, .bin .add (.t 79) (.t 81)⟩,
   ⟨(some 87), none, .ld none (.t 86)⟩,
   ⟨(some 88), none, .len false (.t 87)⟩,
   ⟨(some 89), none, .bin .quo (.t 83) (.t 88)⟩,
   ⟨(some 90), none, .bin .mul (.t 89) (.c (.p (.int .i64 53)))⟩,
   ⟨(some 91), none, .bin .add (.t 82) (.t 90)⟩,
   ⟨(some 6), none, .mov (.t 91)⟩])
 (.seq (.reg [⟨(some 92), none, .mov (.t 6)⟩,
   ⟨(some 93), none, .mov (.t 6)⟩,
   ⟨(some 94), none, .bin .quo (.t 93) (.c (.p (.int .i64 64)))⟩,
   ⟨(some 95), none, .bin .xor (.t 92) (.t 94)⟩,
   ⟨(some 6), none, .mov (.t 95)⟩])
 (.seq (.reg [⟨(some 96), none, .mov (.t 6)⟩,
   ⟨(some 97), none, .mov (.t 1)⟩,
   ⟨(some 98), none, .bin .rem (.t 96) (.t 97)⟩,
   ⟨(some 4), none, .mov (.t 98)⟩])
 (.ret))))))))⟩
theorem k_spec_l30Rd_pick : compF Tryd.prog n_spec_l30Rd_pick = some F_spec_l30Rd_pick := by kernel_rfl
def F_spec_l30Rd_num : FK := ⟨12, [.t 4],
 .seq (.reg [⟨(some 4), none, .mov (.c (.p (.int .i64 0)))⟩])
 (.seq (.reg [⟨(some 5), none, .mov (.t 1)⟩,
   ⟨(some 6), none, .mov (.t 0)⟩,
   ⟨(some 7), none, .mov (.t 1)⟩,
   ⟨(some 8), none, .len false (.t 7)⟩,
   ⟨(some 9), none, .call n_spec_l30Rd_pick [(.t 6), (.t 8)]⟩,
   ⟨(some 10), none, .idxS 1 (.t 5) (.t 9)⟩,
   ⟨(some 11), none, .ld none (.t 10)⟩,
   ⟨(some 4), none, .mov (.t 11)⟩])
 (.ret))⟩
theorem k_spec_l30Rd_num : compF Tryd.prog n_spec_l30Rd_num = some F_spec_l30Rd_num := by kernel_rfl
def F_spec_l30Rd_of : FK := ⟨12, [.t 4],
 .seq (.reg [⟨(some 4), none, .mov (.c (.p (.str [])))⟩])
 (.seq (.reg [⟨(some 5), none, .mov (.t 1)⟩,
   ⟨(some 6), none, .mov (.t 0)⟩,
   ⟨(some 7), none, .mov (.t 1)⟩,
   ⟨(some 8), none, .len false (.t 7)⟩,
   ⟨(some 9), none, .call n_spec_l30Rd_pick [(.t 6), (.t 8)]⟩,
   ⟨(some 10), none, .idxS 1 (.t 5) (.t 9)⟩,
   ⟨(some 11), none, .ld none (.t 10)⟩,
   ⟨(some 4), none, .mov (.t 11)⟩])
 (.ret))⟩
theorem k_spec_l30Rd_of : compF Tryd.prog n_spec_l30Rd_of = some F_spec_l30Rd_of := by kernel_rfl
def F_spec_l2Leaf : FK := ⟨21, [.c 4 (some 4)],
 .seq (.reg [⟨(some 4), none, .alloc [(.p (.int .i64 0)), (.p (.int .i64 0)), (.p (.str [])), .nils]⟩])
 (.seq (.seq (.reg [⟨(some 5), none, .mov (.t 1)⟩,
   ⟨(some 6), none, .len false (.t 5)⟩,
   ⟨(some 7), none, .bin .eql (.t 6) (.c (.p (.int .i64 0)))⟩,
   ⟨(some 8), none, .mov (.t 7)⟩,
   ⟨(some 9), (some (8, false)), .mov (.t 0)⟩,
   ⟨(some 10), (some (8, false)), .call n_spec_l30Rd_pick [(.t 9), (.c (.p (.int .i64 3)))]⟩,
   ⟨(some 11), (some (8, false)), .bin .eql (.t 10) (.c (.p (.int .i64 0)))⟩,
   ⟨(some 12), none, .pick (.t 8) (.c (.p (.bool true))) (.t 11)⟩])
 (.cond (.t 12)
  (.seq (.reg [⟨(some 13), none, .mov (.t 0)⟩,
    ⟨(some 14), none, .bsl 1 [(.p (.int .i64 0))] 10 [(0, 1, (.c (.p (.int .i64 0)))), (1, 1, (.c (.p (.int .i64 1)))), (2, 1, (.c (.p (.int .i64 2)))), (3, 1, (.c (.p (.int .i64 3)))), (4, 1, (.c (.p (.int .i64 5)))), (5, 1, (.c (.p (.int .i64 7)))), (6, 1, (.c (.p (.int .i64 15)))), (7, 1, (.c (.p (.int .i64 16)))), (8, 1, (.c (.p (.int .i64 100)))), (9, 1, (.c (.p (.int .i64 255))))]⟩,
    ⟨(some 15), none, .call n_spec_l30Rd_num [(.t 13), (.t 14)]⟩,
    ⟨(some 16), none, .bld [(.p (.int .i64 0)), (.p (.int .i64 0)), (.p (.str [])), .nils] [(0, 1, (.c (.p (.int .i64 1)))), (1, 1, (.t 15))]⟩,
    ⟨none, none, .st 4 (.t 4) (.t 16)⟩])
  (.ret))
  (.skip)))
 (.seq (.reg [⟨(some 17), none, .mov (.t 0)⟩,
   ⟨(some 18), none, .mov (.t 1)⟩,
   ⟨(some 19), none, .call n_spec_l30Rd_of [(.t 17), (.t 18)]⟩,
   ⟨(some 20), none, .bld [(.p (.int .i64 0)), (.p (.int .i64 0)), (.p (.str [])), .nils] [(0, 1, (.c (.p (.int .i64 2)))), (2, 1, (.t 19))]⟩,
   ⟨none, none, .st 4 (.t 4) (.t 20)⟩])
 (.ret)))⟩
theorem k_spec_l2Leaf : compF Tryd.prog n_spec_l2Leaf = some F_spec_l2Leaf := by kernel_rfl
def F_spec_l2Expr : FK := ⟨47, [.c 6 (some 4)],
 .seq (.reg [⟨(some 6), none, .alloc [(.p (.int .i64 0)), (.p (.int .i64 0)), (.p (.str [])), .nils]⟩])
 (.seq (.seq (.reg [⟨(some 8), none, .mov (.t 2)⟩,
   ⟨(some 9), none, .bin .lss (.t 8) (.c (.p (.int .i64 2)))⟩,
   ⟨(some 10), none, .mov (.t 9)⟩,
   ⟨(some 11), (some (10, false)), .mov (.t 0)⟩,
   ⟨(some 12), (some (10, false)), .call n_spec_l30Rd_pick [(.t 11), (.c (.p (.int .i64 4)))]⟩,
   ⟨(some 13), (some (10, false)), .bin .eql (.t 12) (.c (.p (.int .i64 0)))⟩,
   ⟨(some 14), none, .pick (.t 10) (.c (.p (.bool true))) (.t 13)⟩])
 (.cond (.t 14)
  (.seq (.reg [⟨(some 15), none, .mov (.t 0)⟩,
    ⟨(some 16), none, .mov (.t 1)⟩,
    ⟨(some 17), none, .call n_spec_l2Leaf [(.t 15), (.t 16)]⟩,
    ⟨none, none, .st 4 (.t 6) (.t 17)⟩])
  (.ret))
  (.skip)))
 (.seq (.seq (.reg [⟨(some 18), none, .mov (.t 0)⟩,
   ⟨(some 19), none, .call n_spec_l30Rd_pick [(.t 18), (.c (.p (.int .i64 7)))]⟩,
   ⟨(some 20), none, .bin .eql (.t 19) (.c (.p (.int .i64 0)))⟩])
 (.cond (.t 20)
  (.seq (.reg [⟨(some 21), none, .mov (.t 0)⟩,
    ⟨(some 22), none, .bsl 1 [(.p (.int .i64 0))] 3 [(0, 1, (.c (.p (.int .i64 11)))), (1, 1, (.c (.p (.int .i64 12)))), (2, 1, (.c (.p (.int .i64 11))))]⟩,
    ⟨(some 23), none, .call n_spec_l30Rd_num [(.t 21), (.t 22)]⟩,
    ⟨(some 24), none, .mov (.t 0)⟩,
    ⟨(some 25), none, .mov (.t 1)⟩,
    ⟨(some 26), none, .mov (.t 2)⟩,
    ⟨(some 27), none, .bin .sub (.t 26) (.c (.p (.int .i64 1)))⟩,
    ⟨(some 28), none, .call n_spec_l2Expr [(.t 24), (.t 25), (.t 27)]⟩,
    ⟨(some 29), none, .bsl 4 [(.p (.int .i64 0)), (.p (.int .i64 0)), (.p (.str [])), .nils] 1 [(0, 4, (.t 28))]⟩,
    ⟨(some 30), none, .bld [(.p (.int .i64 0)), (.p (.int .i64 0)), (.p (.str [])), .nils] [(0, 1, (.t 23)), (3, 1, (.t 29))]⟩,
    ⟨none, none, .st 4 (.t 6) (.t 30)⟩])
  (.ret))
  (.skip)))
 (.seq (.reg [⟨(some 31), none, .mov (.t 0)⟩,
   ⟨(some 32), none, .bsl 1 [(.p (.int .i64 0))] 9 [(0, 1, (.c (.p (.int .i64 3)))), (1, 1, (.c (.p (.int .i64 3)))), (2, 1, (.c (.p (.int .i64 4)))), (3, 1, (.c (.p (.int .i64 5)))), (4, 1, (.c (.p (.int .i64 6)))), (5, 1, (.c (.p (.int .i64 7)))), (6, 1, (.c (.p (.int .i64 8)))), (7, 1, (.c (.p (.int .i64 9)))), (8, 1, (.c (.p (.int .i64 10))))]⟩,
   ⟨(some 33), none, .call n_spec_l30Rd_num [(.t 31), (.t 32)]⟩,
   ⟨(some 7), none, .mov (.t 33)⟩])
 (.seq (.reg [⟨(some 34), none, .mov (.t 7)⟩,
   ⟨(some 35), none, .mov (.t 0)⟩,
   ⟨(some 36), none, .mov (.t 1)⟩,
   ⟨(some 37), none, .mov (.t 2)⟩,
   ⟨(some 38), none, .bin .sub (.t 37) (.c (.p (.int .i64 1)))⟩,
   ⟨(some 39), none, .call n_spec_l2Expr [(.t 35), (.t 36), (.t 38)]⟩,
   ⟨(some 40), none, .mov (.t 0)⟩,
   ⟨(some 41), none, .mov (.t 1)⟩,
   ⟨(some 42), none, .mov (.t 2)⟩,
   ⟨(some 43), none, .bin .sub (.t 42) (.c (.p (.int .i64 1)))⟩,
   ⟨(some 44), none, .call n_spec_l2Expr [(.t 40), (.t 41), (.t 43)]⟩,
   ⟨(some 45), none, .bsl 4 [(.p (.int .i64 0)), (.p (.int .i64 0)), (.p (.str [])), .nils] 2 [(0, 4, (.t 39)), (4, 4, (.t 44))]⟩,
   ⟨(some 46), none, .bld [(.p (.int .i64 0)), (.p (.int .i64 0)), (.p (.str [])), .nils] [(0, 1, (.t 34)), (3, 1, (.t 45))]⟩,
   ⟨none, none, .st 4 (.t 6) (.t 46)⟩])
 (.ret)))))⟩
theorem k_spec_l2Expr : compF Tryd.prog n_spec_l2Expr = some F_spec_l2Expr := by kernel_rfl
def F_spec_l3Gen_expr : FK := ⟨99, [.c 4 (some 4)],
 .seq (.reg [⟨(some 4), none, .alloc [(.p (.int .i64 0)), (.p (.int .i64 0)), (.p (.str [])), .nils]⟩])
 (.seq (.reg [⟨(some 5), none, .mov (.c .any)⟩,
   ⟨(some 9), none, .mov (.t 0)⟩,
   ⟨(some 10), none, .nilck (.t 9)⟩,
   ⟨(some 11), none, .fldA 0 (.t 10)⟩,
   ⟨(some 13), none, .mov (.t 0)⟩,
   ⟨(some 14), none, .nilck (.t 13)⟩,
   ⟨(some 15), none, .fldA 2 (.t 14)⟩,
   ⟨(some 17), none, .mov (.t 1)⟩,
   ⟨(some 12), none, .ld none (.t 11)⟩,
   ⟨(some 16), none, .ld none (.t 15)⟩,
   ⟨(some 18), none, .call n_spec_l2Expr [(.t 12), (.t 16), (.t 17)]⟩,
   ⟨(some 5), none, .alloc [(.p (.int .i64 0)), (.p (.int .i64 0)), (.p (.str [])), .nils]⟩,
   ⟨none, none, .st 4 (.t 5) (.t 18)⟩])
 (.seq (.seq (.reg [⟨(some 19), none, .mov (.t 0)⟩,
   ⟨(some 20), none, .nilck (.t 19)⟩,
   ⟨(some 21), none, .fldA 1 (.t 20)⟩,
   ⟨(some 22), none, .ld none (.t 21)⟩,
   ⟨(some 23), none, .len false (.t 22)⟩,
   ⟨(some 24), none, .bin .eql (.t 23) (.c (.p (.int .i64 0)))⟩,
   ⟨(some 25), none, .mov (.t 24)⟩,
   ⟨(some 26), (some (25, false)), .mov (.t 0)⟩,
   ⟨(some 27), (some (25, false)), .nilck (.t 26)⟩,
   ⟨(some 28), (some (25, false)), .fldA 0 (.t 27)⟩,
   ⟨(some 29), (some (25, false)), .ld none (.t 28)⟩,
   ⟨(some 30), (some (25, false)), .call n_spec_l30Rd_pick [(.t 29), (.c (.p (.int .i64 4)))]⟩,
   ⟨(some 31), (some (25, false)), .bin .gtr (.t 30) (.c (.p (.int .i64 0)))⟩,
   ⟨(some 32), none, .pick (.t 25) (.c (.p (.bool true))) (.t 31)⟩])
 (.cond (.t 32)
  (.seq (.reg [⟨(some 33), none, .ld (some 4) (.t 5)⟩,
    ⟨none, none, .st 4 (.t 4) (.t 33)⟩])
  (.ret))
  (.skip)))
 (.seq (.reg [⟨(some 6), none, .mov (.c .any)⟩,
   ⟨(some 34), none, .mov (.t 0)⟩,
   ⟨(some 35), none, .nilck (.t 34)⟩,
   ⟨(some 36), none, .fldA 1 (.t 35)⟩,
   ⟨(some 38), none, .mov (.t 0)⟩,
   ⟨(some 39), none, .nilck (.t 38)⟩,
   ⟨(some 40), none, .fldA 0 (.t 39)⟩,
   ⟨(some 42), none, .mov (.t 0)⟩,
   ⟨(some 43), none, .nilck (.t 42)⟩,
   ⟨(some 44), none, .fldA 1 (.t 43)⟩,
   ⟨(some 37), none, .ld none (.t 36)⟩,
   ⟨(some 41), none, .ld none (.t 40)⟩,
   ⟨(some 45), none, .ld none (.t 44)⟩,
   ⟨(some 46), none, .len false (.t 45)⟩,
   ⟨(some 47), none, .call n_spec_l30Rd_pick [(.t 41), (.t 46)]⟩,
   ⟨none, none, .chk none 36 37⟩,
   ⟨(some 48), none, .idxS 3 (.t 37) (.t 47)⟩,
   ⟨(some 49), none, .ld (some 3) (.t 48)⟩,
   ⟨(some 6), none, .alloc [(.p (.str [])), .nils, .nils]⟩,
   ⟨none, none, .st 3 (.t 6) (.t 49)⟩])
 (.seq (.reg [⟨(some 50), none, .fldA 0 (.t 6)⟩,
   ⟨(some 51), none, .ld none (.t 50)⟩,
   ⟨(some 52), none, .bld [(.p (.int .i64 0)), (.p (.int .i64 0)), (.p (.str [])), .nils] [(0, 1, (.c (.p (.int .i64 13)))), (2, 1, (.t 51))]⟩,
   ⟨(some 7), none, .alloc [(.p (.int .i64 0)), (.p (.int .i64 0)), (.p (.str [])), .nils]⟩,
   ⟨none, none, .st 4 (.t 7) (.t 52)⟩])
 (.seq (.seq (.reg [⟨(some 8), none, .mov (.c (.p (.int .i64 0)))⟩])
 (.blk 0 (.loop (.seq (.seq (.reg [⟨(some 53), none, .mov (.t 8)⟩,
   ⟨(some 54), none, .fldA 1 (.t 6)⟩,
   ⟨(some 55), none, .ld none (.t 54)⟩,
   ⟨(some 56), none, .len false (.t 55)⟩,
   ⟨(some 57), none, .bin .lss (.t 53) (.t 56)⟩])
 (.cond (.t 57)
  (.skip)
  (.exit 0)))
 (.seq (.blk 1 (.reg [⟨(some 60), none, .fldA 3 (.t 7)⟩,
   ⟨(some 62), none, .mov (.t 0)⟩,
   ⟨(some 63), none, .nilck (.t 62)⟩,
   ⟨(some 64), none, .fldA 0 (.t 63)⟩,
   ⟨(some 66), none, .mov (.t 0)⟩,
   ⟨(some 67), none, .nilck (.t 66)⟩,
   ⟨(some 68), none, .fldA 2 (.t 67)⟩,
   ⟨(some 61), none, .ld none (.t 60)⟩,
   ⟨(some 65), none, .ld none (.t 64)⟩,
   ⟨(some 69), none, .ld none (.t 68)⟩,
   ⟨(some 70), none, .call n_spec_l2Expr [(.t 65), (.t 69), (.c (.p (.int .i64 2)))]⟩,
   ⟨none, none, .chk none 60 61⟩,
   ⟨(some 71), none, .bslP 4 [(.p (.int .i64 0)), (.p (.int .i64 0)), (.p (.str [])), .nils] 1 [(0, 4, (.t 70))]⟩,
   ⟨(some 72), none, .app 4 56 (.t 61) (.t 71)⟩,
   ⟨(some 73), none, .fldA 3 (.t 7)⟩,
   ⟨none, none, .st 1 (.t 73) (.t 72)⟩]))
 (.reg [⟨(some 58), none, .mov (.t 8)⟩,
   ⟨(some 59), none, .bin .add (.t 58) (.c (.p (.int .i64 1)))⟩,
   ⟨(some 8), none, .mov (.t 59)⟩]))))))
 (.seq (.seq (.reg [⟨(some 74), none, .mov (.t 0)⟩,
   ⟨(some 75), none, .nilck (.t 74)⟩,
   ⟨(some 76), none, .fldA 0 (.t 75)⟩,
   ⟨(some 77), none, .ld none (.t 76)⟩,
   ⟨(some 78), none, .call n_spec_l30Rd_pick [(.t 77), (.c (.p (.int .i64 2)))]⟩,
   ⟨(some 79), none, .bin .eql (.t 78) (.c (.p (.int .i64 0)))⟩])
 (.cond (.t 79)
  (.seq (.reg [⟨(some 80), none, .ld (some 4) (.t 7)⟩,
    ⟨none, none, .st 4 (.t 4) (.t 80)⟩])
  (.ret))
  (.skip)))
 (.seq (.reg [⟨(some 81), none, .mov (.t 0)⟩,
   ⟨(some 82), none, .nilck (.t 81)⟩,
   ⟨(some 83), none, .fldA 0 (.t 82)⟩,
   ⟨(some 85), none, .bslP 1 [(.p (.int .i64 0))] 4 [(0, 1, (.c (.p (.int .i64 3)))), (1, 1, (.c (.p (.int .i64 4)))), (2, 1, (.c (.p (.int .i64 8)))), (3, 1, (.c (.p (.int .i64 10))))]⟩,
   ⟨(some 88), none, .mov (.t 0)⟩,
   ⟨(some 89), none, .nilck (.t 88)⟩,
   ⟨(some 90), none, .fldA 0 (.t 89)⟩,
   ⟨(some 92), none, .mov (.t 0)⟩,
   ⟨(some 93), none, .nilck (.t 92)⟩,
   ⟨(some 94), none, .fldA 2 (.t 93)⟩,
   ⟨(some 84), none, .ld none (.t 83)⟩,
   ⟨(some 87), none, .ld (some 4) (.t 7)⟩,
   ⟨(some 91), none, .ld none (.t 90)⟩,
   ⟨(some 95), none, .ld none (.t 94)⟩,
   ⟨(some 86), none, .call n_spec_l30Rd_num [(.t 84), (.t 85)]⟩,
   ⟨none, none, .chk (some 4) 7 87⟩,
   ⟨none, none, .chk none 90 91⟩,
   ⟨none, none, .chk none 94 95⟩,
   ⟨(some 96), none, .call n_spec_l2Expr [(.t 91), (.t 95), (.c (.p (.int .i64 2)))]⟩,
   ⟨none, none, .chk (some 4) 7 87⟩,
   ⟨(some 97), none, .bsl 4 [(.p (.int .i64 0)), (.p (.int .i64 0)), (.p (.str [])), .nils] 2 [(0, 4, (.t 87)), (4, 4, (.t 96))]⟩,
   ⟨(some 98), none, .bld [(.p (.int .i64 0)), (.p (.int .i64 0)), (.p (.str [])), .nils] [(0, 1, (.t 86)), (3, 1, (.t 97))]⟩,
   ⟨none, none, .st 4 (.t 4) (.t 98)⟩])
 (.ret))))))))⟩
theorem k_spec_l3Gen_expr : compF Tryd.prog n_spec_l3Gen_expr = some F_spec_l3Gen_expr := by kernel_rfl
def F_spec_l3Gen_fresh : FK := ⟨46, [.t 2],
 .seq (.reg [⟨(some 2), none, .mov (.c (.p (.str [])))⟩])
 (.seq (.reg [⟨(some 3), none, .mov (.t 0)⟩,
   ⟨(some 4), none, .mov (.t 0)⟩,
   ⟨(some 5), none, .nilck (.t 4)⟩,
   ⟨(some 6), none, .fldA 3 (.t 5)⟩,
   ⟨(some 7), none, .ld none (.t 6)⟩,
   ⟨(some 8), none, .bin .add (.t 7) (.c (.p (.int .i64 1)))⟩,
   ⟨(some 9), none, .nilck (.t 3)⟩,
   ⟨(some 10), none, .fldA 3 (.t 9)⟩,
   ⟨none, none, .st 1 (.t 10) (.t 8)⟩])
 (.seq (.seq (.reg [⟨(some 11), none, .mov (.t 0)⟩,
   ⟨(some 12), none, .nilck (.t 11)⟩,
   ⟨(some 13), none, .fldA 0 (.t 12)⟩,
   ⟨(some 14), none, .ld none (.t 13)⟩,
   ⟨(some 15), none, .call n_spec_l30Rd_pick [(.t 14), (.c (.p (.int .i64 9)))]⟩,
   ⟨(some 16), none, .bin .eql (.t 15) (.c (.p (.int .i64 0)))⟩,
   ⟨(some 17), none, .mov (.t 16)⟩,
   ⟨(some 18), (some (17, true)), .mov (.t 0)⟩,
   ⟨(some 19), (some (17, true)), .nilck (.t 18)⟩,
   ⟨(some 20), (some (17, true)), .fldA 2 (.t 19)⟩,
   ⟨(some 21), (some (17, true)), .ld none (.t 20)⟩,
   ⟨(some 22), (some (17, true)), .len false (.t 21)⟩,
   ⟨(some 23), (some (17, true)), .bin .gtr (.t 22) (.c (.p (.int .i64 0)))⟩,
   ⟨(some 24), none, .pick (.t 17) (.t 23) (.c (.p (.bool false)))⟩])
 (.cond (.t 24)
  (.seq (.reg [⟨(some 25), none, .mov (.t 0)⟩,
    ⟨(some 26), none, .nilck (.t 25)⟩,
    ⟨(some 27), none, .fldA 0 (.t 26)⟩,
    ⟨(some 29), none, .mov (.t 0)⟩,
    ⟨(some 30), none, .nilck (.t 29)⟩,
    ⟨(some 31), none, .fldA 2 (.t 30)⟩,
    ⟨(some 28), none, .ld none (.t 27)⟩,
    ⟨(some 32), none, .ld none (.t 31)⟩,
    ⟨(some 33), none, .call n_spec_l30Rd_of [(.t 28), (.t 32)]⟩,
    ⟨(some 2), none, .mov (.t 33)⟩])
  (.ret))
  (.skip)))
 (.seq (.reg [⟨(some 34), none, .mov (.t 0)⟩,
   ⟨(some 35), none, .nilck (.t 34)⟩,
   ⟨(some 36), none, .fldA 3 (.t 35)⟩,
   ⟨(some 39), none, .mov (.t 0)⟩,
   ⟨(some 40), none, .nilck (.t 39)⟩,
   ⟨(some 41), none, .fldA 3 (.t 40)⟩,
   ⟨(some 37), none, .ld none (.t 36)⟩,
   ⟨(some 38), none, .bin .rem (.t 37) (.c (.p (.int .i64 24)))⟩,
   ⟨(some 42), none, .ld none (.t 41)⟩,
   ⟨(some 43), none, .bin .rem (.t 42) (.c (.p (.int .i64 24)))⟩,
   ⟨(some 44), none, .bin .add (.t 43) (.c (.p (.int .i64 1)))⟩,
   ⟨(some 45), none, .slStr (.c (.p (.str [97, 98, 99, 100, 101, 103, 104, 105, 106, 107, 108, 109, 110, 112, 113, 114, 115, 116, 117, 118, 119, 120, 121, 122]))) (some (.t 38)) (some (.t 44))⟩,
   ⟨(some 2), none, .mov (.t 45)⟩])
 (.ret))))⟩
theorem k_spec_l3Gen_fresh : compF Tryd.prog n_spec_l3Gen_fresh = some F_spec_l3Gen_fresh := by kernel_rfl
def F_spec_l3Gen_let : FK := ⟨24, [.c 4 (some 5)],
 .seq (.reg [⟨(some 3), none, .box 4 (.t 1)⟩,
   ⟨(some 4), none, .alloc [(.p (.int .i64 0)), (.p (.str [])), .nils, .nils, .nils]⟩])
 (.seq (.reg [⟨(some 6), none, .mov (.t 0)⟩,
   ⟨(some 7), none, .call n_spec_l3Gen_fresh [(.t 6)]⟩,
   ⟨(some 5), none, .mov (.t 7)⟩])
 (.seq (.reg [⟨(some 8), none, .mov (.t 0)⟩,
   ⟨(some 9), none, .bsl 1 [(.p (.str []))] 0 []⟩,
   ⟨(some 10), none, .mov (.t 0)⟩,
   ⟨(some 11), none, .nilck (.t 10)⟩,
   ⟨(some 12), none, .fldA 2 (.t 11)⟩,
   ⟨(some 13), none, .ld none (.t 12)⟩,
   ⟨(some 14), none, .app 1 16 (.t 9) (.t 13)⟩,
   ⟨(some 15), none, .mov (.t 5)⟩,
   ⟨(some 16), none, .bsl 1 [(.p (.str []))] 1 [(0, 1, (.t 15))]⟩,
   ⟨(some 17), none, .app 1 16 (.t 14) (.t 16)⟩,
   ⟨(some 18), none, .nilck (.t 8)⟩,
   ⟨(some 19), none, .fldA 2 (.t 18)⟩,
   ⟨none, none, .st 1 (.t 19) (.t 17)⟩])
 (.seq (.reg [⟨(some 20), none, .mov (.t 5)⟩,
   ⟨(some 21), none, .ld (some 4) (.t 3)⟩,
   ⟨(some 22), none, .bsl 4 [(.p (.int .i64 0)), (.p (.int .i64 0)), (.p (.str [])), .nils] 1 [(0, 4, (.t 21))]⟩,
   ⟨(some 23), none, .bld [(.p (.int .i64 0)), (.p (.str [])), .nils, .nils, .nils] [(0, 1, (.c (.p (.int .i64 1)))), (1, 1, (.t 20)), (2, 1, (.t 22))]⟩,
   ⟨none, none, .st 5 (.t 4) (.t 23)⟩])
 (.ret))))⟩
theorem k_spec_l3Gen_let : compF Tryd.prog n_spec_l3Gen_let = some F_spec_l3Gen_let := by kernel_rfl
def F_spec_l3Gen_cell : FK := ⟨14, [.c 2 (some 4)],
 .seq (.reg [⟨(some 2), none, .alloc [(.p (.int .i64 0)), (.p (.int .i64 0)), (.p (.str [])), .nils]⟩])
 (.seq (.reg [⟨(some 3), none, .mov (.t 0)⟩,
   ⟨(some 5), none, .mov (.t 0)⟩,
   ⟨(some 6), none, .nilck (.t 5)⟩,
   ⟨(some 7), none, .fldA 0 (.t 6)⟩,
   ⟨(some 9), none, .bslP 1 [(.p (.int .i64 0))] 6 [(0, 1, (.c (.p (.int .i64 16)))), (1, 1, (.c (.p (.int .i64 16)))), (2, 1, (.c (.p (.int .i64 16)))), (3, 1, (.c (.p (.int .i64 8)))), (4, 1, (.c (.p (.int .i64 17)))), (5, 1, (.c (.p (.int .i64 0))))]⟩,
   ⟨(some 8), none, .ld none (.t 7)⟩,
   ⟨(some 4), none, .call n_spec_l3Gen_expr [(.t 3), (.c (.p (.int .i64 2)))]⟩,
   ⟨none, none, .chk none 7 8⟩,
   ⟨(some 10), none, .call n_spec_l30Rd_num [(.t 8), (.t 9)]⟩,
   ⟨(some 11), none, .bld [(.p (.int .i64 0)), (.p (.int .i64 0)), (.p (.str [])), .nils] [(0, 1, (.c (.p (.int .i64 1)))), (1, 1, (.t 10))]⟩,
   ⟨(some 12), none, .bsl 4 [(.p (.int .i64 0)), (.p (.int .i64 0)), (.p (.str [])), .nils] 2 [(0, 4, (.t 4)), (4, 4, (.t 11))]⟩,
   ⟨(some 13), none, .bld [(.p (.int .i64 0)), (.p (.int .i64 0)), (.p (.str [])), .nils] [(0, 1, (.c (.p (.int .i64 7)))), (3, 1, (.t 12))]⟩,
   ⟨none, none, .st 4 (.t 2) (.t 13)⟩])
 (.ret))⟩
theorem k_spec_l3Gen_cell : compF Tryd.prog n_spec_l3Gen_cell = some F_spec_l3Gen_cell := by kernel_rfl
def F_spec_l3Gen_loop : FK := ⟨50, [.t 4],
 .seq (.reg [⟨(some 4), none, .mov (.c .nils)⟩])
 (.seq (.reg [⟨(some 9), none, .mov (.t 0)⟩,
   ⟨(some 10), none, .mov (.t 0)⟩,
   ⟨(some 11), none, .nilck (.t 10)⟩,
   ⟨(some 12), none, .fldA 0 (.t 11)⟩,
   ⟨(some 13), none, .ld none (.t 12)⟩,
   ⟨(some 14), none, .bsl 1 [(.p (.int .i64 0))] 5 [(0, 1, (.c (.p (.int .i64 2)))), (1, 1, (.c (.p (.int .i64 3)))), (2, 1, (.c (.p (.int .i64 1)))), (3, 1, (.c (.p (.int .i64 0)))), (4, 1, (.c (.p (.int .i64 5))))]⟩,
   ⟨(some 15), none, .call n_spec_l30Rd_num [(.t 13), (.t 14)]⟩,
   ⟨(some 16), none, .bld [(.p (.int .i64 0)), (.p (.int .i64 0)), (.p (.str [])), .nils] [(0, 1, (.c (.p (.int .i64 1)))), (1, 1, (.t 15))]⟩,
   ⟨(some 17), none, .call n_spec_l3Gen_let [(.t 9), (.t 16)]⟩,
   ⟨(some 5), none, .alloc [(.p (.int .i64 0)), (.p (.str [])), .nils, .nils, .nils]⟩,
   ⟨none, none, .st 5 (.t 5) (.t 17)⟩])
 (.seq (.reg [⟨(some 18), none, .fldA 1 (.t 5)⟩,
   ⟨(some 19), none, .ld none (.t 18)⟩,
   ⟨(some 20), none, .bld [(.p (.int .i64 0)), (.p (.int .i64 0)), (.p (.str [])), .nils] [(0, 1, (.c (.p (.int .i64 2)))), (2, 1, (.t 19))]⟩,
   ⟨(some 6), none, .alloc [(.p (.int .i64 0)), (.p (.int .i64 0)), (.p (.str [])), .nils]⟩,
   ⟨none, none, .st 4 (.t 6) (.t 20)⟩])
 (.seq (.reg [⟨(some 21), none, .mov (.t 0)⟩,
   ⟨(some 22), none, .mov (.t 1)⟩,
   ⟨(some 23), none, .bin .sub (.t 22) (.c (.p (.int .i64 1)))⟩,
   ⟨(some 24), none, .call n_spec_l3Gen_block [(.t 21), (.t 23)]⟩,
   ⟨(some 7), none, .mov (.t 24)⟩])
 (.seq (.reg [⟨(some 25), none, .fldA 1 (.t 5)⟩,
   ⟨(some 26), none, .ld none (.t 25)⟩,
   ⟨(some 27), none, .ld (some 4) (.t 6)⟩,
   ⟨(some 28), none, .bld [(.p (.int .i64 0)), (.p (.int .i64 0)), (.p (.str [])), .nils] [(0, 1, (.c (.p (.int .i64 1)))), (1, 1, (.c (.p (.int .i64 1))))]⟩,
   ⟨(some 29), none, .bsl 4 [(.p (.int .i64 0)), (.p (.int .i64 0)), (.p (.str [])), .nils] 2 [(0, 4, (.t 27)), (4, 4, (.t 28))]⟩,
   ⟨(some 30), none, .bld [(.p (.int .i64 0)), (.p (.int .i64 0)), (.p (.str [])), .nils] [(0, 1, (.c (.p (.int .i64 4)))), (3, 1, (.t 29))]⟩,
   ⟨(some 31), none, .bsl 4 [(.p (.int .i64 0)), (.p (.int .i64 0)), (.p (.str [])), .nils] 1 [(0, 4, (.t 30))]⟩,
   ⟨(some 32), none, .bld [(.p (.int .i64 0)), (.p (.str [])), .nils, .nils, .nils] [(0, 1, (.c (.p (.int .i64 2)))), (1, 1, (.t 26)), (2, 1, (.t 31))]⟩,
   ⟨(some 8), none, .alloc [(.p (.int .i64 0)), (.p (.str [])), .nils, .nils, .nils]⟩,
   ⟨none, none, .st 5 (.t 8) (.t 32)⟩])
 (.seq (.reg [⟨(some 33), none, .mov (.t 0)⟩,
   ⟨(some 34), none, .mov (.t 0)⟩,
   ⟨(some 35), none, .nilck (.t 34)⟩,
   ⟨(some 36), none, .fldA 4 (.t 35)⟩,
   ⟨(some 37), none, .ld none (.t 36)⟩,
   ⟨(some 38), none, .bin .sub (.t 37) (.c (.p (.int .i64 2)))⟩,
   ⟨(some 39), none, .nilck (.t 33)⟩,
   ⟨(some 40), none, .fldA 4 (.t 39)⟩,
   ⟨none, none, .st 1 (.t 40) (.t 38)⟩])
 (.seq (.reg [⟨(some 44), none, .mov (.t 7)⟩,
   ⟨(some 41), none, .ld (some 5) (.t 5)⟩,
   ⟨(some 42), none, .ld (some 4) (.t 6)⟩,
   ⟨(some 43), none, .bslP 4 [(.p (.int .i64 0)), (.p (.int .i64 0)), (.p (.str [])), .nils] 1 [(0, 4, (.t 42))]⟩,
   ⟨(some 45), none, .ld (some 5) (.t 8)⟩,
   ⟨(some 46), none, .bslP 5 [(.p (.int .i64 0)), (.p (.str [])), .nils, .nils, .nils] 1 [(0, 5, (.t 45))]⟩,
   ⟨(some 47), none, .app 5 96 (.t 44) (.t 46)⟩,
   ⟨none, none, .chk (some 5) 5 41⟩,
   ⟨none, none, .chk (some 4) 6 42⟩,
   ⟨(some 48), none, .bld [(.p (.int .i64 0)), (.p (.str [])), .nils, .nils, .nils] [(0, 1, (.c (.p (.int .i64 6)))), (2, 1, (.t 43)), (3, 1, (.t 47))]⟩,
   ⟨(some 49), none, .bsl 5 [(.p (.int .i64 0)), (.p (.str [])), .nils, .nils, .nils] 2 [(0, 5, (.t 41)), (5, 5, (.t 48))]⟩,
   ⟨(some 4), none, .mov (.t 49)⟩])
 (.ret)))))))⟩
theorem k_spec_l3Gen_loop : compF Tryd.prog n_spec_l3Gen_loop = some F_spec_l3Gen_loop := by kernel_rfl
def F_spec_l3Gen_some : FK := ⟨128, [.t 4],
 .seq (.reg [⟨(some 4), none, .mov (.c .nils)⟩])
 (.seq (.reg [⟨(some 7), none, .mov (.t 0)⟩,
   ⟨(some 8), none, .mov (.t 0)⟩,
   ⟨(some 9), none, .nilck (.t 8)⟩,
   ⟨(some 10), none, .fldA 4 (.t 9)⟩,
   ⟨(some 11), none, .ld none (.t 10)⟩,
   ⟨(some 12), none, .bin .sub (.t 11) (.c (.p (.int .i64 1)))⟩,
   ⟨(some 13), none, .nilck (.t 7)⟩,
   ⟨(some 14), none, .fldA 4 (.t 13)⟩,
   ⟨none, none, .st 1 (.t 14) (.t 12)⟩])
 (.seq (.reg [⟨(some 15), none, .mov (.t 0)⟩,
   ⟨(some 16), none, .nilck (.t 15)⟩,
   ⟨(some 17), none, .fldA 0 (.t 16)⟩,
   ⟨(some 18), none, .ld none (.t 17)⟩,
   ⟨(some 19), none, .call n_spec_l30Rd_pick [(.t 18), (.c (.p (.int .i64 13)))]⟩,
   ⟨(some 5), none, .mov (.t 19)⟩])
 (.seq (.blk 0 (.seq (.reg [⟨(some 21), none, .mov (.t 5)⟩,
   ⟨(some 22), none, .bin .lss (.t 21) (.c (.p (.int .i64 3)))⟩,
   ⟨(some 23), none, .mov (.t 22)⟩,
   ⟨(some 24), (some (23, true)), .mov (.t 0)⟩,
   ⟨(some 25), (some (23, true)), .nilck (.t 24)⟩,
   ⟨(some 26), (some (23, true)), .fldA 2 (.t 25)⟩,
   ⟨(some 27), (some (23, true)), .ld none (.t 26)⟩,
   ⟨(some 28), (some (23, true)), .len false (.t 27)⟩,
   ⟨(some 29), (some (23, true)), .bin .gtr (.t 28) (.c (.p (.int .i64 0)))⟩,
   ⟨(some 30), none, .pick (.t 23) (.t 29) (.c (.p (.bool false)))⟩,
   ⟨(some 20), none, .mov (.t 30)⟩])
 (.cond (.t 20)
  (.seq (.reg [⟨(some 31), none, .mov (.t 0)⟩,
    ⟨(some 32), none, .nilck (.t 31)⟩,
    ⟨(some 33), none, .fldA 0 (.t 32)⟩,
    ⟨(some 35), none, .mov (.t 0)⟩,
    ⟨(some 36), none, .nilck (.t 35)⟩,
    ⟨(some 37), none, .fldA 2 (.t 36)⟩,
    ⟨(some 40), none, .mov (.t 0)⟩,
    ⟨(some 34), none, .ld none (.t 33)⟩,
    ⟨(some 38), none, .ld none (.t 37)⟩,
    ⟨(some 39), none, .call n_spec_l30Rd_of [(.t 34), (.t 38)]⟩,
    ⟨(some 41), none, .call n_spec_l3Gen_expr [(.t 40), (.c (.p (.int .i64 3)))]⟩,
    ⟨(some 42), none, .bsl 4 [(.p (.int .i64 0)), (.p (.int .i64 0)), (.p (.str [])), .nils] 1 [(0, 4, (.t 41))]⟩,
    ⟨(some 43), none, .bld [(.p (.int .i64 0)), (.p (.str [])), .nils, .nils, .nils] [(0, 1, (.c (.p (.int .i64 2)))), (1, 1, (.t 39)), (2, 1, (.t 42))]⟩,
    ⟨(some 44), none, .bsl 5 [(.p (.int .i64 0)), (.p (.str [])), .nils, .nils, .nils] 1 [(0, 5, (.t 43))]⟩,
    ⟨(some 4), none, .mov (.t 44)⟩])
  (.ret))
  (.seq (.reg [⟨(some 46), none, .mov (.t 5)⟩,
    ⟨(some 47), none, .bin .lss (.t 46) (.c (.p (.int .i64 5)))⟩,
    ⟨(some 45), none, .mov (.t 47)⟩])
  (.cond (.t 45)
   (.seq (.reg [⟨(some 48), none, .mov (.t 0)⟩,
     ⟨(some 49), none, .mov (.t 0)⟩,
     ⟨(some 50), none, .call n_spec_l3Gen_expr [(.t 49), (.c (.p (.int .i64 3)))]⟩,
     ⟨(some 51), none, .call n_spec_l3Gen_let [(.t 48), (.t 50)]⟩,
     ⟨(some 52), none, .bsl 5 [(.p (.int .i64 0)), (.p (.str [])), .nils, .nils, .nils] 1 [(0, 5, (.t 51))]⟩,
     ⟨(some 4), none, .mov (.t 52)⟩])
   (.ret))
   (.seq (.reg [⟨(some 54), none, .mov (.t 5)⟩,
     ⟨(some 55), none, .bin .lss (.t 54) (.c (.p (.int .i64 7)))⟩,
     ⟨(some 56), none, .mov (.t 55)⟩,
     ⟨(some 57), (some (56, false)), .mov (.t 1)⟩,
     ⟨(some 58), (some (56, false)), .bin .lss (.t 57) (.c (.p (.int .i64 2)))⟩,
     ⟨(some 59), none, .pick (.t 56) (.c (.p (.bool true))) (.t 58)⟩,
     ⟨(some 53), none, .mov (.t 59)⟩])
   (.cond (.t 53)
    (.seq (.reg [⟨(some 60), none, .mov (.t 0)⟩,
      ⟨(some 61), none, .call n_spec_l3Gen_expr [(.t 60), (.c (.p (.int .i64 3)))]⟩,
      ⟨(some 62), none, .bsl 4 [(.p (.int .i64 0)), (.p (.int .i64 0)), (.p (.str [])), .nils] 1 [(0, 4, (.t 61))]⟩,
      ⟨(some 63), none, .bld [(.p (.int .i64 0)), (.p (.str [])), .nils, .nils, .nils] [(0, 1, (.c (.p (.int .i64 3)))), (2, 1, (.t 62))]⟩,
      ⟨(some 64), none, .bsl 5 [(.p (.int .i64 0)), (.p (.str [])), .nils, .nils, .nils] 1 [(0, 5, (.t 63))]⟩,
      ⟨(some 4), none, .mov (.t 64)⟩])
    (.ret))
    (.seq (.reg [⟨(some 66), none, .mov (.t 5)⟩,
      ⟨(some 67), none, .bin .eql (.t 66) (.c (.p (.int .i64 7)))⟩,
      ⟨(some 65), none, .mov (.t 67)⟩])
    (.cond (.t 65)
     (.seq (.reg [⟨(some 68), none, .mov (.t 0)⟩,
       ⟨(some 69), none, .call n_spec_l3Gen_cell [(.t 68)]⟩,
       ⟨(some 70), none, .mov (.t 0)⟩,
       ⟨(some 71), none, .call n_spec_l3Gen_expr [(.t 70), (.c (.p (.int .i64 2)))]⟩,
       ⟨(some 72), none, .bsl 4 [(.p (.int .i64 0)), (.p (.int .i64 0)), (.p (.str [])), .nils] 2 [(0, 4, (.t 69)), (4, 4, (.t 71))]⟩,
       ⟨(some 73), none, .bld [(.p (.int .i64 0)), (.p (.str [])), .nils, .nils, .nils] [(0, 1, (.c (.p (.int .i64 4)))), (2, 1, (.t 72))]⟩,
       ⟨(some 74), none, .bsl 5 [(.p (.int .i64 0)), (.p (.str [])), .nils, .nils, .nils] 1 [(0, 5, (.t 73))]⟩,
       ⟨(some 4), none, .mov (.t 74)⟩])
     (.ret))
     (.seq (.reg [⟨(some 76), none, .mov (.t 5)⟩,
       ⟨(some 77), none, .bin .eql (.t 76) (.c (.p (.int .i64 8)))⟩,
       ⟨(some 75), none, .mov (.t 77)⟩])
     (.cond (.t 75)
      (.seq (.reg [⟨(some 78), none, .mov (.t 0)⟩,
        ⟨(some 79), none, .call n_spec_l3Gen_cell [(.t 78)]⟩,
        ⟨(some 80), none, .bsl 4 [(.p (.int .i64 0)), (.p (.int .i64 0)), (.p (.str [])), .nils] 1 [(0, 4, (.t 79))]⟩,
        ⟨(some 81), none, .bld [(.p (.int .i64 0)), (.p (.int .i64 0)), (.p (.str [])), .nils] [(0, 1, (.c (.p (.int .i64 12)))), (3, 1, (.t 80))]⟩,
        ⟨(some 82), none, .bsl 4 [(.p (.int .i64 0)), (.p (.int .i64 0)), (.p (.str [])), .nils] 1 [(0, 4, (.t 81))]⟩,
        ⟨(some 83), none, .bld [(.p (.int .i64 0)), (.p (.str [])), .nils, .nils, .nils] [(0, 1, (.c (.p (.int .i64 3)))), (2, 1, (.t 82))]⟩,
        ⟨(some 84), none, .bsl 5 [(.p (.int .i64 0)), (.p (.str [])), .nils, .nils, .nils] 1 [(0, 5, (.t 83))]⟩,
        ⟨(some 4), none, .mov (.t 84)⟩])
      (.ret))
      (.seq (.reg [⟨(some 86), none, .mov (.t 5)⟩,
        ⟨(some 87), none, .bin .lss (.t 86) (.c (.p (.int .i64 11)))⟩,
        ⟨(some 85), none, .mov (.t 87)⟩])
      (.cond (.t 85)
       (.seq (.reg [⟨(some 88), none, .mov (.t 0)⟩,
         ⟨(some 89), none, .call n_spec_l3Gen_expr [(.t 88), (.c (.p (.int .i64 3)))]⟩,
         ⟨(some 90), none, .bsl 4 [(.p (.int .i64 0)), (.p (.int .i64 0)), (.p (.str [])), .nils] 1 [(0, 4, (.t 89))]⟩,
         ⟨(some 91), none, .mov (.t 0)⟩,
         ⟨(some 92), none, .mov (.t 1)⟩,
         ⟨(some 93), none, .bin .sub (.t 92) (.c (.p (.int .i64 1)))⟩,
         ⟨(some 94), none, .call n_spec_l3Gen_block [(.t 91), (.t 93)]⟩,
         ⟨(some 95), none, .bld [(.p (.int .i64 0)), (.p (.str [])), .nils, .nils, .nils] [(0, 1, (.c (.p (.int .i64 5)))), (2, 1, (.t 90)), (3, 1, (.t 94))]⟩,
         ⟨(some 6), none, .alloc [(.p (.int .i64 0)), (.p (.str [])), .nils, .nils, .nils]⟩,
         ⟨none, none, .st 5 (.t 6) (.t 95)⟩])
       (.seq (.seq (.reg [⟨(some 96), none, .mov (.t 0)⟩,
         ⟨(some 97), none, .nilck (.t 96)⟩,
         ⟨(some 98), none, .fldA 0 (.t 97)⟩,
         ⟨(some 99), none, .ld none (.t 98)⟩,
         ⟨(some 100), none, .call n_spec_l30Rd_pick [(.t 99), (.c (.p (.int .i64 2)))]⟩,
         ⟨(some 101), none, .bin .eql (.t 100) (.c (.p (.int .i64 0)))⟩])
       (.cond (.t 101)
        (.reg [⟨(some 102), none, .mov (.t 0)⟩,
          ⟨(some 103), none, .mov (.t 1)⟩,
          ⟨(some 104), none, .bin .sub (.t 103) (.c (.p (.int .i64 1)))⟩,
          ⟨(some 105), none, .call n_spec_l3Gen_block [(.t 102), (.t 104)]⟩,
          ⟨(some 106), none, .fldA 4 (.t 6)⟩,
          ⟨none, none, .st 1 (.t 106) (.t 105)⟩])
        (.skip)))
       (.seq (.reg [⟨(some 107), none, .ld (some 5) (.t 6)⟩,
         ⟨(some 108), none, .bsl 5 [(.p (.int .i64 0)), (.p (.str [])), .nils, .nils, .nils] 1 [(0, 5, (.t 107))]⟩,
         ⟨(some 4), none, .mov (.t 108)⟩])
       (.ret))))
       (.seq (.reg [⟨(some 110), none, .mov (.t 5)⟩,
         ⟨(some 111), none, .bin .eql (.t 110) (.c (.p (.int .i64 11)))⟩,
         ⟨(some 112), none, .mov (.t 111)⟩,
         ⟨(some 113), (some (112, true)), .mov (.t 0)⟩,
         ⟨(some 114), (some (112, true)), .nilck (.t 113)⟩,
         ⟨(some 115), (some (112, true)), .fldA 0 (.t 114)⟩,
         ⟨(some 116), (some (112, true)), .ld none (.t 115)⟩,
         ⟨(some 117), (some (112, true)), .call n_spec_l30Rd_pick [(.t 116), (.c (.p (.int .i64 3)))]⟩,
         ⟨(some 118), (some (112, true)), .bin .eql (.t 117) (.c (.p (.int .i64 0)))⟩,
         ⟨(some 119), none, .pick (.t 112) (.t 118) (.c (.p (.bool false)))⟩,
         ⟨(some 109), none, .mov (.t 119)⟩])
       (.cond (.t 109)
        (.seq (.reg [⟨(some 120), none, .mov (.t 0)⟩,
          ⟨(some 121), none, .call n_spec_l3Gen_expr [(.t 120), (.c (.p (.int .i64 2)))]⟩,
          ⟨(some 122), none, .bsl 4 [(.p (.int .i64 0)), (.p (.int .i64 0)), (.p (.str [])), .nils] 1 [(0, 4, (.t 121))]⟩,
          ⟨(some 123), none, .bld [(.p (.int .i64 0)), (.p (.str [])), .nils, .nils, .nils] [(0, 1, (.c (.p (.int .i64 7)))), (2, 1, (.t 122))]⟩,
          ⟨(some 124), none, .bsl 5 [(.p (.int .i64 0)), (.p (.str [])), .nils, .nils, .nils] 1 [(0, 5, (.t 123))]⟩,
          ⟨(some 4), none, .mov (.t 124)⟩])
        (.ret))
        (.skip))))))))))))))))
 (.seq (.reg [⟨(some 125), none, .mov (.t 0)⟩,
   ⟨(some 126), none, .mov (.t 1)⟩,
   ⟨(some 127), none, .call n_spec_l3Gen_loop [(.t 125), (.t 126)]⟩,
   ⟨(some 4), none, .mov (.t 127)⟩])
 (.ret)))))⟩
theorem k_spec_l3Gen_some : compF Tryd.prog n_spec_l3Gen_some = some F_spec_l3Gen_some := by kernel_rfl
def F_spec_l3Gen_block : FK := ⟨40, [.t 4],
 .seq (.reg [⟨(some 4), none, .mov (.c .nils)⟩])
 (.seq (.reg [⟨(some 8), none, .mov (.t 0)⟩,
   ⟨(some 9), none, .nilck (.t 8)⟩,
   ⟨(some 10), none, .fldA 2 (.t 9)⟩,
   ⟨(some 11), none, .ld none (.t 10)⟩,
   ⟨(some 5), none, .mov (.t 11)⟩])
 (.seq (.reg [⟨(some 12), none, .bsl 5 [(.p (.int .i64 0)), (.p (.str [])), .nils, .nils, .nils] 0 []⟩,
   ⟨(some 6), none, .mov (.t 12)⟩])
 (.seq (.seq (.reg [⟨(some 13), none, .mov (.t 0)⟩,
   ⟨(some 14), none, .nilck (.t 13)⟩,
   ⟨(some 15), none, .fldA 0 (.t 14)⟩,
   ⟨(some 16), none, .ld none (.t 15)⟩,
   ⟨(some 17), none, .bsl 1 [(.p (.int .i64 0))] 4 [(0, 1, (.c (.p (.int .i64 2)))), (1, 1, (.c (.p (.int .i64 3)))), (2, 1, (.c (.p (.int .i64 1)))), (3, 1, (.c (.p (.int .i64 4))))]⟩,
   ⟨(some 18), none, .call n_spec_l30Rd_num [(.t 16), (.t 17)]⟩,
   ⟨(some 7), none, .mov (.t 18)⟩])
 (.blk 0 (.loop (.seq (.seq (.reg [⟨(some 19), none, .mov (.t 7)⟩,
   ⟨(some 20), none, .bin .gtr (.t 19) (.c (.p (.int .i64 0)))⟩,
   ⟨(some 21), none, .mov (.t 20)⟩,
   ⟨(some 22), (some (21, true)), .mov (.t 0)⟩,
   ⟨(some 23), (some (21, true)), .nilck (.t 22)⟩,
   ⟨(some 24), (some (21, true)), .fldA 4 (.t 23)⟩,
   ⟨(some 25), (some (21, true)), .ld none (.t 24)⟩,
   ⟨(some 26), (some (21, true)), .bin .gtr (.t 25) (.c (.p (.int .i64 0)))⟩,
   ⟨(some 27), none, .pick (.t 21) (.t 26) (.c (.p (.bool false)))⟩])
 (.cond (.t 27)
  (.skip)
  (.exit 0)))
 (.seq (.blk 1 (.reg [⟨(some 30), none, .mov (.t 6)⟩,
   ⟨(some 31), none, .mov (.t 0)⟩,
   ⟨(some 32), none, .mov (.t 1)⟩,
   ⟨(some 33), none, .call n_spec_l3Gen_some [(.t 31), (.t 32)]⟩,
   ⟨(some 34), none, .app 5 96 (.t 30) (.t 33)⟩,
   ⟨(some 6), none, .mov (.t 34)⟩]))
 (.reg [⟨(some 28), none, .mov (.t 7)⟩,
   ⟨(some 29), none, .bin .sub (.t 28) (.c (.p (.int .i64 1)))⟩,
   ⟨(some 7), none, .mov (.t 29)⟩]))))))
 (.seq (.reg [⟨(some 35), none, .mov (.t 0)⟩,
   ⟨(some 36), none, .mov (.t 5)⟩,
   ⟨(some 37), none, .nilck (.t 35)⟩,
   ⟨(some 38), none, .fldA 2 (.t 37)⟩,
   ⟨none, none, .st 1 (.t 38) (.t 36)⟩])
 (.seq (.reg [⟨(some 39), none, .mov (.t 6)⟩,
   ⟨(some 4), none, .mov (.t 39)⟩])
 (.ret))))))⟩
theorem k_spec_l3Gen_block : compF Tryd.prog n_spec_l3Gen_block = some F_spec_l3Gen_block := by kernel_rfl
def F_spec_l3Gen_fn : FK := ⟨61, [.c 6 (some 3)],
 .seq (.reg [⟨(some 6), none, .alloc [(.p (.str [])), .nils, .nils]⟩])
 (.seq (.reg [⟨(some 8), none, .mov (.t 0)⟩,
   ⟨(some 9), none, .bsl 1 [(.p (.str []))] 3 [(0, 1, (.c (.p (.str [97])))), (1, 1, (.c (.p (.str [98])))), (2, 1, (.c (.p (.str [99]))))]⟩,
   ⟨(some 10), none, .mov (.t 2)⟩,
   ⟨(some 11), none, .slS 1 (.t 9) none (some (.t 10))⟩,
   ⟨(some 12), none, .nilck (.t 8)⟩,
   ⟨(some 13), none, .fldA 2 (.t 12)⟩,
   ⟨none, none, .st 1 (.t 13) (.t 11)⟩])
 (.seq (.reg [⟨(some 14), none, .mov (.t 0)⟩,
   ⟨(some 15), none, .mov (.t 2)⟩,
   ⟨(some 16), none, .bin .sub (.t 15) (.c (.p (.int .i64 1)))⟩,
   ⟨(some 17), none, .nilck (.t 14)⟩,
   ⟨(some 18), none, .fldA 3 (.t 17)⟩,
   ⟨none, none, .st 1 (.t 18) (.t 16)⟩])
 (.seq (.reg [⟨(some 19), none, .mov (.t 1)⟩,
   ⟨(some 20), none, .bsl 1 [(.p (.str []))] 0 []⟩,
   ⟨(some 21), none, .mov (.t 0)⟩,
   ⟨(some 22), none, .nilck (.t 21)⟩,
   ⟨(some 23), none, .fldA 2 (.t 22)⟩,
   ⟨(some 24), none, .ld none (.t 23)⟩,
   ⟨(some 25), none, .app 1 16 (.t 20) (.t 24)⟩,
   ⟨(some 26), none, .bld [(.p (.str [])), .nils, .nils] [(0, 1, (.t 19)), (1, 1, (.t 25))]⟩,
   ⟨(some 7), none, .alloc [(.p (.str [])), .nils, .nils]⟩,
   ⟨none, none, .st 3 (.t 7) (.t 26)⟩])
 (.seq (.reg [⟨(some 27), none, .mov (.t 0)⟩,
   ⟨(some 28), none, .call n_spec_l3Gen_block [(.t 27), (.c (.p (.int .i64 3)))]⟩,
   ⟨(some 29), none, .fldA 2 (.t 7)⟩,
   ⟨none, none, .st 1 (.t 29) (.t 28)⟩])
 (.seq (.seq (.reg [⟨(some 30), none, .mov (.t 0)⟩,
   ⟨(some 31), none, .nilck (.t 30)⟩,
   ⟨(some 32), none, .fldA 4 (.t 31)⟩,
   ⟨(some 33), none, .ld none (.t 32)⟩,
   ⟨(some 34), none, .bin .gtr (.t 33) (.c (.p (.int .i64 0)))⟩,
   ⟨(some 35), none, .mov (.t 34)⟩,
   ⟨(some 36), (some (35, true)), .mov (.t 0)⟩,
   ⟨(some 37), (some (35, true)), .nilck (.t 36)⟩,
   ⟨(some 38), (some (35, true)), .fldA 0 (.t 37)⟩,
   ⟨(some 39), (some (35, true)), .ld none (.t 38)⟩,
   ⟨(some 40), (some (35, true)), .call n_spec_l30Rd_pick [(.t 39), (.c (.p (.int .i64 4)))]⟩,
   ⟨(some 41), (some (35, true)), .bin .gtr (.t 40) (.c (.p (.int .i64 0)))⟩,
   ⟨(some 42), none, .pick (.t 35) (.t 41) (.c (.p (.bool false)))⟩])
 (.cond (.t 42)
  (.seq (.reg [⟨(some 43), none, .mov (.t 0)⟩,
    ⟨(some 44), none, .mov (.t 0)⟩,
    ⟨(some 45), none, .nilck (.t 44)⟩,
    ⟨(some 46), none, .fldA 4 (.t 45)⟩,
    ⟨(some 47), none, .ld none (.t 46)⟩,
    ⟨(some 48), none, .bin .sub (.t 47) (.c (.p (.int .i64 1)))⟩,
    ⟨(some 49), none, .nilck (.t 43)⟩,
    ⟨(some 50), none, .fldA 4 (.t 49)⟩,
    ⟨none, none, .st 1 (.t 50) (.t 48)⟩])
  (.reg [⟨(some 51), none, .fldA 2 (.t 7)⟩,
    ⟨(some 53), none, .mov (.t 0)⟩,
    ⟨(some 52), none, .ld none (.t 51)⟩,
    ⟨(some 54), none, .call n_spec_l3Gen_expr [(.t 53), (.c (.p (.int .i64 2)))]⟩,
    ⟨none, none, .chk none 51 52⟩,
    ⟨(some 55), none, .bslP 4 [(.p (.int .i64 0)), (.p (.int .i64 0)), (.p (.str [])), .nils] 1 [(0, 4, (.t 54))]⟩,
    ⟨(some 56), none, .bld [(.p (.int .i64 0)), (.p (.str [])), .nils, .nils, .nils] [(0, 1, (.c (.p (.int .i64 7)))), (2, 1, (.t 55))]⟩,
    ⟨(some 57), none, .bslP 5 [(.p (.int .i64 0)), (.p (.str [])), .nils, .nils, .nils] 1 [(0, 5, (.t 56))]⟩,
    ⟨(some 58), none, .app 5 96 (.t 52) (.t 57)⟩,
    ⟨(some 59), none, .fldA 2 (.t 7)⟩,
    ⟨none, none, .st 1 (.t 59) (.t 58)⟩]))
  (.skip)))
 (.seq (.reg [⟨(some 60), none, .ld (some 3) (.t 7)⟩,
   ⟨none, none, .st 3 (.t 6) (.t 60)⟩])
 (.ret)))))))⟩
theorem k_spec_l3Gen_fn : compF Tryd.prog n_spec_l3Gen_fn = some F_spec_l3Gen_fn := by kernel_rfl
def F_spec_l3Prog : FK := ⟨69, [.c 2 (some 1)],
 .seq (.reg [⟨(some 2), none, .alloc [.nils]⟩])
 (.seq (.reg [⟨(some 8), none, .mov (.t 0)⟩,
   ⟨(some 9), none, .mov (.t 0)⟩,
   ⟨(some 10), none, .bsl 1 [(.p (.int .i64 0))] 4 [(0, 1, (.c (.p (.int .i64 14)))), (1, 1, (.c (.p (.int .i64 20)))), (2, 1, (.c (.p (.int .i64 8)))), (3, 1, (.c (.p (.int .i64 26))))]⟩,
   ⟨(some 11), none, .call n_spec_l30Rd_num [(.t 9), (.t 10)]⟩,
   ⟨(some 12), none, .bld [.nilp, .nils, .nils, (.p (.int .i64 0)), (.p (.int .i64 0))] [(0, 1, (.t 8)), (4, 1, (.t 11))]⟩,
   ⟨(some 13), none, .box 5 (.t 12)⟩,
   ⟨(some 3), none, .mov (.t 13)⟩])
 (.seq (.seq (.reg [⟨(some 14), none, .mov (.t 0)⟩,
   ⟨(some 15), none, .bsl 1 [(.p (.int .i64 0))] 4 [(0, 1, (.c (.p (.int .i64 0)))), (1, 1, (.c (.p (.int .i64 1)))), (2, 1, (.c (.p (.int .i64 1)))), (3, 1, (.c (.p (.int .i64 2))))]⟩,
   ⟨(some 16), none, .call n_spec_l30Rd_num [(.t 14), (.t 15)]⟩,
   ⟨(some 4), none, .mov (.t 16)⟩])
 (.blk 0 (.loop (.seq (.seq (.reg [⟨(some 17), none, .mov (.t 4)⟩,
   ⟨(some 18), none, .bin .gtr (.t 17) (.c (.p (.int .i64 0)))⟩])
 (.cond (.t 18)
  (.skip)
  (.exit 0)))
 (.seq (.blk 1 (.seq (.reg [⟨(some 5), none, .mov (.c .any)⟩,
   ⟨(some 21), none, .mov (.t 3)⟩,
   ⟨(some 22), none, .bslP 1 [(.p (.str []))] 3 [(0, 1, (.c (.p (.str [102])))), (1, 1, (.c (.p (.str [103])))), (2, 1, (.c (.p (.str [104]))))]⟩,
   ⟨(some 23), none, .mov (.t 3)⟩,
   ⟨(some 24), none, .nilck (.t 23)⟩,
   ⟨(some 25), none, .fldA 1 (.t 24)⟩,
   ⟨(some 30), none, .mov (.t 0)⟩,
   ⟨(some 26), none, .ld none (.t 25)⟩,
   ⟨(some 27), none, .len false (.t 26)⟩,
   ⟨(some 28), none, .idxS 1 (.t 22) (.t 27)⟩,
   ⟨(some 29), none, .ld none (.t 28)⟩,
   ⟨(some 31), none, .call n_spec_l30Rd_pick [(.t 30), (.c (.p (.int .i64 3)))]⟩,
   ⟨none, none, .chk none 25 26⟩,
   ⟨none, none, .chk none 28 29⟩,
   ⟨(some 32), none, .call n_spec_l3Gen_fn [(.t 21), (.t 29), (.t 31)]⟩,
   ⟨(some 5), none, .alloc [(.p (.str [])), .nils, .nils]⟩,
   ⟨none, none, .st 3 (.t 5) (.t 32)⟩])
 (.reg [⟨(some 33), none, .mov (.t 3)⟩,
   ⟨(some 34), none, .mov (.t 3)⟩,
   ⟨(some 35), none, .nilck (.t 34)⟩,
   ⟨(some 36), none, .fldA 1 (.t 35)⟩,
   ⟨(some 37), none, .ld none (.t 36)⟩,
   ⟨(some 38), none, .ld (some 3) (.t 5)⟩,
   ⟨(some 39), none, .bslP 3 [(.p (.str [])), .nils, .nils] 1 [(0, 3, (.t 38))]⟩,
   ⟨(some 40), none, .app 3 64 (.t 37) (.t 39)⟩,
   ⟨(some 41), none, .nilck (.t 33)⟩,
   ⟨(some 42), none, .fldA 1 (.t 41)⟩,
   ⟨none, none, .st 1 (.t 42) (.t 40)⟩])))
 (.reg [⟨(some 19), none, .mov (.t 4)⟩,
   ⟨(some 20), none, .bin .sub (.t 19) (.c (.p (.int .i64 1)))⟩,
   ⟨(some 4), none, .mov (.t 20)⟩]))))))
 (.seq (.reg [⟨(some 43), none, .mov (.t 3)⟩,
   ⟨(some 44), none, .mov (.t 0)⟩,
   ⟨(some 45), none, .bsl 1 [(.p (.int .i64 0))] 4 [(0, 1, (.c (.p (.int .i64 0)))), (1, 1, (.c (.p (.int .i64 1)))), (2, 1, (.c (.p (.int .i64 2)))), (3, 1, (.c (.p (.int .i64 1))))]⟩,
   ⟨(some 46), none, .call n_spec_l30Rd_num [(.t 44), (.t 45)]⟩,
   ⟨(some 47), none, .call n_spec_l3Gen_fn [(.t 43), (.c (.p (.str [109]))), (.t 46)]⟩,
   ⟨(some 6), none, .alloc [(.p (.str [])), .nils, .nils]⟩,
   ⟨none, none, .st 3 (.t 6) (.t 47)⟩])
 (.seq (.reg [⟨(some 7), none, .mov (.c .any)⟩,
   ⟨(some 49), none, .mov (.t 3)⟩,
   ⟨(some 50), none, .nilck (.t 49)⟩,
   ⟨(some 51), none, .fldA 1 (.t 50)⟩,
   ⟨(some 52), none, .ld none (.t 51)⟩,
   ⟨(some 54), none, .ld (some 3) (.t 6)⟩,
   ⟨(some 55), none, .bslP 3 [(.p (.str [])), .nils, .nils] 1 [(0, 3, (.t 54))]⟩,
   ⟨(some 48), none, .bsl 3 [(.p (.str [])), .nils, .nils] 0 []⟩,
   ⟨none, none, .chk none 51 52⟩,
   ⟨none, none, .chk (some 3) 6 54⟩,
   ⟨(some 53), none, .app 3 64 (.t 48) (.t 52)⟩,
   ⟨none, none, .chk (some 3) 6 54⟩,
   ⟨(some 56), none, .app 3 64 (.t 53) (.t 55)⟩,
   ⟨(some 57), none, .bld [.nils] [(0, 1, (.t 56))]⟩,
   ⟨(some 7), none, .alloc [.nils]⟩,
   ⟨none, none, .st 1 (.t 7) (.t 57)⟩])
 (.seq (.seq (.reg [⟨(some 58), none, .ld (some 1) (.t 7)⟩,
   ⟨(some 59), none, .call n_spec_ProgramValid [(.t 58)]⟩,
   ⟨(some 60), none, .not (.t 59)⟩])
 (.cond (.t 60)
  (.seq (.reg [⟨(some 61), none, .bld [(.p (.int .i64 0)), (.p (.int .i64 0)), (.p (.str [])), .nils] [(0, 1, (.c (.p (.int .i64 1)))), (1, 1, (.c (.p (.int .i64 1))))]⟩,
    ⟨(some 62), none, .bsl 4 [(.p (.int .i64 0)), (.p (.int .i64 0)), (.p (.str [])), .nils] 1 [(0, 4, (.t 61))]⟩,
    ⟨(some 63), none, .bld [(.p (.int .i64 0)), (.p (.str [])), .nils, .nils, .nils] [(0, 1, (.c (.p (.int .i64 3)))), (2, 1, (.t 62))]⟩,
    ⟨(some 64), none, .bsl 5 [(.p (.int .i64 0)), (.p (.str [])), .nils, .nils, .nils] 1 [(0, 5, (.t 63))]⟩,
    ⟨(some 65), none, .bld [(.p (.str [])), .nils, .nils] [(0, 1, (.c (.p (.str [109])))), (2, 1, (.t 64))]⟩,
    ⟨(some 66), none, .bsl 3 [(.p (.str [])), .nils, .nils] 1 [(0, 3, (.t 65))]⟩,
    ⟨(some 67), none, .bld [.nils] [(0, 1, (.t 66))]⟩,
    ⟨none, none, .st 1 (.t 2) (.t 67)⟩])
  (.ret))
  (.skip)))
 (.seq (.reg [⟨(some 68), none, .ld (some 1) (.t 7)⟩,
   ⟨none, none, .st 1 (.t 2) (.t 68)⟩])
 (.ret)))))))⟩
theorem k_spec_l3Prog : compF Tryd.prog n_spec_l3Prog = some F_spec_l3Prog := by kernel_rfl
def F_spec_l2Any : FK := ⟨42, [.c 4 (some 4)],
 .seq (.reg [⟨(some 4), none, .alloc [(.p (.int .i64 0)), (.p (.int .i64 0)), (.p (.str [])), .nils]⟩])
 (.seq (.reg [⟨(some 8), none, .mov (.t 0)⟩,
   ⟨(some 9), none, .bsl 1 [(.p (.str []))] 4 [(0, 1, (.c (.p (.str [97])))), (1, 1, (.c (.p (.str [98])))), (2, 1, (.c (.p (.str [120])))), (3, 1, (.c (.p (.str [103, 111]))))]⟩,
   ⟨(some 10), none, .mov (.t 1)⟩,
   ⟨(some 11), none, .call n_spec_l2Expr [(.t 8), (.t 9), (.t 10)]⟩,
   ⟨(some 5), none, .alloc [(.p (.int .i64 0)), (.p (.int .i64 0)), (.p (.str [])), .nils]⟩,
   ⟨none, none, .st 4 (.t 5) (.t 11)⟩])
 (.seq (.seq (.reg [⟨(some 12), none, .mov (.t 0)⟩,
   ⟨(some 13), none, .call n_spec_l30Rd_pick [(.t 12), (.c (.p (.int .i64 3)))]⟩,
   ⟨(some 14), none, .bin .gtr (.t 13) (.c (.p (.int .i64 0)))⟩])
 (.cond (.t 14)
  (.seq (.reg [⟨(some 15), none, .ld (some 4) (.t 5)⟩,
    ⟨none, none, .st 4 (.t 4) (.t 15)⟩])
  (.ret))
  (.skip)))
 (.seq (.reg [⟨(some 16), none, .mov (.t 0)⟩,
   ⟨(some 17), none, .bsl 1 [(.p (.str []))] 3 [(0, 1, (.c (.p (.str [102])))), (1, 1, (.c (.p (.str [103])))), (2, 1, (.c (.p (.str [97]))))]⟩,
   ⟨(some 18), none, .call n_spec_l30Rd_of [(.t 16), (.t 17)]⟩,
   ⟨(some 19), none, .bld [(.p (.int .i64 0)), (.p (.int .i64 0)), (.p (.str [])), .nils] [(0, 1, (.c (.p (.int .i64 13)))), (2, 1, (.t 18))]⟩,
   ⟨(some 6), none, .alloc [(.p (.int .i64 0)), (.p (.int .i64 0)), (.p (.str [])), .nils]⟩,
   ⟨none, none, .st 4 (.t 6) (.t 19)⟩])
 (.seq (.seq (.reg [⟨(some 20), none, .mov (.t 0)⟩,
   ⟨(some 21), none, .call n_spec_l30Rd_pick [(.t 20), (.c (.p (.int .i64 4)))]⟩,
   ⟨(some 7), none, .mov (.t 21)⟩])
 (.blk 0 (.loop (.seq (.seq (.reg [⟨(some 22), none, .mov (.t 7)⟩,
   ⟨(some 23), none, .bin .gtr (.t 22) (.c (.p (.int .i64 0)))⟩])
 (.cond (.t 23)
  (.skip)
  (.exit 0)))
 (.seq (.blk 1 (.reg [⟨(some 26), none, .fldA 3 (.t 6)⟩,
   ⟨(some 28), none, .mov (.t 0)⟩,
   ⟨(some 29), none, .bslP 1 [(.p (.str []))] 2 [(0, 1, (.c (.p (.str [97])))), (1, 1, (.c (.p (.str [98]))))]⟩,
   ⟨(some 27), none, .ld none (.t 26)⟩,
   ⟨(some 30), none, .call n_spec_l2Expr [(.t 28), (.t 29), (.c (.p (.int .i64 2)))]⟩,
   ⟨none, none, .chk none 26 27⟩,
   ⟨(some 31), none, .bslP 4 [(.p (.int .i64 0)), (.p (.int .i64 0)), (.p (.str [])), .nils] 1 [(0, 4, (.t 30))]⟩,
   ⟨(some 32), none, .app 4 56 (.t 27) (.t 31)⟩,
   ⟨(some 33), none, .fldA 3 (.t 6)⟩,
   ⟨none, none, .st 1 (.t 33) (.t 32)⟩]))
 (.reg [⟨(some 24), none, .mov (.t 7)⟩,
   ⟨(some 25), none, .bin .sub (.t 24) (.c (.p (.int .i64 1)))⟩,
   ⟨(some 7), none, .mov (.t 25)⟩]))))))
 (.seq (.seq (.reg [⟨(some 34), none, .mov (.t 0)⟩,
   ⟨(some 35), none, .call n_spec_l30Rd_pick [(.t 34), (.c (.p (.int .i64 2)))]⟩,
   ⟨(some 36), none, .bin .eql (.t 35) (.c (.p (.int .i64 0)))⟩])
 (.cond (.t 36)
  (.seq (.reg [⟨(some 37), none, .ld (some 4) (.t 6)⟩,
    ⟨none, none, .st 4 (.t 4) (.t 37)⟩])
  (.ret))
  (.skip)))
 (.seq (.reg [⟨(some 38), none, .ld (some 4) (.t 5)⟩,
   ⟨(some 39), none, .ld (some 4) (.t 6)⟩,
   ⟨(some 40), none, .bsl 4 [(.p (.int .i64 0)), (.p (.int .i64 0)), (.p (.str [])), .nils] 2 [(0, 4, (.t 38)), (4, 4, (.t 39))]⟩,
   ⟨(some 41), none, .bld [(.p (.int .i64 0)), (.p (.int .i64 0)), (.p (.str [])), .nils] [(0, 1, (.c (.p (.int .i64 3)))), (3, 1, (.t 40))]⟩,
   ⟨none, none, .st 4 (.t 4) (.t 41)⟩])
 (.ret)))))))⟩
theorem k_spec_l2Any : compF Tryd.prog n_spec_l2Any = some F_spec_l2Any := by kernel_rfl
def F_spec_l2Bent : FK := ⟨40, [.c 2 (some 4)],
 .seq (.reg [⟨(some 2), none, .alloc [(.p (.int .i64 0)), (.p (.int .i64 0)), (.p (.str [])), .nils]⟩])
 (.seq (.reg [⟨(some 4), none, .mov (.t 0)⟩,
   ⟨(some 5), none, .call n_spec_l2Any [(.t 4), (.c (.p (.int .i64 4)))]⟩,
   ⟨(some 3), none, .alloc [(.p (.int .i64 0)), (.p (.int .i64 0)), (.p (.str [])), .nils]⟩,
   ⟨none, none, .st 4 (.t 3) (.t 5)⟩])
 (.seq (.seq (.reg [⟨(some 6), none, .mov (.t 0)⟩,
   ⟨(some 7), none, .call n_spec_l30Rd_pick [(.t 6), (.c (.p (.int .i64 20)))]⟩])
 (.blk 0 (.seq (.reg [⟨(some 9), none, .bin .eql (.t 7) (.c (.p (.int .i64 0)))⟩,
   ⟨(some 8), none, .mov (.t 9)⟩])
 (.cond (.t 8)
  (.reg [⟨(some 10), none, .mov (.t 0)⟩,
    ⟨(some 11), none, .bsl 1 [(.p (.int .i64 0))] 3 [(0, 1, (.c (.p (.int .i64 (-1))))), (1, 1, (.c (.p (.int .i64 256)))), (2, 1, (.c (.p (.int .i64 3))))]⟩,
    ⟨(some 12), none, .call n_spec_l30Rd_num [(.t 10), (.t 11)]⟩,
    ⟨(some 13), none, .fldA 1 (.t 3)⟩,
    ⟨none, none, .st 1 (.t 13) (.t 12)⟩])
  (.seq (.reg [⟨(some 15), none, .bin .eql (.t 7) (.c (.p (.int .i64 1)))⟩,
    ⟨(some 14), none, .mov (.t 15)⟩])
  (.cond (.t 14)
   (.reg [⟨(some 16), none, .mov (.t 0)⟩,
     ⟨(some 17), none, .bsl 1 [(.p (.str []))] 5 [(0, 1, (.c (.p (.str [])))), (1, 1, (.c (.p (.str [100, 111])))), (2, 1, (.c (.p (.str [65])))), (3, 1, (.c (.p (.str [97, 98, 99, 100, 101])))), (4, 1, (.c (.p (.str [113]))))]⟩,
     ⟨(some 18), none, .call n_spec_l30Rd_of [(.t 16), (.t 17)]⟩,
     ⟨(some 19), none, .fldA 2 (.t 3)⟩,
     ⟨none, none, .st 1 (.t 19) (.t 18)⟩])
   (.seq (.reg [⟨(some 21), none, .bin .eql (.t 7) (.c (.p (.int .i64 2)))⟩,
     ⟨(some 20), none, .mov (.t 21)⟩])
   (.cond (.t 20)
    (.reg [⟨(some 22), none, .mov (.t 0)⟩,
      ⟨(some 23), none, .bsl 1 [(.p (.int .i64 0))] 5 [(0, 1, (.c (.p (.int .i64 0)))), (1, 1, (.c (.p (.int .i64 14)))), (2, 1, (.c (.p (.int .i64 (-1))))), (3, 1, (.c (.p (.int .i64 5)))), (4, 1, (.c (.p (.int .i64 11))))]⟩,
      ⟨(some 24), none, .call n_spec_l30Rd_num [(.t 22), (.t 23)]⟩,
      ⟨(some 25), none, .fldA 0 (.t 3)⟩,
      ⟨none, none, .st 1 (.t 25) (.t 24)⟩])
    (.seq (.reg [⟨(some 27), none, .bin .eql (.t 7) (.c (.p (.int .i64 3)))⟩,
      ⟨(some 26), none, .mov (.t 27)⟩])
    (.cond (.t 26)
     (.reg [⟨(some 28), none, .fldA 3 (.t 3)⟩,
       ⟨(some 30), none, .mov (.t 0)⟩,
       ⟨(some 29), none, .ld none (.t 28)⟩,
       ⟨(some 31), none, .call n_spec_l2Leaf [(.t 30), (.c .nils)]⟩,
       ⟨none, none, .chk none 28 29⟩,
       ⟨(some 32), none, .bslP 4 [(.p (.int .i64 0)), (.p (.int .i64 0)), (.p (.str [])), .nils] 1 [(0, 4, (.t 31))]⟩,
       ⟨(some 33), none, .app 4 56 (.t 29) (.t 32)⟩,
       ⟨(some 34), none, .fldA 3 (.t 3)⟩,
       ⟨none, none, .st 1 (.t 34) (.t 33)⟩])
     (.seq (.reg [⟨(some 36), none, .bin .eql (.t 7) (.c (.p (.int .i64 4)))⟩,
       ⟨(some 35), none, .mov (.t 36)⟩])
     (.cond (.t 35)
      (.reg [⟨(some 37), none, .mov (.t 0)⟩,
        ⟨(some 38), none, .call n_spec_l2Any [(.t 37), (.c (.p (.int .i64 7)))]⟩,
        ⟨none, none, .st 4 (.t 3) (.t 38)⟩])
      (.skip)))))))))))))
 (.seq (.reg [⟨(some 39), none, .ld (some 4) (.t 3)⟩,
   ⟨none, none, .st 4 (.t 2) (.t 39)⟩])
 (.ret))))⟩
theorem k_spec_l2Bent : compF Tryd.prog n_spec_l2Bent = some F_spec_l2Bent := by kernel_rfl
def F_spec_l3Bent : FK := ⟨145, [.c 2 (some 1)],
 .seq (.reg [⟨(some 2), none, .alloc [.nils]⟩])
 (.seq (.reg [⟨(some 9), none, .mov (.t 0)⟩,
   ⟨(some 10), none, .call n_spec_l3Prog [(.t 9)]⟩,
   ⟨(some 3), none, .alloc [.nils]⟩,
   ⟨none, none, .st 1 (.t 3) (.t 10)⟩])
 (.seq (.reg [⟨(some 11), none, .fldA 0 (.t 3)⟩,
   ⟨(some 12), none, .ld none (.t 11)⟩,
   ⟨(some 13), none, .fldA 0 (.t 3)⟩,
   ⟨(some 14), none, .ld none (.t 13)⟩,
   ⟨(some 15), none, .len false (.t 14)⟩,
   ⟨(some 16), none, .bin .sub (.t 15) (.c (.p (.int .i64 1)))⟩,
   ⟨(some 17), none, .idxS 3 (.t 12) (.t 16)⟩,
   ⟨(some 18), none, .ld (some 3) (.t 17)⟩,
   ⟨(some 4), none, .alloc [(.p (.str [])), .nils, .nils]⟩,
   ⟨none, none, .st 3 (.t 4) (.t 18)⟩])
 (.seq (.seq (.reg [⟨(some 19), none, .mov (.t 0)⟩,
   ⟨(some 20), none, .call n_spec_l30Rd_pick [(.t 19), (.c (.p (.int .i64 32)))]⟩])
 (.blk 0 (.seq (.reg [⟨(some 22), none, .bin .eql (.t 20) (.c (.p (.int .i64 0)))⟩,
   ⟨(some 21), none, .mov (.t 22)⟩])
 (.cond (.t 21)
  (.reg [⟨(some 23), none, .mov (.t 0)⟩,
    ⟨(some 24), none, .bsl 1 [(.p (.str []))] 4 [(0, 1, (.c (.p (.str [102])))), (1, 1, (.c (.p (.str [100, 111])))), (2, 1, (.c (.p (.str [])))), (3, 1, (.c (.p (.str [103]))))]⟩,
    ⟨(some 25), none, .call n_spec_l30Rd_of [(.t 23), (.t 24)]⟩,
    ⟨(some 26), none, .fldA 0 (.t 4)⟩,
    ⟨none, none, .st 1 (.t 26) (.t 25)⟩])
  (.seq (.reg [⟨(some 28), none, .bin .eql (.t 20) (.c (.p (.int .i64 1)))⟩,
    ⟨(some 27), none, .mov (.t 28)⟩])
  (.cond (.t 27)
   (.reg [⟨(some 29), none, .bsl 1 [(.p (.str []))] 0 []⟩,
     ⟨(some 30), none, .fldA 1 (.t 4)⟩,
     ⟨(some 31), none, .ld none (.t 30)⟩,
     ⟨(some 32), none, .app 1 16 (.t 29) (.t 31)⟩,
     ⟨(some 33), none, .mov (.t 0)⟩,
     ⟨(some 34), none, .bsl 1 [(.p (.str []))] 3 [(0, 1, (.c (.p (.str [97])))), (1, 1, (.c (.p (.str [120])))), (2, 1, (.c (.p (.str [105, 102]))))]⟩,
     ⟨(some 35), none, .call n_spec_l30Rd_of [(.t 33), (.t 34)]⟩,
     ⟨(some 36), none, .bsl 1 [(.p (.str []))] 1 [(0, 1, (.t 35))]⟩,
     ⟨(some 37), none, .app 1 16 (.t 32) (.t 36)⟩,
     ⟨(some 38), none, .fldA 1 (.t 4)⟩,
     ⟨none, none, .st 1 (.t 38) (.t 37)⟩])
   (.seq (.reg [⟨(some 40), none, .bin .eql (.t 20) (.c (.p (.int .i64 2)))⟩,
     ⟨(some 39), none, .mov (.t 40)⟩])
   (.cond (.t 39)
    (.reg [⟨(some 41), none, .bsl 5 [(.p (.int .i64 0)), (.p (.str [])), .nils, .nils, .nils] 0 []⟩,
      ⟨(some 42), none, .fldA 2 (.t 4)⟩,
      ⟨(some 43), none, .ld none (.t 42)⟩,
      ⟨(some 44), none, .app 5 96 (.t 41) (.t 43)⟩,
      ⟨(some 45), none, .mov (.t 0)⟩,
      ⟨(some 46), none, .call n_spec_l2Bent [(.t 45)]⟩,
      ⟨(some 47), none, .bsl 4 [(.p (.int .i64 0)), (.p (.int .i64 0)), (.p (.str [])), .nils] 1 [(0, 4, (.t 46))]⟩,
      ⟨(some 48), none, .bld [(.p (.int .i64 0)), (.p (.str [])), .nils, .nils, .nils] [(0, 1, (.c (.p (.int .i64 3)))), (2, 1, (.t 47))]⟩,
      ⟨(some 49), none, .bsl 5 [(.p (.int .i64 0)), (.p (.str [])), .nils, .nils, .nils] 1 [(0, 5, (.t 48))]⟩,
      ⟨(some 50), none, .app 5 96 (.t 44) (.t 49)⟩,
      ⟨(some 51), none, .fldA 2 (.t 4)⟩,
      ⟨none, none, .st 1 (.t 51) (.t 50)⟩])
    (.seq (.reg [⟨(some 53), none, .bin .eql (.t 20) (.c (.p (.int .i64 3)))⟩,
      ⟨(some 52), none, .mov (.t 53)⟩])
    (.cond (.t 52)
     (.reg [⟨(some 54), none, .bsl 5 [(.p (.int .i64 0)), (.p (.str [])), .nils, .nils, .nils] 0 []⟩,
       ⟨(some 55), none, .fldA 2 (.t 4)⟩,
       ⟨(some 56), none, .ld none (.t 55)⟩,
       ⟨(some 57), none, .app 5 96 (.t 54) (.t 56)⟩,
       ⟨(some 58), none, .mov (.t 0)⟩,
       ⟨(some 59), none, .call n_spec_l30Rd_pick [(.t 58), (.c (.p (.int .i64 10)))]⟩,
       ⟨(some 60), none, .mov (.t 0)⟩,
       ⟨(some 61), none, .bsl 1 [(.p (.str []))] 3 [(0, 1, (.c (.p (.str [])))), (1, 1, (.c (.p (.str [97])))), (2, 1, (.c (.p (.str [122, 122]))))]⟩,
       ⟨(some 62), none, .call n_spec_l30Rd_of [(.t 60), (.t 61)]⟩,
       ⟨(some 63), none, .mov (.t 0)⟩,
       ⟨(some 64), none, .call n_spec_l2Any [(.t 63), (.c (.p (.int .i64 2)))]⟩,
       ⟨(some 65), none, .bsl 4 [(.p (.int .i64 0)), (.p (.int .i64 0)), (.p (.str [])), .nils] 1 [(0, 4, (.t 64))]⟩,
       ⟨(some 66), none, .bld [(.p (.int .i64 0)), (.p (.str [])), .nils, .nils, .nils] [(0, 1, (.t 59)), (1, 1, (.t 62)), (2, 1, (.t 65))]⟩,
       ⟨(some 67), none, .bsl 5 [(.p (.int .i64 0)), (.p (.str [])), .nils, .nils, .nils] 1 [(0, 5, (.t 66))]⟩,
       ⟨(some 68), none, .app 5 96 (.t 57) (.t 67)⟩,
       ⟨(some 69), none, .fldA 2 (.t 4)⟩,
       ⟨none, none, .st 1 (.t 69) (.t 68)⟩])
     (.seq (.reg [⟨(some 71), none, .bin .eql (.t 20) (.c (.p (.int .i64 4)))⟩,
       ⟨(some 70), none, .mov (.t 71)⟩])
     (.cond (.t 70)
      (.seq (.reg [⟨(some 72), none, .bld [(.p (.int .i64 0)), (.p (.int .i64 0)), (.p (.str [])), .nils] [(0, 1, (.c (.p (.int .i64 1))))]⟩,
        ⟨(some 73), none, .bsl 4 [(.p (.int .i64 0)), (.p (.int .i64 0)), (.p (.str [])), .nils] 1 [(0, 4, (.t 72))]⟩,
        ⟨(some 74), none, .bld [(.p (.int .i64 0)), (.p (.str [])), .nils, .nils, .nils] [(0, 1, (.c (.p (.int .i64 6)))), (2, 1, (.t 73))]⟩,
        ⟨(some 5), none, .alloc [(.p (.int .i64 0)), (.p (.str [])), .nils, .nils, .nils]⟩,
        ⟨none, none, .st 5 (.t 5) (.t 74)⟩])
      (.seq (.seq (.reg [⟨(some 75), none, .mov (.t 0)⟩,
        ⟨(some 76), none, .call n_spec_l30Rd_pick [(.t 75), (.c (.p (.int .i64 5)))]⟩,
        ⟨(some 6), none, .mov (.t 76)⟩])
      (.blk 1 (.loop (.seq (.seq (.reg [⟨(some 77), none, .mov (.t 6)⟩,
        ⟨(some 78), none, .bin .gtr (.t 77) (.c (.p (.int .i64 0)))⟩])
      (.cond (.t 78)
       (.skip)
       (.exit 1)))
      (.seq (.blk 2 (.reg [⟨(some 81), none, .mov (.t 0)⟩,
        ⟨(some 82), none, .bslP 1 [(.p (.int .i64 0))] 2 [(0, 1, (.c (.p (.int .i64 5)))), (1, 1, (.c (.p (.int .i64 6))))]⟩,
        ⟨(some 84), none, .fldA 2 (.t 5)⟩,
        ⟨(some 85), none, .ld none (.t 84)⟩,
        ⟨(some 86), none, .ld (some 5) (.t 5)⟩,
        ⟨(some 87), none, .bslP 5 [(.p (.int .i64 0)), (.p (.str [])), .nils, .nils, .nils] 1 [(0, 5, (.t 86))]⟩,
        ⟨(some 83), none, .call n_spec_l30Rd_num [(.t 81), (.t 82)]⟩,
        ⟨none, none, .chk none 84 85⟩,
        ⟨none, none, .chk (some 5) 5 86⟩,
        ⟨(some 88), none, .bld [(.p (.int .i64 0)), (.p (.str [])), .nils, .nils, .nils] [(0, 1, (.t 83)), (2, 1, (.t 85)), (3, 1, (.t 87))]⟩,
        ⟨none, none, .st 5 (.t 5) (.t 88)⟩]))
      (.reg [⟨(some 79), none, .mov (.t 6)⟩,
        ⟨(some 80), none, .bin .sub (.t 79) (.c (.p (.int .i64 1)))⟩,
        ⟨(some 6), none, .mov (.t 80)⟩]))))))
      (.reg [⟨(some 90), none, .fldA 2 (.t 4)⟩,
        ⟨(some 91), none, .ld none (.t 90)⟩,
        ⟨(some 93), none, .ld (some 5) (.t 5)⟩,
        ⟨(some 94), none, .bslP 5 [(.p (.int .i64 0)), (.p (.str [])), .nils, .nils, .nils] 1 [(0, 5, (.t 93))]⟩,
        ⟨(some 89), none, .bsl 5 [(.p (.int .i64 0)), (.p (.str [])), .nils, .nils, .nils] 0 []⟩,
        ⟨none, none, .chk none 90 91⟩,
        ⟨none, none, .chk (some 5) 5 93⟩,
        ⟨(some 92), none, .app 5 96 (.t 89) (.t 91)⟩,
        ⟨none, none, .chk (some 5) 5 93⟩,
        ⟨(some 95), none, .app 5 96 (.t 92) (.t 94)⟩,
        ⟨(some 96), none, .fldA 2 (.t 4)⟩,
        ⟨none, none, .st 1 (.t 96) (.t 95)⟩])))
      (.seq (.reg [⟨(some 98), none, .bin .eql (.t 20) (.c (.p (.int .i64 5)))⟩,
        ⟨(some 97), none, .mov (.t 98)⟩])
      (.cond (.t 97)
       (.seq (.reg [⟨(some 99), none, .bld [.nils] []⟩,
         ⟨none, none, .st 1 (.t 2) (.t 99)⟩])
       (.ret))
       (.seq (.reg [⟨(some 101), none, .bin .eql (.t 20) (.c (.p (.int .i64 6)))⟩,
         ⟨(some 100), none, .mov (.t 101)⟩])
       (.cond (.t 100)
        (.seq (.reg [⟨(some 102), none, .mov (.t 0)⟩,
          ⟨(some 103), none, .bsl 1 [(.p (.int .i64 0))] 3 [(0, 1, (.c (.p (.int .i64 20)))), (1, 1, (.c (.p (.int .i64 40)))), (2, 1, (.c (.p (.int .i64 41))))]⟩,
          ⟨(some 104), none, .call n_spec_l30Rd_num [(.t 102), (.t 103)]⟩,
          ⟨(some 7), none, .mov (.t 104)⟩])
        (.blk 3 (.loop (.seq (.seq (.reg [⟨(some 105), none, .mov (.t 7)⟩,
          ⟨(some 106), none, .bin .gtr (.t 105) (.c (.p (.int .i64 0)))⟩])
        (.cond (.t 106)
         (.skip)
         (.exit 3)))
        (.seq (.blk 4 (.reg [⟨(some 109), none, .bsl 5 [(.p (.int .i64 0)), (.p (.str [])), .nils, .nils, .nils] 0 []⟩,
          ⟨(some 110), none, .fldA 2 (.t 4)⟩,
          ⟨(some 111), none, .ld none (.t 110)⟩,
          ⟨(some 112), none, .app 5 96 (.t 109) (.t 111)⟩,
          ⟨(some 113), none, .mov (.t 7)⟩,
          ⟨(some 114), none, .bld [(.p (.int .i64 0)), (.p (.int .i64 0)), (.p (.str [])), .nils] [(0, 1, (.c (.p (.int .i64 1)))), (1, 1, (.t 113))]⟩,
          ⟨(some 115), none, .bsl 4 [(.p (.int .i64 0)), (.p (.int .i64 0)), (.p (.str [])), .nils] 1 [(0, 4, (.t 114))]⟩,
          ⟨(some 116), none, .bld [(.p (.int .i64 0)), (.p (.str [])), .nils, .nils, .nils] [(0, 1, (.c (.p (.int .i64 3)))), (2, 1, (.t 115))]⟩,
          ⟨(some 117), none, .bsl 5 [(.p (.int .i64 0)), (.p (.str [])), .nils, .nils, .nils] 1 [(0, 5, (.t 116))]⟩,
          ⟨(some 118), none, .app 5 96 (.t 112) (.t 117)⟩,
          ⟨(some 119), none, .fldA 2 (.t 4)⟩,
          ⟨none, none, .st 1 (.t 119) (.t 118)⟩]))
        (.reg [⟨(some 107), none, .mov (.t 7)⟩,
          ⟨(some 108), none, .bin .sub (.t 107) (.c (.p (.int .i64 1)))⟩,
          ⟨(some 7), none, .mov (.t 108)⟩]))))))
        (.seq (.reg [⟨(some 121), none, .bin .eql (.t 20) (.c (.p (.int .i64 7)))⟩,
          ⟨(some 120), none, .mov (.t 121)⟩])
        (.cond (.t 120)
         (.seq (.reg [⟨(some 123), none, .fldA 0 (.t 3)⟩,
           ⟨(some 126), none, .fldA 0 (.t 3)⟩,
           ⟨(some 124), none, .ld none (.t 123)⟩,
           ⟨(some 127), none, .ld none (.t 126)⟩,
           ⟨(some 128), none, .idxS 3 (.t 127) (.c (.p (.int .i64 0)))⟩,
           ⟨(some 129), none, .ld (some 3) (.t 128)⟩,
           ⟨(some 130), none, .bslP 3 [(.p (.str [])), .nils, .nils] 1 [(0, 3, (.t 129))]⟩,
           ⟨(some 122), none, .bsl 3 [(.p (.str [])), .nils, .nils] 0 []⟩,
           ⟨none, none, .chk none 123 124⟩,
           ⟨none, none, .chk none 126 127⟩,
           ⟨none, none, .chk (some 3) 128 129⟩,
           ⟨(some 125), none, .app 3 64 (.t 122) (.t 124)⟩,
           ⟨none, none, .chk none 126 127⟩,
           ⟨none, none, .chk (some 3) 128 129⟩,
           ⟨(some 131), none, .app 3 64 (.t 125) (.t 130)⟩,
           ⟨(some 132), none, .bld [.nils] [(0, 1, (.t 131))]⟩,
           ⟨none, none, .st 1 (.t 2) (.t 132)⟩])
         (.ret))
         (.skip)))))))))))))))))))
 (.seq (.reg [⟨(some 133), none, .bsl 3 [(.p (.str [])), .nils, .nils] 0 []⟩,
   ⟨(some 134), none, .fldA 0 (.t 3)⟩,
   ⟨(some 135), none, .ld none (.t 134)⟩,
   ⟨(some 136), none, .app 3 64 (.t 133) (.t 135)⟩,
   ⟨(some 8), none, .mov (.t 136)⟩])
 (.seq (.reg [⟨(some 137), none, .mov (.t 8)⟩,
   ⟨(some 138), none, .mov (.t 8)⟩,
   ⟨(some 139), none, .len false (.t 138)⟩,
   ⟨(some 140), none, .bin .sub (.t 139) (.c (.p (.int .i64 1)))⟩,
   ⟨(some 141), none, .ld (some 3) (.t 4)⟩,
   ⟨(some 142), none, .idxS 3 (.t 137) (.t 140)⟩,
   ⟨none, none, .st 3 (.t 142) (.t 141)⟩])
 (.seq (.reg [⟨(some 143), none, .mov (.t 8)⟩,
   ⟨(some 144), none, .bld [.nils] [(0, 1, (.t 143))]⟩,
   ⟨none, none, .st 1 (.t 2) (.t 144)⟩])
 (.ret)))))))⟩
theorem k_spec_l3Bent : compF Tryd.prog n_spec_l3Bent = some F_spec_l3Bent := by kernel_rfl
def F_spec_l2Copy : FK := ⟨25, [.c 2 (some 4)],
 .seq (.reg [⟨(some 1), none, .box 4 (.t 0)⟩,
   ⟨(some 2), none, .alloc [(.p (.int .i64 0)), (.p (.int .i64 0)), (.p (.str [])), .nils]⟩])
 (.seq (.reg [⟨(some 5), none, .bsl 4 [(.p (.int .i64 0)), (.p (.int .i64 0)), (.p (.str [])), .nils] 0 []⟩,
   ⟨(some 3), none, .mov (.t 5)⟩])
 (.seq (.seq (.reg [⟨(some 4), none, .mov (.c (.p (.int .i64 0)))⟩])
 (.blk 0 (.loop (.seq (.seq (.reg [⟨(some 6), none, .mov (.t 4)⟩,
   ⟨(some 7), none, .fldA 3 (.t 1)⟩,
   ⟨(some 8), none, .ld none (.t 7)⟩,
   ⟨(some 9), none, .len false (.t 8)⟩,
   ⟨(some 10), none, .bin .lss (.t 6) (.t 9)⟩])
 (.cond (.t 10)
  (.skip)
  (.exit 0)))
 (.seq (.blk 1 (.reg [⟨(some 13), none, .mov (.t 3)⟩,
   ⟨(some 14), none, .fldA 3 (.t 1)⟩,
   ⟨(some 15), none, .ld none (.t 14)⟩,
   ⟨(some 16), none, .mov (.t 4)⟩,
   ⟨(some 17), none, .idxS 4 (.t 15) (.t 16)⟩,
   ⟨(some 18), none, .ld (some 4) (.t 17)⟩,
   ⟨(some 19), none, .call n_spec_l2Copy [(.t 18)]⟩,
   ⟨(some 20), none, .bsl 4 [(.p (.int .i64 0)), (.p (.int .i64 0)), (.p (.str [])), .nils] 1 [(0, 4, (.t 19))]⟩,
   ⟨(some 21), none, .app 4 56 (.t 13) (.t 20)⟩,
   ⟨(some 3), none, .mov (.t 21)⟩]))
 (.reg [⟨(some 11), none, .mov (.t 4)⟩,
   ⟨(some 12), none, .bin .add (.t 11) (.c (.p (.int .i64 1)))⟩,
   ⟨(some 4), none, .mov (.t 12)⟩]))))))
 (.seq (.reg [⟨(some 22), none, .mov (.t 3)⟩,
   ⟨(some 23), none, .fldA 3 (.t 1)⟩,
   ⟨none, none, .st 1 (.t 23) (.t 22)⟩])
 (.seq (.reg [⟨(some 24), none, .ld (some 4) (.t 1)⟩,
   ⟨none, none, .st 4 (.t 2) (.t 24)⟩])
 (.ret)))))⟩
theorem k_spec_l2Copy : compF Tryd.prog n_spec_l2Copy = some F_spec_l2Copy := by kernel_rfl
def F_spec_l4Stmts : FK := ⟨52, [.t 2],
 .seq (.reg [⟨(some 2), none, .mov (.c .nils)⟩])
 (.seq (.reg [⟨(some 8), none, .bsl 5 [(.p (.int .i64 0)), (.p (.str [])), .nils, .nils, .nils] 0 []⟩,
   ⟨(some 3), none, .mov (.t 8)⟩])
 (.seq (.seq (.reg [⟨(some 4), none, .mov (.c (.p (.int .i64 0)))⟩])
 (.blk 0 (.loop (.seq (.seq (.reg [⟨(some 9), none, .mov (.t 4)⟩,
   ⟨(some 10), none, .mov (.t 0)⟩,
   ⟨(some 11), none, .len false (.t 10)⟩,
   ⟨(some 12), none, .bin .lss (.t 9) (.t 11)⟩])
 (.cond (.t 12)
  (.skip)
  (.exit 0)))
 (.seq (.blk 1 (.seq (.reg [⟨(some 15), none, .mov (.t 0)⟩,
   ⟨(some 16), none, .mov (.t 4)⟩,
   ⟨(some 17), none, .idxS 5 (.t 15) (.t 16)⟩,
   ⟨(some 18), none, .ld (some 5) (.t 17)⟩,
   ⟨(some 5), none, .alloc [(.p (.int .i64 0)), (.p (.str [])), .nils, .nils, .nils]⟩,
   ⟨none, none, .st 5 (.t 5) (.t 18)⟩])
 (.seq (.reg [⟨(some 19), none, .bsl 4 [(.p (.int .i64 0)), (.p (.int .i64 0)), (.p (.str [])), .nils] 0 []⟩,
   ⟨(some 6), none, .mov (.t 19)⟩])
 (.seq (.seq (.reg [⟨(some 7), none, .mov (.c (.p (.int .i64 0)))⟩])
 (.blk 2 (.loop (.seq (.seq (.reg [⟨(some 20), none, .mov (.t 7)⟩,
   ⟨(some 21), none, .fldA 2 (.t 5)⟩,
   ⟨(some 22), none, .ld none (.t 21)⟩,
   ⟨(some 23), none, .len false (.t 22)⟩,
   ⟨(some 24), none, .bin .lss (.t 20) (.t 23)⟩])
 (.cond (.t 24)
  (.skip)
  (.exit 2)))
 (.seq (.blk 3 (.reg [⟨(some 27), none, .mov (.t 6)⟩,
   ⟨(some 28), none, .fldA 2 (.t 5)⟩,
   ⟨(some 29), none, .ld none (.t 28)⟩,
   ⟨(some 30), none, .mov (.t 7)⟩,
   ⟨(some 31), none, .idxS 4 (.t 29) (.t 30)⟩,
   ⟨(some 32), none, .ld (some 4) (.t 31)⟩,
   ⟨(some 33), none, .call n_spec_l2Copy [(.t 32)]⟩,
   ⟨(some 34), none, .bsl 4 [(.p (.int .i64 0)), (.p (.int .i64 0)), (.p (.str [])), .nils] 1 [(0, 4, (.t 33))]⟩,
   ⟨(some 35), none, .app 4 56 (.t 27) (.t 34)⟩,
   ⟨(some 6), none, .mov (.t 35)⟩]))
 (.reg [⟨(some 25), none, .mov (.t 7)⟩,
   ⟨(some 26), none, .bin .add (.t 25) (.c (.p (.int .i64 1)))⟩,
   ⟨(some 7), none, .mov (.t 26)⟩]))))))
 (.reg [⟨(some 36), none, .mov (.t 3)⟩,
   ⟨(some 37), none, .fldA 0 (.t 5)⟩,
   ⟨(some 39), none, .fldA 1 (.t 5)⟩,
   ⟨(some 41), none, .mov (.t 6)⟩,
   ⟨(some 42), none, .fldA 3 (.t 5)⟩,
   ⟨(some 45), none, .fldA 4 (.t 5)⟩,
   ⟨(some 38), none, .ld none (.t 37)⟩,
   ⟨(some 40), none, .ld none (.t 39)⟩,
   ⟨(some 43), none, .ld none (.t 42)⟩,
   ⟨(some 46), none, .ld none (.t 45)⟩,
   ⟨(some 44), none, .call n_spec_l4Stmts [(.t 43)]⟩,
   ⟨none, none, .chk none 37 38⟩,
   ⟨none, none, .chk none 39 40⟩,
   ⟨none, none, .chk none 45 46⟩,
   ⟨(some 47), none, .call n_spec_l4Stmts [(.t 46)]⟩,
   ⟨none, none, .chk none 37 38⟩,
   ⟨none, none, .chk none 39 40⟩,
   ⟨(some 48), none, .bld [(.p (.int .i64 0)), (.p (.str [])), .nils, .nils, .nils] [(0, 1, (.t 38)), (1, 1, (.t 40)), (2, 1, (.t 41)), (3, 1, (.t 44)), (4, 1, (.t 47))]⟩,
   ⟨(some 49), none, .bsl 5 [(.p (.int .i64 0)), (.p (.str [])), .nils, .nils, .nils] 1 [(0, 5, (.t 48))]⟩,
   ⟨(some 50), none, .app 5 96 (.t 36) (.t 49)⟩,
   ⟨(some 3), none, .mov (.t 50)⟩])))))
 (.reg [⟨(some 13), none, .mov (.t 4)⟩,
   ⟨(some 14), none, .bin .add (.t 13) (.c (.p (.int .i64 1)))⟩,
   ⟨(some 4), none, .mov (.t 14)⟩]))))))
 (.seq (.reg [⟨(some 51), none, .mov (.t 3)⟩,
   ⟨(some 2), none, .mov (.t 51)⟩])
 (.ret))))⟩
theorem k_spec_l4Stmts : compF Tryd.prog n_spec_l4Stmts = some F_spec_l4Stmts := by kernel_rfl
def F_spec_l4Copy : FK := ⟨35, [.c 2 (some 1)],
 .seq (.reg [⟨(some 1), none, .box 1 (.t 0)⟩,
   ⟨(some 2), none, .alloc [.nils]⟩])
 (.seq (.reg [⟨(some 6), none, .bld [.nils] []⟩,
   ⟨(some 3), none, .alloc [.nils]⟩,
   ⟨none, none, .st 1 (.t 3) (.t 6)⟩])
 (.seq (.seq (.reg [⟨(some 4), none, .mov (.c (.p (.int .i64 0)))⟩])
 (.blk 0 (.loop (.seq (.seq (.reg [⟨(some 7), none, .mov (.t 4)⟩,
   ⟨(some 8), none, .fldA 0 (.t 1)⟩,
   ⟨(some 9), none, .ld none (.t 8)⟩,
   ⟨(some 10), none, .len false (.t 9)⟩,
   ⟨(some 11), none, .bin .lss (.t 7) (.t 10)⟩])
 (.cond (.t 11)
  (.skip)
  (.exit 0)))
 (.seq (.blk 1 (.seq (.reg [⟨(some 14), none, .fldA 0 (.t 1)⟩,
   ⟨(some 15), none, .ld none (.t 14)⟩,
   ⟨(some 16), none, .mov (.t 4)⟩,
   ⟨(some 17), none, .idxS 3 (.t 15) (.t 16)⟩,
   ⟨(some 18), none, .ld (some 3) (.t 17)⟩,
   ⟨(some 5), none, .alloc [(.p (.str [])), .nils, .nils]⟩,
   ⟨none, none, .st 3 (.t 5) (.t 18)⟩])
 (.reg [⟨(some 19), none, .fldA 0 (.t 3)⟩,
   ⟨(some 21), none, .fldA 0 (.t 5)⟩,
   ⟨(some 24), none, .fldA 1 (.t 5)⟩,
   ⟨(some 27), none, .fldA 2 (.t 5)⟩,
   ⟨(some 20), none, .ld none (.t 19)⟩,
   ⟨(some 22), none, .ld none (.t 21)⟩,
   ⟨(some 25), none, .ld none (.t 24)⟩,
   ⟨(some 28), none, .ld none (.t 27)⟩,
   ⟨(some 23), none, .bsl 1 [(.p (.str []))] 0 []⟩,
   ⟨none, none, .chk none 19 20⟩,
   ⟨none, none, .chk none 21 22⟩,
   ⟨none, none, .chk none 24 25⟩,
   ⟨none, none, .chk none 27 28⟩,
   ⟨(some 26), none, .app 1 16 (.t 23) (.t 25)⟩,
   ⟨none, none, .chk none 19 20⟩,
   ⟨none, none, .chk none 21 22⟩,
   ⟨none, none, .chk none 27 28⟩,
   ⟨(some 29), none, .call n_spec_l4Stmts [(.t 28)]⟩,
   ⟨none, none, .chk none 19 20⟩,
   ⟨none, none, .chk none 21 22⟩,
   ⟨(some 30), none, .bld [(.p (.str [])), .nils, .nils] [(0, 1, (.t 22)), (1, 1, (.t 26)), (2, 1, (.t 29))]⟩,
   ⟨(some 31), none, .bsl 3 [(.p (.str [])), .nils, .nils] 1 [(0, 3, (.t 30))]⟩,
   ⟨none, none, .chk none 19 20⟩,
   ⟨(some 32), none, .app 3 64 (.t 20) (.t 31)⟩,
   ⟨(some 33), none, .fldA 0 (.t 3)⟩,
   ⟨none, none, .st 1 (.t 33) (.t 32)⟩])))
 (.reg [⟨(some 12), none, .mov (.t 4)⟩,
   ⟨(some 13), none, .bin .add (.t 12) (.c (.p (.int .i64 1)))⟩,
   ⟨(some 4), none, .mov (.t 13)⟩]))))))
 (.seq (.reg [⟨(some 34), none, .ld (some 1) (.t 3)⟩,
   ⟨none, none, .st 1 (.t 2) (.t 34)⟩])
 (.ret))))⟩
theorem k_spec_l4Copy : compF Tryd.prog n_spec_l4Copy = some F_spec_l4Copy := by kernel_rfl
def F_spec_l4Prog : FK := ⟨104, [.c 2 (some 1)],
 .seq (.reg [⟨(some 2), none, .alloc [.nils]⟩])
 (.seq (.reg [⟨(some 7), none, .mov (.t 0)⟩,
   ⟨(some 8), none, .call n_spec_l3Prog [(.t 7)]⟩,
   ⟨(some 3), none, .alloc [.nils]⟩,
   ⟨none, none, .st 1 (.t 3) (.t 8)⟩])
 (.seq (.seq (.reg [⟨(some 9), none, .mov (.t 0)⟩,
   ⟨(some 10), none, .call n_spec_l30Rd_pick [(.t 9), (.c (.p (.int .i64 5)))]⟩,
   ⟨(some 11), none, .bin .gtr (.t 10) (.c (.p (.int .i64 2)))⟩])
 (.cond (.t 11)
  (.seq (.reg [⟨(some 12), none, .ld (some 1) (.t 3)⟩,
    ⟨none, none, .st 1 (.t 2) (.t 12)⟩])
  (.ret))
  (.skip)))
 (.seq (.seq (.reg [⟨(some 13), none, .mov (.t 0)⟩,
   ⟨(some 14), none, .call n_spec_l30Rd_pick [(.t 13), (.c (.p (.int .i64 6)))]⟩,
   ⟨(some 15), none, .bin .eql (.t 14) (.c (.p (.int .i64 0)))⟩])
 (.cond (.t 15)
  (.seq (.reg [⟨(some 16), none, .mov (.t 0)⟩,
    ⟨(some 17), none, .call n_spec_l3Bent [(.t 16)]⟩,
    ⟨none, none, .st 1 (.t 2) (.t 17)⟩])
  (.ret))
  (.skip)))
 (.seq (.reg [⟨(some 18), none, .ld (some 1) (.t 3)⟩,
   ⟨(some 19), none, .call n_spec_l4Copy [(.t 18)]⟩,
   ⟨none, none, .st 1 (.t 3) (.t 19)⟩])
 (.seq (.reg [⟨(some 20), none, .fldA 0 (.t 3)⟩,
   ⟨(some 22), none, .mov (.t 0)⟩,
   ⟨(some 23), none, .fldA 0 (.t 3)⟩,
   ⟨(some 21), none, .ld none (.t 20)⟩,
   ⟨(some 24), none, .ld none (.t 23)⟩,
   ⟨(some 25), none, .len false (.t 24)⟩,
   ⟨(some 26), none, .call n_spec_l30Rd_pick [(.t 22), (.t 25)]⟩,
   ⟨none, none, .chk none 20 21⟩,
   ⟨(some 27), none, .idxS 3 (.t 21) (.t 26)⟩,
   ⟨(some 4), none, .mov (.t 27)⟩])
 (.seq (.seq (.reg [⟨(some 28), none, .mov (.t 4)⟩,
   ⟨(some 29), none, .nilck (.t 28)⟩,
   ⟨(some 30), none, .fldA 2 (.t 29)⟩,
   ⟨(some 31), none, .ld none (.t 30)⟩,
   ⟨(some 32), none, .len false (.t 31)⟩,
   ⟨(some 33), none, .bin .eql (.t 32) (.c (.p (.int .i64 0)))⟩])
 (.cond (.t 33)
  (.seq (.reg [⟨(some 34), none, .ld (some 1) (.t 3)⟩,
    ⟨none, none, .st 1 (.t 2) (.t 34)⟩])
  (.ret))
  (.skip)))
 (.seq (.reg [⟨(some 35), none, .mov (.t 4)⟩,
   ⟨(some 36), none, .nilck (.t 35)⟩,
   ⟨(some 37), none, .fldA 2 (.t 36)⟩,
   ⟨(some 39), none, .mov (.t 0)⟩,
   ⟨(some 40), none, .mov (.t 4)⟩,
   ⟨(some 41), none, .nilck (.t 40)⟩,
   ⟨(some 42), none, .fldA 2 (.t 41)⟩,
   ⟨(some 38), none, .ld none (.t 37)⟩,
   ⟨(some 43), none, .ld none (.t 42)⟩,
   ⟨(some 44), none, .len false (.t 43)⟩,
   ⟨(some 45), none, .call n_spec_l30Rd_pick [(.t 39), (.t 44)]⟩,
   ⟨none, none, .chk none 37 38⟩,
   ⟨(some 46), none, .idxS 5 (.t 38) (.t 45)⟩,
   ⟨(some 5), none, .mov (.t 46)⟩])
 (.seq (.reg [⟨(some 47), none, .mov (.t 0)⟩,
   ⟨(some 48), none, .bsl 1 [(.p (.str []))] 5 [(0, 1, (.c (.p (.str [122, 122])))), (1, 1, (.c (.p (.str [97])))), (2, 1, (.c (.p (.str [98])))), (3, 1, (.c (.p (.str [99])))), (4, 1, (.c (.p (.str [100]))))]⟩,
   ⟨(some 49), none, .call n_spec_l30Rd_of [(.t 47), (.t 48)]⟩,
   ⟨(some 50), none, .bld [(.p (.int .i64 0)), (.p (.int .i64 0)), (.p (.str [])), .nils] [(0, 1, (.c (.p (.int .i64 2)))), (2, 1, (.t 49))]⟩,
   ⟨(some 6), none, .alloc [(.p (.int .i64 0)), (.p (.int .i64 0)), (.p (.str [])), .nils]⟩,
   ⟨none, none, .st 4 (.t 6) (.t 50)⟩])
 (.seq (.seq (.reg [⟨(some 51), none, .mov (.t 0)⟩,
   ⟨(some 52), none, .call n_spec_l30Rd_pick [(.t 51), (.c (.p (.int .i64 4)))]⟩])
 (.blk 0 (.seq (.reg [⟨(some 54), none, .bin .eql (.t 52) (.c (.p (.int .i64 0)))⟩,
   ⟨(some 53), none, .mov (.t 54)⟩])
 (.cond (.t 53)
  (.reg [⟨(some 55), none, .mov (.t 0)⟩,
    ⟨(some 56), none, .bsl 1 [(.p (.str []))] 4 [(0, 1, (.c (.p (.str [102])))), (1, 1, (.c (.p (.str [103])))), (2, 1, (.c (.p (.str [109])))), (3, 1, (.c (.p (.str [113]))))]⟩,
    ⟨(some 57), none, .call n_spec_l30Rd_of [(.t 55), (.t 56)]⟩,
    ⟨(some 58), none, .bld [(.p (.int .i64 0)), (.p (.int .i64 0)), (.p (.str [])), .nils] [(0, 1, (.c (.p (.int .i64 1)))), (1, 1, (.c (.p (.int .i64 1))))]⟩,
    ⟨(some 59), none, .bsl 4 [(.p (.int .i64 0)), (.p (.int .i64 0)), (.p (.str [])), .nils] 1 [(0, 4, (.t 58))]⟩,
    ⟨(some 60), none, .bld [(.p (.int .i64 0)), (.p (.int .i64 0)), (.p (.str [])), .nils] [(0, 1, (.c (.p (.int .i64 13)))), (2, 1, (.t 57)), (3, 1, (.t 59))]⟩,
    ⟨none, none, .st 4 (.t 6) (.t 60)⟩])
  (.seq (.reg [⟨(some 62), none, .bin .eql (.t 52) (.c (.p (.int .i64 1)))⟩,
    ⟨(some 61), none, .mov (.t 62)⟩])
  (.cond (.t 61)
   (.seq (.seq (.reg [⟨(some 63), none, .mov (.t 5)⟩,
     ⟨(some 64), none, .nilck (.t 63)⟩,
     ⟨(some 65), none, .fldA 1 (.t 64)⟩,
     ⟨(some 66), none, .ld none (.t 65)⟩,
     ⟨(some 67), none, .bins .neq (.t 66) (.c (.p (.str [])))⟩])
   (.cond (.t 67)
    (.reg [⟨(some 68), none, .mov (.t 5)⟩,
      ⟨(some 69), none, .mov (.t 0)⟩,
      ⟨(some 70), none, .bsl 1 [(.p (.str []))] 5 [(0, 1, (.c (.p (.str [97])))), (1, 1, (.c (.p (.str [98])))), (2, 1, (.c (.p (.str [122, 122])))), (3, 1, (.c (.p (.str [99])))), (4, 1, (.c (.p (.str [100]))))]⟩,
      ⟨(some 71), none, .call n_spec_l30Rd_of [(.t 69), (.t 70)]⟩,
      ⟨(some 72), none, .nilck (.t 68)⟩,
      ⟨(some 73), none, .fldA 1 (.t 72)⟩,
      ⟨none, none, .st 1 (.t 73) (.t 71)⟩])
    (.skip)))
   (.seq (.reg [⟨(some 74), none, .ld (some 1) (.t 3)⟩,
     ⟨none, none, .st 1 (.t 2) (.t 74)⟩])
   (.ret)))
   (.seq (.reg [⟨(some 76), none, .bin .eql (.t 52) (.c (.p (.int .i64 2)))⟩,
     ⟨(some 75), none, .mov (.t 76)⟩])
   (.cond (.t 75)
    (.seq (.reg [⟨(some 77), none, .mov (.t 4)⟩,
      ⟨(some 78), none, .mov (.t 4)⟩,
      ⟨(some 79), none, .nilck (.t 78)⟩,
      ⟨(some 80), none, .fldA 2 (.t 79)⟩,
      ⟨(some 82), none, .mov (.t 4)⟩,
      ⟨(some 83), none, .nilck (.t 82)⟩,
      ⟨(some 84), none, .fldA 2 (.t 83)⟩,
      ⟨(some 81), none, .ld none (.t 80)⟩,
      ⟨(some 85), none, .ld none (.t 84)⟩,
      ⟨(some 86), none, .slS 5 (.t 85) none (some (.c (.p (.int .i64 1))))⟩,
      ⟨(some 87), none, .call n_spec_l4Stmts [(.t 86)]⟩,
      ⟨none, none, .chk none 80 81⟩,
      ⟨(some 88), none, .app 5 96 (.t 81) (.t 87)⟩,
      ⟨(some 89), none, .nilck (.t 77)⟩,
      ⟨(some 90), none, .fldA 2 (.t 89)⟩,
      ⟨none, none, .st 1 (.t 90) (.t 88)⟩])
    (.seq (.reg [⟨(some 91), none, .ld (some 1) (.t 3)⟩,
      ⟨none, none, .st 1 (.t 2) (.t 91)⟩])
    (.ret)))
    (.skip)))))))))
 (.seq (.seq (.reg [⟨(some 92), none, .mov (.t 5)⟩,
   ⟨(some 93), none, .nilck (.t 92)⟩,
   ⟨(some 94), none, .fldA 0 (.t 93)⟩,
   ⟨(some 95), none, .ld none (.t 94)⟩,
   ⟨(some 96), none, .bin .neq (.t 95) (.c (.p (.int .i64 8)))⟩])
 (.cond (.t 96)
  (.reg [⟨(some 97), none, .mov (.t 5)⟩,
    ⟨(some 98), none, .nilck (.t 97)⟩,
    ⟨(some 99), none, .fldA 2 (.t 98)⟩,
    ⟨(some 100), none, .ld none (.t 99)⟩,
    ⟨(some 101), none, .ld (some 4) (.t 6)⟩,
    ⟨(some 102), none, .idxS 4 (.t 100) (.c (.p (.int .i64 0)))⟩,
    ⟨none, none, .st 4 (.t 102) (.t 101)⟩])
  (.skip)))
 (.seq (.reg [⟨(some 103), none, .ld (some 1) (.t 3)⟩,
   ⟨none, none, .st 1 (.t 2) (.t 103)⟩])
 (.ret))))))))))))⟩
theorem k_spec_l4Prog : compF Tryd.prog n_spec_l4Prog = some F_spec_l4Prog := by kernel_rfl
def F_spec_DrawCheckProgram : FK := ⟨6, [.c 2 (some 1)],
 .seq (.reg [⟨(some 2), none, .alloc [.nils]⟩])
 (.seq (.reg [⟨(some 3), none, .mov (.t 0)⟩,
   ⟨(some 4), none, .call n_spec_l30Open [(.t 3)]⟩,
   ⟨(some 5), none, .call n_spec_l4Prog [(.t 4)]⟩,
   ⟨none, none, .st 1 (.t 2) (.t 5)⟩])
 (.ret))⟩
theorem k_spec_DrawCheckProgram : compF Tryd.prog n_spec_DrawCheckProgram = some F_spec_DrawCheckProgram := by kernel_rfl
def F_laws_FnCheck : FK := ⟨86, [.t 2],
 .seq (.reg [⟨(some 2), none, .mov (.c (.p (.bool false)))⟩])
 (.seq (.seq (.reg [⟨(some 10), none, .mov (.t 0)⟩,
   ⟨(some 11), none, .len false (.t 10)⟩,
   ⟨(some 12), none, .bin .gtr (.t 11) (.c (.p (.int .i64 1048576)))⟩])
 (.cond (.t 12)
  (.seq (.reg [⟨(some 2), none, .mov (.c (.p (.bool true)))⟩])
  (.ret))
  (.skip)))
 (.seq (.reg [⟨(some 13), none, .mov (.t 0)⟩,
   ⟨(some 14), none, .call n_spec_DrawCheckProgram [(.t 13)]⟩,
   ⟨(some 3), none, .alloc [.nils]⟩,
   ⟨none, none, .st 1 (.t 3) (.t 14)⟩])
 (.seq (.reg [⟨(some 15), none, .ld (some 1) (.t 3)⟩,
   ⟨(some 16), none, .call n_impl_CheckProgram [(.t 15)]⟩,
   ⟨(some 4), none, .mov (.t 16)⟩])
 (.seq (.seq (.reg [⟨(some 17), none, .mov (.t 4)⟩,
   ⟨(some 18), none, .ld (some 1) (.t 3)⟩,
   ⟨(some 19), none, .call n_spec_CheckProgram [(.t 18)]⟩,
   ⟨(some 20), none, .bin .neq (.t 17) (.t 19)⟩,
   ⟨(some 21), none, .mov (.t 20)⟩,
   ⟨(some 22), (some (21, false)), .mov (.t 4)⟩,
   ⟨(some 23), (some (21, false)), .bin .neq (.t 22) (.c (.p (.int .i64 0)))⟩,
   ⟨(some 24), none, .pick (.t 21) (.c (.p (.bool true))) (.t 23)⟩])
 (.cond (.t 24)
  (.seq (.reg [⟨(some 25), none, .mov (.t 4)⟩,
    ⟨(some 26), none, .ld (some 1) (.t 3)⟩,
    ⟨(some 27), none, .call n_spec_CheckProgram [(.t 26)]⟩,
    ⟨(some 28), none, .bin .eql (.t 25) (.t 27)⟩,
    ⟨(some 29), none, .mov (.t 28)⟩,
    ⟨(some 30), (some (29, true)), .mov (.t 4)⟩,
    ⟨(some 31), (some (29, true)), .bin .eql (.t 30) (.c (.p (.int .i64 1)))⟩,
    ⟨(some 32), (some (29, true)), .ld (some 1) (.t 3)⟩,
    ⟨(some 33), (some (29, true)), .call n_impl_ProgramValid [(.t 32)]⟩,
    ⟨(some 34), (some (29, true)), .not (.t 33)⟩,
    ⟨(some 35), (some (29, true)), .beq false (.t 31) (.t 34)⟩,
    ⟨(some 36), none, .pick (.t 29) (.t 35) (.c (.p (.bool false)))⟩,
    ⟨(some 2), none, .mov (.t 36)⟩])
  (.ret))
  (.skip)))
 (.seq (.reg [⟨(some 37), none, .fldA 0 (.t 3)⟩,
   ⟨(some 38), none, .ld none (.t 37)⟩,
   ⟨(some 39), none, .len false (.t 38)⟩,
   ⟨(some 40), none, .bin .sub (.t 39) (.c (.p (.int .i64 1)))⟩,
   ⟨(some 5), none, .mov (.t 40)⟩])
 (.seq (.reg [⟨(some 41), none, .fldA 0 (.t 3)⟩,
   ⟨(some 42), none, .ld none (.t 41)⟩,
   ⟨(some 43), none, .mov (.t 5)⟩,
   ⟨(some 44), none, .idxS 3 (.t 42) (.t 43)⟩,
   ⟨(some 45), none, .ld (some 3) (.t 44)⟩,
   ⟨(some 6), none, .alloc [(.p (.str [])), .nils, .nils]⟩,
   ⟨none, none, .st 3 (.t 6) (.t 45)⟩])
 (.seq (.seq (.reg [⟨(some 46), none, .fldA 2 (.t 6)⟩,
   ⟨(some 47), none, .ld none (.t 46)⟩,
   ⟨(some 48), none, .len false (.t 47)⟩,
   ⟨(some 49), none, .mov (.c (.p (.int .i64 0)))⟩])
 (.blk 0 (.loop (.seq (.reg [⟨(some 50), none, .bin .lss (.t 49) (.t 48)⟩])
 (.seq (.cond (.t 50)
  (.skip)
  (.exit 0))
 (.seq (.blk 1 (.seq (.reg [⟨(some 51), none, .mov (.t 49)⟩,
   ⟨(some 7), none, .mov (.t 51)⟩])
 (.seq (.reg [⟨(some 53), none, .fldA 0 (.t 3)⟩,
   ⟨(some 55), none, .mov (.t 5)⟩,
   ⟨(some 58), none, .fldA 0 (.t 6)⟩,
   ⟨(some 60), none, .fldA 1 (.t 6)⟩,
   ⟨(some 62), none, .fldA 2 (.t 6)⟩,
   ⟨(some 64), none, .mov (.t 7)⟩,
   ⟨(some 54), none, .ld none (.t 53)⟩,
   ⟨(some 56), none, .slS 3 (.t 54) none (some (.t 55))⟩,
   ⟨(some 59), none, .ld none (.t 58)⟩,
   ⟨(some 61), none, .ld none (.t 60)⟩,
   ⟨(some 63), none, .ld none (.t 62)⟩,
   ⟨(some 65), none, .slS 5 (.t 63) none (some (.t 64))⟩,
   ⟨(some 66), none, .bld [(.p (.str [])), .nils, .nils] [(0, 1, (.t 59)), (1, 1, (.t 61)), (2, 1, (.t 65))]⟩,
   ⟨(some 67), none, .bslP 3 [(.p (.str [])), .nils, .nils] 1 [(0, 3, (.t 66))]⟩,
   ⟨(some 52), none, .bsl 3 [(.p (.str [])), .nils, .nils] 0 []⟩,
   ⟨none, none, .chk none 53 54⟩,
   ⟨none, none, .chk none 58 59⟩,
   ⟨none, none, .chk none 60 61⟩,
   ⟨none, none, .chk none 62 63⟩,
   ⟨(some 57), none, .app 3 64 (.t 52) (.t 56)⟩,
   ⟨none, none, .chk none 58 59⟩,
   ⟨none, none, .chk none 60 61⟩,
   ⟨none, none, .chk none 62 63⟩,
   ⟨(some 68), none, .app 3 64 (.t 57) (.t 67)⟩,
   ⟨(some 8), none, .mov (.t 68)⟩])
 (.seq (.reg [⟨(some 69), none, .mov (.t 8)⟩,
   ⟨(some 70), none, .bld [.nils] [(0, 1, (.t 69))]⟩,
   ⟨(some 71), none, .call n_impl_CheckProgram [(.t 70)]⟩,
   ⟨(some 72), none, .bin .neq (.t 71) (.c (.p (.int .i64 0)))⟩])
 (.cond (.t 72)
  (.seq (.reg [⟨(some 2), none, .mov (.c (.p (.bool false)))⟩])
  (.ret))
  (.skip))))))
 (.reg [⟨(some 73), none, .bin .add (.t 49) (.c (.p (.int .i64 1)))⟩,
   ⟨(some 49), none, .mov (.t 73)⟩])))))))
 (.seq (.seq (.reg [⟨(some 9), none, .mov (.c (.p (.int .i64 1)))⟩])
 (.blk 2 (.loop (.seq (.seq (.reg [⟨(some 74), none, .mov (.t 9)⟩,
   ⟨(some 75), none, .mov (.t 5)⟩,
   ⟨(some 76), none, .bin .leq (.t 74) (.t 75)⟩])
 (.cond (.t 76)
  (.skip)
  (.exit 2)))
 (.seq (.blk 3 (.seq (.reg [⟨(some 79), none, .fldA 0 (.t 3)⟩,
   ⟨(some 80), none, .ld none (.t 79)⟩,
   ⟨(some 81), none, .mov (.t 9)⟩,
   ⟨(some 82), none, .slS 3 (.t 80) none (some (.t 81))⟩,
   ⟨(some 83), none, .bld [.nils] [(0, 1, (.t 82))]⟩,
   ⟨(some 84), none, .call n_impl_CheckProgram [(.t 83)]⟩,
   ⟨(some 85), none, .bin .neq (.t 84) (.c (.p (.int .i64 0)))⟩])
 (.cond (.t 85)
  (.seq (.reg [⟨(some 2), none, .mov (.c (.p (.bool false)))⟩])
  (.ret))
  (.skip))))
 (.reg [⟨(some 77), none, .mov (.t 9)⟩,
   ⟨(some 78), none, .bin .add (.t 77) (.c (.p (.int .i64 1)))⟩,
   ⟨(some 9), none, .mov (.t 78)⟩]))))))
 (.seq (.reg [⟨(some 2), none, .mov (.c (.p (.bool true)))⟩])
 (.ret))))))))))⟩
theorem k_laws_FnCheck : compF Tryd.prog n_laws_FnCheck = some F_laws_FnCheck := by kernel_rfl
end Go.Proofs.YtiojgfhdcpppcaaDoor
namespace Go.Proofs.YtiojgfhdcpppcaaDoor
open Go Go.Aw
set_option maxRecDepth 100000
set_option maxHeartbeats 4000000
theorem take_succ' {α : Type} {xs : List α} {i : Nat} (h : i < xs.length) : xs.take (i + 1) = xs.take i ++ [xs[i]] := by
  rw [List.take_add_one, List.getElem?_eq_getElem h]; rfl
def bysL (l : List Int) : PV := .lst 1 (l.map fun n => [.int .u8 n])
def numL (l : List Int) : PV := .lst 1 (l.map fun n => [.int .i64 n])
def numO (l : List Int) : AO := .row 1 (l.map fun n => [.p (.int .i64 n)])
def strL (l : List (List UInt8)) : PV := .lst 1 (l.map fun w => [.str w])
def strR (l : List (List UInt8)) : List (List AV) := l.map fun w => [.p (.str w)]
def strO (l : List (List UInt8)) : AO := .row 1 (l.map fun n => [.p (.str n)])
theorem strR_pure (l : List (List UInt8)) : ∀ x ∈ strR l, belowL 0 x := by
  intro x hx; obtain ⟨m, _, rfl⟩ := List.mem_map.1 hx; simp [belowL, below]
theorem strO_view {l : List (List UInt8)} {id : Nat} {h : List AO} (e : h[id]? = some (strO l)) : View h (.sl id 1 0 l.length) (strL l) := by
  have := view_row (h := h) (id := id) (sz := 1) (n := l.length) (ls := l.map fun n => [.str n]) (by rw [e, strO]; simp) (by simp) (fun x hx => by obtain ⟨b, _, rfl⟩ := List.mem_map.1 hx; rfl)
  exact this
end Go.Proofs.YtiojgfhdcpppcaaDoor
namespace Go.Proofs.YtiojgfhdcpppcaaDoor
open Go Go.Aw
set_option maxRecDepth 100000
set_option maxHeartbeats 4000000
def isLet (c : UInt8) : Bool := decide (97 ≤ c.toNat) && decide (c.toNat ≤ 122)
def keyW : List (List UInt8) := [[102, 110], [108, 101, 116], [115, 97, 121], [112, 117, 116], [105, 102], [101, 108, 115, 101], [108, 111, 111, 112], [98, 97, 99, 107], [100, 111]]
def isName (s : List UInt8) : Bool := s.all isLet && decide (0 < s.length) && decide (s.length ≤ 4) && !keyW.contains s
def signW : List UInt8 := [40, 41, 123, 125, 59, 44, 43, 45, 42, 47, 37, 60, 61, 38, 33, 64]
def findB (s : List UInt8) (c : Int) : Int := match s.findIdx? (fun x => (x.toNat : Int) == c) with | some i => i | none => -1
def clsOf (c : Int) : Int := if 97 ≤ c ∧ c ≤ 122 then 1 else if 48 ≤ c ∧ c ≤ 57 then 2 else if 0 ≤ findB signW c then 3 else if c = 32 ∨ c = 10 then 4 else 0
theorem cls_let (x : UInt8) : (clsOf (x.toNat : Int) = 1) ↔ isLet x = true := by
  have h : (97 ≤ (x.toNat : Int) ∧ (x.toNat : Int) ≤ 122) ↔ isLet x = true := by simp [isLet]; omega
  unfold clsOf
  constructor
  · intro e
    split at e
    · rename_i h1; exact h.1 h1
    · repeat' split at e
      all_goals omega
  · intro e; rw [if_pos (h.2 e)]
def idxN (s : List UInt8) : Int := match s.findIdx? (fun x => !isLet x) with | some i => i | none => -1
theorem idxN_neg (s : List UInt8) : decide (idxN s < 0) = s.all isLet := by
  unfold idxN
  cases h : s.findIdx? (fun x => !isLet x) with
  | none =>
    rw [List.findIdx?_eq_none_iff] at h
    have : s.all isLet = true := List.all_eq_true.2 fun x hx => by have := h x hx; simpa using this
    simp [this]
  | some i =>
    rw [List.findIdx?_eq_some_iff_getElem] at h
    obtain ⟨h1, h2, _⟩ := h
    have : s.all isLet = false := List.all_eq_false.2 ⟨_, List.getElem_mem h1, by simpa using h2⟩
    rw [this]; simp
def idxS (l : List (List UInt8)) (s : List UInt8) : Int := match l.findIdx? (fun w => w == s) with | some i => i | none => -1
theorem idxS_pos (l : List (List UInt8)) (s : List UInt8) : decide (0 ≤ idxS l s) = l.contains s := by
  unfold idxS
  cases h : l.findIdx? (fun w => w == s) with
  | none =>
    rw [List.findIdx?_eq_none_iff] at h
    have : l.contains s = false := by
      cases hc : l.contains s with
      | false => rfl
      | true =>
        have hm : s ∈ l := by simpa using hc
        have := h s hm
        simp at this
    rw [this]; simp
  | some i =>
    rw [List.findIdx?_eq_some_iff_getElem] at h
    obtain ⟨h1, h2, _⟩ := h
    have : l.contains s = true := by
      simp only [beq_iff_eq] at h2
      rw [List.contains_iff_mem, ← h2]; exact List.getElem_mem h1
    rw [this]; simp
variable (G : Glob)
theorem s_l30Find (s : List UInt8) (c : Int) (hb : s.length ≤ 1048576) : VF Tryd.prog G n_spec_l30Find [.p (.str s), .p (.int .u8 c)] (.p (.int .i64 (findB s c))) := by
  refine AC.go k_spec_l30Find ?_
  simp -implicitDefEqProofs [F_spec_l30Find]
  refine loopA (fun i : Nat => tsOf 18 [(0, .p (.str s)), (1, .p (.int .u8 c)), (5, .p (.int .i64 i))]) (fun _ => []) (fun i => i ≤ s.length ∧ ∀ x ∈ s.take i, (x.toNat : Int) ≠ c) (fun i => s.length - i) 0 (by simp) ?_ ?_
  · exact wkt_nil rfl (by simp [below])
  · intro i ⟨hi, hn⟩
    simp -implicitDefEqProofs []
    refine cndb (fun h1 => ?_) (fun h1 => ?_)
    · simp at h1
      have hg := List.getElem?_eq_getElem h1
      by_cases he : (s[i].toNat : Int) = c
      · have hf : findB s c = i := by
          have : s.findIdx? (fun x => (x.toNat : Int) == c) = some i := by
            rw [List.findIdx?_eq_some_iff_getElem]
            exact ⟨h1, by simpa using he, fun j hj => by have := hn s[j] (List.mem_take_iff_getElem.2 ⟨j, by omega, rfl⟩); simpa using this⟩
          rw [findB, this]
        simp -implicitDefEqProofs [hg, he, hf]
      · simp -implicitDefEqProofs [hg, he]
        refine ⟨i + 1, ⟨h1, fun p hp => ?_⟩, by omega, wkt_nil rfl ?_⟩
        · rw [take_succ' h1] at hp
          rcases List.mem_append.1 hp with hp | hp
          · exact hn p hp
          · rw [List.mem_singleton.1 hp]; exact he
        · simp [below, w1 (i := i) (by omega)]
    · simp at h1
      rw [List.take_of_length_le h1] at hn
      have hf : findB s c = -1 := by
        have : s.findIdx? (fun x => (x.toNat : Int) == c) = none := by
          rw [List.findIdx?_eq_none_iff]; intro x hx; simpa using hn x hx
        rw [findB, this]
      simp -implicitDefEqProofs [hf]
theorem s_l1Class (c : Int) : VF Tryd.prog G n_spec_l1Class [.p (.int .u8 c)] (.p (.int .i64 (clsOf c))) := by
  refine AC.go k_spec_l1Class ?_
  simp -implicitDefEqProofs [F_spec_l1Class]
  unfold clsOf
  by_cases h1 : 97 ≤ c
  · by_cases h2 : c ≤ 122
    · simp -implicitDefEqProofs [h1, h2]
    · have h3 : ¬ c ≤ 57 := by omega
      have h4 : ¬ c = 32 := by omega
      have h5 : ¬ c = 10 := by omega
      have h6 : 48 ≤ c := by omega
      simp -implicitDefEqProofs [h1, h2, h3, h6]
      refine (s_l30Find G signW c (by decide)).use ?_
      generalize findB signW c = w
      by_cases hf : 0 ≤ w
      · simp -implicitDefEqProofs [hf]
      · simp -implicitDefEqProofs [hf, h4, h5]
  · simp -implicitDefEqProofs [h1]
    by_cases h2 : 48 ≤ c
    · by_cases h3 : c ≤ 57
      · simp -implicitDefEqProofs [h2, h3]
      · have h4 : ¬ c = 32 := by omega
        have h5 : ¬ c = 10 := by omega
        simp -implicitDefEqProofs [h2, h3]
        refine (s_l30Find G signW c (by decide)).use ?_
        generalize findB signW c = w
        by_cases hf : 0 ≤ w
        · simp -implicitDefEqProofs [hf]
        · simp -implicitDefEqProofs [hf, h4, h5]
    · simp -implicitDefEqProofs [h2]
      refine (s_l30Find G signW c (by decide)).use ?_
      generalize findB signW c = w
      by_cases hf : 0 ≤ w
      · simp -implicitDefEqProofs [hf]
      · by_cases h4 : c = 32
        · simp -implicitDefEqProofs [hf, h4]
        · by_cases h5 : c = 10
          · simp -implicitDefEqProofs [hf, h4, h5]
          · simp -implicitDefEqProofs [hf, h4, h5]
theorem s_l1All (s : List UInt8) (hb : s.length ≤ 140737488355328) : VF Tryd.prog G n_spec_l1All [.p (.str s), .p (.int .i64 1)] (.p (.bool (s.all isLet && decide (0 < s.length)))) := by
  refine AC.go k_spec_l1All ?_
  simp -implicitDefEqProofs [F_spec_l1All]
  refine loopA (fun i : Nat => tsOf 21 [(0, .p (.str s)), (1, .p (.int .i64 1)), (5, .p (.int .i64 i))]) (fun _ => []) (fun i => i ≤ s.length ∧ ∀ x ∈ s.take i, isLet x = true) (fun i => s.length - i) 0 (by simp) ?_ ?_
  · exact wkt_nil rfl (by simp [below])
  · intro i ⟨hi, hn⟩
    simp -implicitDefEqProofs []
    refine cndb (fun h1 => ?_) (fun h1 => ?_)
    · simp at h1
      have hg := List.getElem?_eq_getElem h1
      simp -implicitDefEqProofs [hg]
      refine (s_l1Class G _).use ?_
      have hcl := cls_let s[i]
      by_cases he : isLet s[i] = true
      · have hc := hcl.2 he
        simp -implicitDefEqProofs [hc]
        refine ⟨i + 1, ⟨h1, fun p hp => ?_⟩, by omega, wkt_nil rfl ?_⟩
        · rw [take_succ' h1] at hp
          rcases List.mem_append.1 hp with hp | hp
          · exact hn p hp
          · rw [List.mem_singleton.1 hp]; exact he
        · simp [below, w1 (i := i) (by omega)]
      · have hc : ¬ clsOf (s[i].toNat : Int) = 1 := fun e => he (hcl.1 e)
        have ha : s.all isLet = false := List.all_eq_false.2 ⟨_, List.getElem_mem h1, by simpa using he⟩
        simp -implicitDefEqProofs [hc, ha]
    · simp at h1
      rw [List.take_of_length_le h1] at hn
      have ha : s.all isLet = true := List.all_eq_true.2 hn
      simp -implicitDefEqProofs [ha]
theorem s_KeyWords : VF Tryd.prog G n_spec_KeyWords [] (.p (strL keyW)) := by
  have key : AC Tryd.prog G n_spec_KeyWords [] [] fun x h => x = .ret (.sl 0 1 0 9) ∧ h = [.row 1 (keyW.map fun w => [.p (.str w)])] := by
    refine AC.go k_spec_KeyWords ?_
    simp -implicitDefEqProofs [F_spec_KeyWords, keyW]
  exact AC.freeze key (.one (view_row (ls := keyW.map fun w => [.str w]) (by simp) (by simp [keyW]) (by simp)) .nil)
theorem s_l1Key (s : List UInt8) : VF Tryd.prog G n_spec_l1Key [.p (.str s)] (.p (.bool (keyW.contains s))) := by
  refine AC.go k_spec_l1Key ?_
  have hsl : strL keyW = .lst 1 (keyW.map fun w => [.str w]) := rfl
  have hkl : keyW.length = 9 := rfl
  simp -implicitDefEqProofs [F_spec_l1Key]
  refine (s_KeyWords G).use ?_
  simp -implicitDefEqProofs []
  refine loopA (fun i : Nat => tsOf 18 [(0, .p (.str s)), (3, .p (strL keyW)), (4, .p (.int .i64 i))]) (fun _ => []) (fun i => i ≤ keyW.length ∧ ∀ w ∈ keyW.take i, w ≠ s) (fun i => keyW.length - i) 0 (by simp) ?_ ?_
  · exact wkt_nil rfl (by simp [below, strL])
  · intro i ⟨hi, hn⟩
    generalize keyW = L at *
    simp -implicitDefEqProofs [hsl]
    refine cndb (fun h1 => ?_) (fun h1 => ?_)
    · simp at h1
      have hg := List.getElem?_eq_getElem h1
      by_cases he : L[i] = s
      · have hm : s ∈ L := by rw [← he]; exact List.getElem_mem h1
        simp -implicitDefEqProofs [hg, he, hm]
      · simp -implicitDefEqProofs [hg, he]
        refine ⟨i + 1, ⟨h1, fun p hp => ?_⟩, by omega, wkt_nil rfl ?_⟩
        · rw [take_succ' h1] at hp
          rcases List.mem_append.1 hp with hp | hp
          · exact hn p hp
          · rw [List.mem_singleton.1 hp]; exact he
        · simp [below, w1 (i := i) (by omega)]
    · simp at h1
      rw [List.take_of_length_le h1] at hn
      have hm : ¬ s ∈ L := fun hm => hn s hm rfl
      simp -implicitDefEqProofs [hm]
theorem s_IsName (s : List UInt8) (hb : s.length ≤ 140737488355328) : VF Tryd.prog G n_spec_IsName [.p (.str s)] (.p (.bool (isName s))) := by
  refine AC.go k_spec_IsName ?_
  simp -implicitDefEqProofs [F_spec_IsName]
  refine (s_l1All G s hb).use ?_
  cases h1 : (s.all isLet && decide (0 < s.length)) with
  | false =>
    have hi : isName s = false := by rw [isName, h1]; rfl
    simp -implicitDefEqProofs [hi]
  | true =>
    by_cases h4 : s.length ≤ 4
    · have h4i : (s.length : Int) ≤ 4 := by omega
      have hi : isName s = !keyW.contains s := by rw [isName, h1]; simp [h4]
      simp -implicitDefEqProofs [h4i]
      refine (s_l1Key G s).use ?_
      rw [hi]
      simp -implicitDefEqProofs []
    · have h4i : ¬ (s.length : Int) ≤ 4 := by omega
      have hi : isName s = false := by rw [isName, h1]; simp [h4]
      simp -implicitDefEqProofs [h4i, hi]
end Go.Proofs.YtiojgfhdcpppcaaDoor
namespace Go.Proofs.YtiojgfhdcpppcaaDoor
open Go Go.Aw
set_option maxRecDepth 100000
inductive Ex where
  | mk (op n : Int) (name : List UInt8) (kids : List Ex)
inductive Sm where
  | mk (op : Int) (name : List UInt8) (args : List Ex) (body els : List Sm)
structure Fd where (name : List UInt8) (params : List (List UInt8)) (body : List Sm)
def Ex.op : Ex → Int | .mk o _ _ _ => o
def Ex.n : Ex → Int | .mk _ n _ _ => n
def Ex.name : Ex → List UInt8 | .mk _ _ s _ => s
def Ex.kids : Ex → List Ex | .mk _ _ _ k => k
def Sm.op : Sm → Int | .mk o _ _ _ _ => o
def Sm.name : Sm → List UInt8 | .mk _ s _ _ _ => s
def Sm.args : Sm → List Ex | .mk _ _ a _ _ => a
def Sm.body : Sm → List Sm | .mk _ _ _ b _ => b
def Sm.els : Sm → List Sm | .mk _ _ _ _ e => e
mutual
def Ex.cs : Ex → List PV
  | .mk o n s k => [.int .i64 o, .int .i64 n, .str s, .lst 4 (exsC k)]
def exsC : List Ex → List (List PV)
  | [] => []
  | e :: r => e.cs :: exsC r
end
mutual
def Sm.cs : Sm → List PV
  | .mk o s a b e => [.int .i64 o, .str s, .lst 4 (exsC a), .lst 5 (smsC b), .lst 5 (smsC e)]
def smsC : List Sm → List (List PV)
  | [] => []
  | s :: r => s.cs :: smsC r
end
theorem exsC_map : ∀ l : List Ex, exsC l = l.map Ex.cs
  | [] => rfl
  | e :: r => by rw [exsC, exsC_map r]; rfl
theorem smsC_map : ∀ l : List Sm, smsC l = l.map Sm.cs
  | [] => rfl
  | e :: r => by rw [smsC, smsC_map r]; rfl
def exL (l : List Ex) : PV := .lst 4 (l.map Ex.cs)
def smL (l : List Sm) : PV := .lst 5 (l.map Sm.cs)
theorem Ex.cs_eq (e : Ex) : e.cs = [.int .i64 e.op, .int .i64 e.n, .str e.name, exL e.kids] := by
  cases e; rw [Ex.cs, exsC_map]; rfl
theorem Sm.cs_eq (s : Sm) : s.cs = [.int .i64 s.op, .str s.name, exL s.args, smL s.body, smL s.els] := by
  cases s; rw [Sm.cs, exsC_map, smsC_map, smsC_map]; rfl
@[simp] theorem Ex.cs_len (e : Ex) : e.cs.length = 4 := by cases e; rfl
@[simp] theorem Ex.cs_take (e : Ex) : List.take 4 (e.cs.map AV.p) = e.cs.map AV.p := by cases e; rfl
@[simp] theorem Sm.cs_len (s : Sm) : s.cs.length = 5 := by cases s; rfl
@[simp] theorem Sm.cs_take (s : Sm) : List.take 5 (s.cs.map AV.p) = s.cs.map AV.p := by cases s; rfl
def Fd.cs (f : Fd) : List PV := [.str f.name, strL f.params, smL f.body]
@[simp] theorem Fd.cs_len (f : Fd) : f.cs.length = 3 := rfl
@[simp] theorem Fd.cs_take (f : Fd) : List.take 3 (f.cs.map AV.p) = f.cs.map AV.p := rfl
def fdL (l : List Fd) : PV := .lst 3 (l.map Fd.cs)
mutual
/-- Parts and letters. -/
def Ex.sz : Ex → Nat
  | .mk _ _ s k => 1 + s.length + exsZ k
def exsZ : List Ex → Nat
  | [] => 0
  | e :: r => e.sz + exsZ r
end
mutual
def Sm.sz : Sm → Nat
  | .mk _ s a b e => 1 + s.length + exsZ a + smsZ b + smsZ e
def smsZ : List Sm → Nat
  | [] => 0
  | s :: r => s.sz + smsZ r
end
def Fd.sz (f : Fd) : Nat := 1 + f.name.length + (f.params.length + (f.params.map List.length).sum) + smsZ f.body
def fdsZ (l : List Fd) : Nat := (l.map Fd.sz).sum
theorem Ex.sz_eq (e : Ex) : e.sz = 1 + e.name.length + exsZ e.kids := by cases e; rfl
theorem Sm.sz_eq (s : Sm) : s.sz = 1 + s.name.length + exsZ s.args + smsZ s.body + smsZ s.els := by cases s; rfl
theorem exsZ_append : ∀ a b : List Ex, exsZ (a ++ b) = exsZ a + exsZ b
  | [], b => by simp [exsZ]
  | e :: r, b => by simp only [List.cons_append, exsZ, exsZ_append r b]; omega
theorem smsZ_append : ∀ a b : List Sm, smsZ (a ++ b) = smsZ a + smsZ b
  | [], b => by simp [smsZ]
  | e :: r, b => by simp only [List.cons_append, smsZ, smsZ_append r b]; omega
theorem exsZ_mem : ∀ {l : List Ex} {e : Ex}, e ∈ l → e.sz ≤ exsZ l
  | x :: r, e, h => by
    simp only [exsZ]
    rcases List.mem_cons.1 h with rfl | h
    · omega
    · have := exsZ_mem h; omega
theorem smsZ_mem : ∀ {l : List Sm} {e : Sm}, e ∈ l → e.sz ≤ smsZ l
  | x :: r, e, h => by
    simp only [smsZ]
    rcases List.mem_cons.1 h with rfl | h
    · omega
    · have := smsZ_mem h; omega
theorem exsZ_len : ∀ l : List Ex, l.length ≤ exsZ l
  | [] => Nat.le_refl _
  | e :: r => by have := exsZ_len r; have := e.sz_eq; simp only [exsZ, List.length_cons]; omega
theorem smsZ_len : ∀ l : List Sm, l.length ≤ smsZ l
  | [] => Nat.le_refl _
  | e :: r => by have := smsZ_len r; have := e.sz_eq; simp only [smsZ, List.length_cons]; omega
mutual
/-- Parts. -/
def Ex.parts : Ex → Nat
  | .mk _ _ _ k => 1 + exsP k
def exsP : List Ex → Nat
  | [] => 0
  | e :: r => e.parts + exsP r
end
theorem Ex.parts_eq (e : Ex) : e.parts = 1 + exsP e.kids := by cases e; rfl
theorem exsP_append : ∀ a b : List Ex, exsP (a ++ b) = exsP a + exsP b
  | [], b => by simp [exsP]
  | e :: r, b => by simp only [List.cons_append, exsP, exsP_append r b]; omega
mutual
theorem Ex.parts_le : ∀ e : Ex, e.parts ≤ e.sz
  | .mk _ _ s k => by have := exsP_le k; simp only [Ex.parts, Ex.sz]; omega
theorem exsP_le : ∀ l : List Ex, exsP l ≤ exsZ l
  | [] => Nat.le_refl _
  | e :: r => by have := e.parts_le; have := exsP_le r; simp only [exsP, exsZ]; omega
end
mutual
/-- Statements. -/
def Sm.cnt : Sm → Nat
  | .mk _ _ _ b e => 1 + smsN b + smsN e
def smsN : List Sm → Nat
  | [] => 0
  | s :: r => s.cnt + smsN r
end
theorem Sm.cnt_eq (s : Sm) : s.cnt = 1 + smsN s.body + smsN s.els := by cases s; rfl
theorem smsN_append : ∀ a b : List Sm, smsN (a ++ b) = smsN a + smsN b
  | [], b => by simp [smsN]
  | e :: r, b => by simp only [List.cons_append, smsN, smsN_append r b]; omega
mutual
theorem Sm.cnt_le : ∀ s : Sm, s.cnt ≤ s.sz
  | .mk _ s a b e => by have := smsN_le b; have := smsN_le e; simp only [Sm.cnt, Sm.sz]; omega
theorem smsN_le : ∀ l : List Sm, smsN l ≤ smsZ l
  | [] => Nat.le_refl _
  | e :: r => by have := e.cnt_le; have := smsN_le r; simp only [smsN, smsZ]; omega
end
def inR (n lo hi : Int) : Bool := decide (lo ≤ n) && decide (n ≤ hi)
def loK (op : Int) : Nat := if op = 1 ∨ op = 2 then 0 else if op = 11 ∨ op = 12 then 1 else if op = 13 then 0 else 2
def hiK (op : Int) : Nat := if op = 1 ∨ op = 2 then 0 else if op = 11 ∨ op = 12 then 1 else if op = 13 then 3 else 2
def nmdE (op : Int) : Bool := decide (op = 2) || decide (op = 13)
def headE (e : Ex) : Bool := inR e.op 1 13 && inR e.kids.length (loK e.op) (hiK e.op) && (nmdE e.op == isName e.name) && (nmdE e.op || decide (e.name = [])) && inR e.n 0 255 && (decide (e.op = 1) || decide (e.n = 0))
def formE : Nat → Ex → Bool
  | 0, _ => false
  | d + 1, e => headE e && e.kids.all (formE d)
def exOk (e : Ex) : Bool := formE 6 e && decide (e.parts ≤ 30)
def argsN (op : Int) : Nat := if op = 4 then 2 else 1
def nmdS (op : Int) : Bool := decide (op = 1) || decide (op = 2)
def headS (s : Sm) : Bool := inR s.op 1 8 && decide (s.args.length = argsN s.op) && (nmdS s.op == isName s.name) && (nmdS s.op || decide (s.name = [])) && s.args.all exOk &&
  (!decide (s.op = 8) || (match s.args with | a :: _ => decide (a.op = 13) | [] => false)) && (s.els.isEmpty || decide (s.op = 5)) && (s.body.isEmpty || decide (s.op = 5) || decide (s.op = 6))
def formS : Nat → Sm → Bool
  | 0, _ => false
  | d + 1, s => headS s && s.body.all (formS d) && s.els.all (formS d)
def fdOk (f : Fd) : Bool := f.params.all isName && isName f.name && decide (f.params.length ≤ 3) && f.body.all (formS 4)
def allN (l : List Fd) : Nat := (l.map fun f => smsN f.body).sum
def progOk (l : List Fd) : Bool := inR l.length 1 4 && l.all fdOk && decide (allN l ≤ 40)
end Go.Proofs.YtiojgfhdcpppcaaDoor
