/-
  Contracts and lemmas that the card needs, part 4.
-/
import Derived.Test.YtbbobekgnclkfaaDoorOb3
import Derived.Laws.RangeAny
import Derived.Laws.RangeString
namespace Go.Proofs.YtbbobekgnclkfaaDoor
open Go Go.Aw
set_option maxRecDepth 100000
abbrev n_spec_l26Names : FuncId := 65
abbrev n_spec_l24Copy : FuncId := 66
abbrev n_spec_ObjectOf : FuncId := 24
abbrev n_impl_ObjectOf : FuncId := 23
def F_spec_l26Names : FK := ⟨26, [.t 2],
 .seq (.reg [⟨(some 2), none, .mov (.c (.p (.bool false)))⟩])
 (.seq (.seq (.reg [⟨(some 3), none, .mov (.c (.p (.int .i64 0)))⟩])
 (.blk 0 (.loop (.seq (.seq (.reg [⟨(some 4), none, .mov (.t 3)⟩,
   ⟨(some 5), none, .mov (.t 0)⟩,
   ⟨(some 6), none, .len false (.t 5)⟩,
   ⟨(some 7), none, .bin .lss (.t 4) (.t 6)⟩])
 (.cond (.t 7)
  (.skip)
  (.exit 0)))
 (.seq (.blk 1 (.seq (.reg [⟨(some 10), none, .mov (.t 0)⟩,
   ⟨(some 11), none, .mov (.t 3)⟩,
   ⟨(some 12), none, .idxS 1 (.t 10) (.t 11)⟩,
   ⟨(some 13), none, .ld none (.t 12)⟩,
   ⟨(some 14), none, .call n_spec_IsName [(.t 13)]⟩,
   ⟨(some 15), none, .not (.t 14)⟩,
   ⟨(some 16), none, .mov (.t 15)⟩,
   ⟨(some 17), (some (16, false)), .mov (.t 0)⟩,
   ⟨(some 18), (some (16, false)), .mov (.t 3)⟩,
   ⟨(some 19), (some (16, false)), .slS 1 (.t 17) none (some (.t 18))⟩,
   ⟨(some 20), (some (16, false)), .mov (.t 0)⟩,
   ⟨(some 21), (some (16, false)), .mov (.t 3)⟩,
   ⟨(some 22), (some (16, false)), .idxS 1 (.t 20) (.t 21)⟩,
   ⟨(some 23), (some (16, false)), .ld none (.t 22)⟩,
   ⟨(some 24), (some (16, false)), .call n_spec_l2Has [(.t 19), (.t 23)]⟩,
   ⟨(some 25), none, .pick (.t 16) (.c (.p (.bool true))) (.t 24)⟩])
 (.cond (.t 25)
  (.seq (.reg [⟨(some 2), none, .mov (.c (.p (.bool false)))⟩])
  (.ret))
  (.skip))))
 (.reg [⟨(some 8), none, .mov (.t 3)⟩,
   ⟨(some 9), none, .bin .add (.t 8) (.c (.p (.int .i64 1)))⟩,
   ⟨(some 3), none, .mov (.t 9)⟩]))))))
 (.seq (.reg [⟨(some 2), none, .mov (.c (.p (.bool true)))⟩])
 (.ret)))⟩
theorem k_spec_l26Names : compF Tryd.prog n_spec_l26Names = some F_spec_l26Names := by kernel_rfl
def F_spec_l24Copy : FK := ⟨12, [.c 2 (some 3)],
 .seq (.reg [⟨(some 1), none, .box 3 (.t 0)⟩,
   ⟨(some 2), none, .alloc [(.p (.int .i64 0)), (.p (.int .i64 0)), .nils]⟩])
 (.seq (.reg [⟨(some 3), none, .fldA 0 (.t 1)⟩,
   ⟨(some 5), none, .fldA 1 (.t 1)⟩,
   ⟨(some 8), none, .fldA 2 (.t 1)⟩,
   ⟨(some 4), none, .ld none (.t 3)⟩,
   ⟨(some 6), none, .ld none (.t 5)⟩,
   ⟨(some 9), none, .ld none (.t 8)⟩,
   ⟨(some 7), none, .bsl 5 [(.p (.int .i64 0)), (.p (.int .i64 0)), (.p (.int .i64 0)), (.p (.int .i64 0)), (.p (.int .i64 0))] 0 []⟩,
   ⟨none, none, .chk none 3 4⟩,
   ⟨none, none, .chk none 5 6⟩,
   ⟨none, none, .chk none 8 9⟩,
   ⟨(some 10), none, .app 5 40 (.t 7) (.t 9)⟩,
   ⟨none, none, .chk none 3 4⟩,
   ⟨none, none, .chk none 5 6⟩,
   ⟨(some 11), none, .bld [(.p (.int .i64 0)), (.p (.int .i64 0)), .nils] [(0, 1, (.t 4)), (1, 1, (.t 6)), (2, 1, (.t 10))]⟩,
   ⟨none, none, .st 3 (.t 2) (.t 11)⟩])
 (.ret))⟩
theorem k_spec_l24Copy : compF Tryd.prog n_spec_l24Copy = some F_spec_l24Copy := by kernel_rfl
def F_spec_ObjectOf : FK := ⟨102, [.c 6 (some 6), .t 7],
 .seq (.reg [⟨(some 3), none, .box 1 (.t 0)⟩,
   ⟨(some 6), none, .alloc [(.p (.str [])), (.p (.int .i64 0)), (.p (.int .i64 0)), .nils, .nils, .nils]⟩,
   ⟨(some 7), none, .mov (.c (.p (.bool false)))⟩])
 (.seq (.seq (.reg [⟨(some 13), none, .ld (some 1) (.t 3)⟩,
   ⟨(some 14), none, .call n_spec_MachValid [(.t 13)]⟩,
   ⟨(some 15), none, .not (.t 14)⟩,
   ⟨(some 16), none, .mov (.t 15)⟩,
   ⟨(some 17), (some (16, false)), .mov (.t 1)⟩,
   ⟨(some 18), (some (16, false)), .fldA 0 (.t 3)⟩,
   ⟨(some 19), (some (16, false)), .ld none (.t 18)⟩,
   ⟨(some 20), (some (16, false)), .len false (.t 19)⟩,
   ⟨(some 21), (some (16, false)), .bin .sub (.t 20) (.c (.p (.int .i64 1)))⟩,
   ⟨(some 22), (some (16, false)), .call n_spec_l1In [(.t 17), (.c (.p (.int .i64 0))), (.t 21)]⟩,
   ⟨(some 23), (some (16, false)), .not (.t 22)⟩,
   ⟨(some 24), none, .pick (.t 16) (.c (.p (.bool true))) (.t 23)⟩,
   ⟨(some 25), none, .mov (.t 24)⟩,
   ⟨(some 26), (some (25, false)), .mov (.t 2)⟩,
   ⟨(some 27), (some (25, false)), .len false (.t 26)⟩,
   ⟨(some 28), (some (25, false)), .fldA 0 (.t 3)⟩,
   ⟨(some 29), (some (25, false)), .ld none (.t 28)⟩,
   ⟨(some 30), (some (25, false)), .len false (.t 29)⟩,
   ⟨(some 31), (some (25, false)), .bin .neq (.t 27) (.t 30)⟩,
   ⟨(some 32), none, .pick (.t 25) (.c (.p (.bool true))) (.t 31)⟩,
   ⟨(some 33), none, .mov (.t 32)⟩,
   ⟨(some 34), (some (33, false)), .mov (.t 2)⟩,
   ⟨(some 35), (some (33, false)), .call n_spec_l26Names [(.t 34)]⟩,
   ⟨(some 36), (some (33, false)), .not (.t 35)⟩,
   ⟨(some 37), none, .pick (.t 33) (.c (.p (.bool true))) (.t 36)⟩])
 (.cond (.t 37)
  (.seq (.reg [⟨(some 38), none, .bld [(.p (.str [])), (.p (.int .i64 0)), (.p (.int .i64 0)), .nils, .nils, .nils] []⟩,
    ⟨none, none, .st 6 (.t 6) (.t 38)⟩,
    ⟨(some 7), none, .mov (.c (.p (.bool false)))⟩])
  (.ret))
  (.skip)))
 (.seq (.reg [⟨(some 39), none, .fldA 0 (.t 3)⟩,
   ⟨(some 40), none, .ld none (.t 39)⟩,
   ⟨(some 41), none, .mov (.t 1)⟩,
   ⟨(some 42), none, .idxS 3 (.t 40) (.t 41)⟩,
   ⟨(some 43), none, .ld (some 3) (.t 42)⟩,
   ⟨(some 44), none, .call n_spec_l24Copy [(.t 43)]⟩,
   ⟨(some 8), none, .alloc [(.p (.int .i64 0)), (.p (.int .i64 0)), .nils]⟩,
   ⟨none, none, .st 3 (.t 8) (.t 44)⟩])
 (.seq (.reg [⟨(some 9), none, .mov (.c .any)⟩,
   ⟨(some 45), none, .mov (.t 2)⟩,
   ⟨(some 46), none, .mov (.t 1)⟩,
   ⟨(some 47), none, .idxS 1 (.t 45) (.t 46)⟩,
   ⟨(some 49), none, .fldA 0 (.t 8)⟩,
   ⟨(some 51), none, .fldA 1 (.t 8)⟩,
   ⟨(some 48), none, .ld none (.t 47)⟩,
   ⟨(some 50), none, .ld none (.t 49)⟩,
   ⟨(some 52), none, .ld none (.t 51)⟩,
   ⟨(some 53), none, .bsl 1 [(.p (.str []))] 0 []⟩,
   ⟨none, none, .chk none 47 48⟩,
   ⟨none, none, .chk none 49 50⟩,
   ⟨none, none, .chk none 51 52⟩,
   ⟨(some 54), none, .bld [(.p (.str [])), (.p (.int .i64 0)), (.p (.int .i64 0)), .nils, .nils, .nils] [(0, 1, (.t 48)), (1, 1, (.t 50)), (2, 1, (.t 52)), (5, 1, (.t 53))]⟩,
   ⟨(some 9), none, .alloc [(.p (.str [])), (.p (.int .i64 0)), (.p (.int .i64 0)), .nils, .nils, .nils]⟩,
   ⟨none, none, .st 6 (.t 9) (.t 54)⟩])
 (.seq (.seq (.reg [⟨(some 10), none, .mov (.c (.p (.int .i64 0)))⟩])
 (.blk 0 (.loop (.seq (.seq (.reg [⟨(some 55), none, .mov (.t 10)⟩,
   ⟨(some 56), none, .fldA 2 (.t 8)⟩,
   ⟨(some 57), none, .ld none (.t 56)⟩,
   ⟨(some 58), none, .len false (.t 57)⟩,
   ⟨(some 59), none, .bin .lss (.t 55) (.t 58)⟩])
 (.cond (.t 59)
  (.skip)
  (.exit 0)))
 (.seq (.blk 1 (.seq (.reg [⟨(some 62), none, .fldA 2 (.t 8)⟩,
   ⟨(some 63), none, .ld none (.t 62)⟩,
   ⟨(some 64), none, .mov (.t 10)⟩,
   ⟨(some 65), none, .idxS 5 (.t 63) (.t 64)⟩,
   ⟨(some 66), none, .fldA 0 (.t 65)⟩,
   ⟨(some 67), none, .ld none (.t 66)⟩,
   ⟨(some 68), none, .bin .eql (.t 67) (.c (.p (.int .i64 14)))⟩])
 (.cond (.t 68)
  (.seq (.reg [⟨(some 69), none, .fldA 5 (.t 9)⟩,
    ⟨(some 71), none, .mov (.t 2)⟩,
    ⟨(some 72), none, .fldA 2 (.t 8)⟩,
    ⟨(some 74), none, .mov (.t 10)⟩,
    ⟨(some 70), none, .ld none (.t 69)⟩,
    ⟨(some 73), none, .ld none (.t 72)⟩,
    ⟨(some 75), none, .idxS 5 (.t 73) (.t 74)⟩,
    ⟨(some 76), none, .fldA 4 (.t 75)⟩,
    ⟨(some 77), none, .ld none (.t 76)⟩,
    ⟨(some 78), none, .idxS 1 (.t 71) (.t 77)⟩,
    ⟨(some 79), none, .ld none (.t 78)⟩,
    ⟨(some 80), none, .bslP 1 [(.p (.str []))] 1 [(0, 1, (.t 79))]⟩,
    ⟨(some 81), none, .app 1 16 (.t 70) (.t 80)⟩,
    ⟨(some 82), none, .fldA 5 (.t 9)⟩,
    ⟨none, none, .st 1 (.t 82) (.t 81)⟩])
  (.reg [⟨(some 83), none, .fldA 2 (.t 8)⟩,
    ⟨(some 84), none, .ld none (.t 83)⟩,
    ⟨(some 85), none, .mov (.t 10)⟩,
    ⟨(some 86), none, .idxS 5 (.t 84) (.t 85)⟩,
    ⟨(some 87), none, .fldA 4 (.t 86)⟩,
    ⟨none, none, .st 1 (.t 87) (.c (.p (.int .i64 0)))⟩]))
  (.skip))))
 (.reg [⟨(some 60), none, .mov (.t 10)⟩,
   ⟨(some 61), none, .bin .add (.t 60) (.c (.p (.int .i64 1)))⟩,
   ⟨(some 10), none, .mov (.t 61)⟩]))))))
 (.seq (.reg [⟨(some 89), none, .ld (some 3) (.t 8)⟩,
   ⟨(some 90), none, .call n_spec_EncodeFn [(.t 89)]⟩,
   ⟨(some 88), none, .mov (.t 90)⟩,
   ⟨(some 91), none, .ext 0 (.t 88)⟩,
   ⟨(some 92), none, .ext 1 (.t 88)⟩,
   ⟨(some 11), none, .mov (.t 91)⟩,
   ⟨(some 12), none, .mov (.t 92)⟩])
 (.seq (.seq (.reg [⟨(some 93), none, .mov (.t 12)⟩,
   ⟨(some 94), none, .not (.t 93)⟩])
 (.cond (.t 94)
  (.seq (.reg [⟨(some 95), none, .bld [(.p (.str [])), (.p (.int .i64 0)), (.p (.int .i64 0)), .nils, .nils, .nils] []⟩,
    ⟨none, none, .st 6 (.t 6) (.t 95)⟩,
    ⟨(some 7), none, .mov (.c (.p (.bool false)))⟩])
  (.ret))
  (.skip)))
 (.seq (.reg [⟨(some 96), none, .mov (.t 11)⟩,
   ⟨(some 97), none, .fldA 3 (.t 9)⟩,
   ⟨none, none, .st 1 (.t 97) (.t 96)⟩])
 (.seq (.reg [⟨(some 98), none, .ld (some 3) (.t 8)⟩,
   ⟨(some 99), none, .call n_spec_l26Calls [(.t 98)]⟩,
   ⟨(some 100), none, .fldA 4 (.t 9)⟩,
   ⟨none, none, .st 1 (.t 100) (.t 99)⟩])
 (.seq (.reg [⟨(some 101), none, .ld (some 6) (.t 9)⟩,
   ⟨none, none, .st 6 (.t 6) (.t 101)⟩,
   ⟨(some 7), none, .mov (.c (.p (.bool true)))⟩])
 (.ret))))))))))⟩
theorem k_spec_ObjectOf : compF Tryd.prog n_spec_ObjectOf = some F_spec_ObjectOf := by kernel_rfl
def F_impl_ObjectOf : FK := ⟨106, [.c 6 (some 6), .t 7],
 .seq (.reg [⟨(some 3), none, .box 1 (.t 0)⟩,
   ⟨(some 6), none, .alloc [(.p (.str [])), (.p (.int .i64 0)), (.p (.int .i64 0)), .nils, .nils, .nils]⟩,
   ⟨(some 7), none, .mov (.c (.p (.bool false)))⟩])
 (.seq (.seq (.reg [⟨(some 15), none, .ld (some 1) (.t 3)⟩,
   ⟨(some 16), none, .call n_impl_MachValid [(.t 15)]⟩,
   ⟨(some 17), none, .not (.t 16)⟩,
   ⟨(some 18), none, .mov (.t 17)⟩,
   ⟨(some 19), (some (18, false)), .mov (.t 1)⟩,
   ⟨(some 20), (some (18, false)), .fldA 0 (.t 3)⟩,
   ⟨(some 21), (some (18, false)), .ld none (.t 20)⟩,
   ⟨(some 22), (some (18, false)), .len false (.t 21)⟩,
   ⟨(some 23), (some (18, false)), .bin .sub (.t 22) (.c (.p (.int .i64 1)))⟩,
   ⟨(some 24), (some (18, false)), .call n_impl_within [(.t 19), (.c (.p (.int .i64 0))), (.t 23)]⟩,
   ⟨(some 25), (some (18, false)), .not (.t 24)⟩,
   ⟨(some 26), none, .pick (.t 18) (.c (.p (.bool true))) (.t 25)⟩,
   ⟨(some 27), none, .mov (.t 26)⟩,
   ⟨(some 28), (some (27, false)), .mov (.t 2)⟩,
   ⟨(some 29), (some (27, false)), .len false (.t 28)⟩,
   ⟨(some 30), (some (27, false)), .fldA 0 (.t 3)⟩,
   ⟨(some 31), (some (27, false)), .ld none (.t 30)⟩,
   ⟨(some 32), (some (27, false)), .len false (.t 31)⟩,
   ⟨(some 33), (some (27, false)), .bin .neq (.t 29) (.t 32)⟩,
   ⟨(some 34), none, .pick (.t 27) (.c (.p (.bool true))) (.t 33)⟩])
 (.cond (.t 34)
  (.seq (.reg [⟨(some 35), none, .bld [(.p (.str [])), (.p (.int .i64 0)), (.p (.int .i64 0)), .nils, .nils, .nils] []⟩,
    ⟨none, none, .st 6 (.t 6) (.t 35)⟩,
    ⟨(some 7), none, .mov (.c (.p (.bool false)))⟩])
  (.ret))
  (.skip)))
 (.seq (.seq (.reg [⟨(some 36), none, .mov (.t 2)⟩,
   ⟨(some 37), none, .len false (.t 36)⟩,
   ⟨(some 38), none, .mov (.c (.p (.int .i64 0)))⟩])
 (.blk 0 (.loop (.seq (.reg [⟨(some 39), none, .bin .lss (.t 38) (.t 37)⟩])
 (.seq (.cond (.t 39)
  (.skip)
  (.exit 0))
 (.seq (.blk 1 (.seq (.reg [⟨(some 40), none, .mov (.t 38)⟩,
   ⟨(some 41), none, .idxS 1 (.t 36) (.t 38)⟩,
   ⟨(some 42), none, .ld none (.t 41)⟩,
   ⟨(some 8), none, .mov (.t 40)⟩,
   ⟨(some 9), none, .mov (.t 42)⟩])
 (.seq (.reg [⟨(some 43), none, .mov (.t 9)⟩,
   ⟨(some 44), none, .call n_impl_IsName [(.t 43)]⟩,
   ⟨(some 45), none, .not (.t 44)⟩,
   ⟨(some 46), none, .mov (.t 45)⟩,
   ⟨(some 47), (some (46, false)), .mov (.t 2)⟩,
   ⟨(some 48), (some (46, false)), .mov (.t 8)⟩,
   ⟨(some 49), (some (46, false)), .slS 1 (.t 47) none (some (.t 48))⟩,
   ⟨(some 50), (some (46, false)), .mov (.t 9)⟩,
   ⟨(some 51), (some (46, false)), .call n_slices_Contains_string [(.t 49), (.t 50)]⟩,
   ⟨(some 52), none, .pick (.t 46) (.c (.p (.bool true))) (.t 51)⟩])
 (.cond (.t 52)
  (.seq (.reg [⟨(some 53), none, .bld [(.p (.str [])), (.p (.int .i64 0)), (.p (.int .i64 0)), .nils, .nils, .nils] []⟩,
    ⟨none, none, .st 6 (.t 6) (.t 53)⟩,
    ⟨(some 7), none, .mov (.c (.p (.bool false)))⟩])
  (.ret))
  (.skip)))))
 (.reg [⟨(some 54), none, .bin .add (.t 38) (.c (.p (.int .i64 1)))⟩,
   ⟨(some 38), none, .mov (.t 54)⟩])))))))
 (.seq (.reg [⟨(some 55), none, .fldA 0 (.t 3)⟩,
   ⟨(some 56), none, .ld none (.t 55)⟩,
   ⟨(some 57), none, .mov (.t 1)⟩,
   ⟨(some 58), none, .idxS 3 (.t 56) (.t 57)⟩,
   ⟨(some 59), none, .ld (some 3) (.t 58)⟩,
   ⟨(some 10), none, .alloc [(.p (.int .i64 0)), (.p (.int .i64 0)), .nils]⟩,
   ⟨none, none, .st 3 (.t 10) (.t 59)⟩])
 (.seq (.seq (.reg [⟨(some 60), none, .ld (some 3) (.t 10)⟩,
   ⟨(some 61), none, .call n_impl_layoutOf [(.t 60)]⟩,
   ⟨(some 62), none, .pnil 0 false (.t 61)⟩])
 (.cond (.t 62)
  (.seq (.reg [⟨(some 63), none, .bld [(.p (.str [])), (.p (.int .i64 0)), (.p (.int .i64 0)), .nils, .nils, .nils] []⟩,
    ⟨none, none, .st 6 (.t 6) (.t 63)⟩,
    ⟨(some 7), none, .mov (.c (.p (.bool false)))⟩])
  (.ret))
  (.skip)))
 (.seq (.reg [⟨(some 11), none, .mov (.c .any)⟩,
   ⟨(some 64), none, .mov (.t 2)⟩,
   ⟨(some 65), none, .mov (.t 1)⟩,
   ⟨(some 66), none, .idxS 1 (.t 64) (.t 65)⟩,
   ⟨(some 68), none, .fldA 0 (.t 10)⟩,
   ⟨(some 70), none, .fldA 1 (.t 10)⟩,
   ⟨(some 67), none, .ld none (.t 66)⟩,
   ⟨(some 69), none, .ld none (.t 68)⟩,
   ⟨(some 71), none, .ld none (.t 70)⟩,
   ⟨(some 72), none, .bld [(.p (.str [])), (.p (.int .i64 0)), (.p (.int .i64 0)), .nils, .nils, .nils] [(0, 1, (.t 67)), (1, 1, (.t 69)), (2, 1, (.t 71))]⟩,
   ⟨(some 11), none, .alloc [(.p (.str [])), (.p (.int .i64 0)), (.p (.int .i64 0)), .nils, .nils, .nils]⟩,
   ⟨none, none, .st 6 (.t 11) (.t 72)⟩])
 (.seq (.reg [⟨(some 73), none, .ld (some 3) (.t 10)⟩,
   ⟨(some 74), none, .call n_impl_blank [(.t 73)]⟩,
   ⟨(some 12), none, .alloc [(.p (.int .i64 0)), (.p (.int .i64 0)), .nils]⟩,
   ⟨none, none, .st 3 (.t 12) (.t 74)⟩])
 (.seq (.reg [⟨(some 76), none, .ld (some 3) (.t 12)⟩,
   ⟨(some 77), none, .call n_impl_EncodeFn [(.t 76)]⟩,
   ⟨(some 75), none, .mov (.t 77)⟩,
   ⟨(some 78), none, .ext 0 (.t 75)⟩,
   ⟨(some 79), none, .ext 1 (.t 75)⟩,
   ⟨(some 80), none, .fldA 3 (.t 11)⟩,
   ⟨none, none, .st 1 (.t 80) (.t 78)⟩])
 (.seq (.reg [⟨(some 81), none, .ld (some 3) (.t 12)⟩,
   ⟨(some 82), none, .call n_impl_callBytes [(.t 81)]⟩,
   ⟨(some 83), none, .fldA 4 (.t 11)⟩,
   ⟨none, none, .st 1 (.t 83) (.t 82)⟩])
 (.seq (.seq (.reg [⟨(some 84), none, .fldA 2 (.t 10)⟩,
   ⟨(some 85), none, .ld none (.t 84)⟩,
   ⟨(some 86), none, .len false (.t 85)⟩,
   ⟨(some 87), none, .mov (.c (.p (.int .i64 0)))⟩])
 (.blk 2 (.loop (.seq (.reg [⟨(some 88), none, .bin .lss (.t 87) (.t 86)⟩])
 (.seq (.cond (.t 88)
  (.skip)
  (.exit 2))
 (.seq (.blk 3 (.seq (.reg [⟨(some 89), none, .idxS 5 (.t 85) (.t 87)⟩,
   ⟨(some 90), none, .ld (some 5) (.t 89)⟩,
   ⟨(some 14), none, .alloc [(.p (.int .i64 0)), (.p (.int .i64 0)), (.p (.int .i64 0)), (.p (.int .i64 0)), (.p (.int .i64 0))]⟩,
   ⟨none, none, .st 5 (.t 14) (.t 90)⟩])
 (.seq (.reg [⟨(some 91), none, .fldA 0 (.t 14)⟩,
   ⟨(some 92), none, .ld none (.t 91)⟩,
   ⟨(some 93), none, .bin .eql (.t 92) (.c (.p (.int .i64 14)))⟩])
 (.cond (.t 93)
  (.reg [⟨(some 94), none, .fldA 5 (.t 11)⟩,
    ⟨(some 96), none, .mov (.t 2)⟩,
    ⟨(some 97), none, .fldA 4 (.t 14)⟩,
    ⟨(some 95), none, .ld none (.t 94)⟩,
    ⟨(some 98), none, .ld none (.t 97)⟩,
    ⟨(some 99), none, .idxS 1 (.t 96) (.t 98)⟩,
    ⟨(some 100), none, .ld none (.t 99)⟩,
    ⟨(some 101), none, .bslP 1 [(.p (.str []))] 1 [(0, 1, (.t 100))]⟩,
    ⟨(some 102), none, .app 1 16 (.t 95) (.t 101)⟩,
    ⟨(some 103), none, .fldA 5 (.t 11)⟩,
    ⟨none, none, .st 1 (.t 103) (.t 102)⟩])
  (.skip)))))
 (.reg [⟨(some 104), none, .bin .add (.t 87) (.c (.p (.int .i64 1)))⟩,
   ⟨(some 87), none, .mov (.t 104)⟩])))))))
 (.seq (.reg [⟨(some 105), none, .ld (some 6) (.t 11)⟩,
   ⟨none, none, .st 6 (.t 6) (.t 105)⟩,
   ⟨(some 7), none, .mov (.c (.p (.bool true)))⟩])
 (.ret)))))))))))⟩
theorem k_impl_ObjectOf : compF Tryd.prog n_impl_ObjectOf = some F_impl_ObjectOf := by kernel_rfl
end Go.Proofs.YtbbobekgnclkfaaDoor
namespace Go.Proofs.YtbbobekgnclkfaaDoor
open Go Go.Aw
set_option maxRecDepth 100000
set_option maxHeartbeats 4000000
structure Mins where (op a b c n : Int)
deriving DecidableEq
def Mins.cs (m : Mins) : List PV := [.int .i64 m.op, .int .i64 m.a, .int .i64 m.b, .int .i64 m.c, .int .i64 m.n]
structure Mfn where (params slots : Int) (ins : List Mins)
deriving DecidableEq
def Mfn.cs (m : Mfn) : List PV := [.int .i64 m.params, .int .i64 m.slots, .lst 5 (m.ins.map Mins.cs)]
@[simp] theorem Mins.cs_len (m : Mins) : m.cs.length = 5 := rfl
@[simp] theorem Mins.cs_take (m : Mins) : List.take 5 (m.cs.map AV.p) = m.cs.map AV.p := rfl
@[simp] theorem Mfn.cs_len (m : Mfn) : m.cs.length = 3 := rfl
@[simp] theorem Mfn.cs_take (m : Mfn) : List.take 3 (m.cs.map AV.p) = m.cs.map AV.p := rfl
def insL (l : List Mins) : PV := .lst 5 (l.map Mins.cs)
def fnsL (l : List Mfn) : PV := .lst 3 (l.map Mfn.cs)
/-- bytes -/
def bysL (l : List Int) : PV := .lst 1 (l.map fun n => [.int .u8 n])
variable (G : Glob)
def szF (fs : List Mfn) : Nat := fs.length + (fs.map (·.ins.length)).sum
def szT (fs : List Mfn) (i : Nat) : Nat := ((fs.take i).map (·.ins.length)).sum
theorem szT_succ {fs : List Mfn} {i : Nat} (h : i < fs.length) : szT fs (i + 1) = szT fs i + fs[i].ins.length := by
  simp only [szT]
  rw [List.take_add_one, List.getElem?_eq_getElem h]
  simp only [Option.toList_some, List.map_append, List.sum_append, List.map_cons, List.map_nil, List.sum_cons, List.sum_nil, Nat.add_zero]
theorem szT_all {fs : List Mfn} {i : Nat} (h : fs.length ≤ i) : szT fs i = (fs.map (·.ins.length)).sum := by rw [szT, List.take_of_length_le h]
theorem szT_le {fs : List Mfn} : ∀ {i : Nat}, szT fs i ≤ (fs.map (·.ins.length)).sum := fun {i} => by
  rw [← List.take_append_drop i fs, List.map_append, List.sum_append]
  simp [szT]
@[simp] theorem szT_zero (fs : List Mfn) : szT fs 0 = 0 := by simp [szT]
def zMfn : List AV := [.p (.int .i64 0), .p (.int .i64 0), .nils]
end Go.Proofs.YtbbobekgnclkfaaDoor
namespace Go.Proofs.YtbbobekgnclkfaaDoor
open Go Go.Aw
set_option maxRecDepth 100000
set_option maxHeartbeats 4000000
def Mins.av (m : Mins) : List AV := m.cs.map .p
theorem Mins.av_eq (m : Mins) : m.av = [.p (.int .i64 m.op), .p (.int .i64 m.a), .p (.int .i64 m.b), .p (.int .i64 m.c), .p (.int .i64 m.n)] := rfl
def insO (l : List Mins) : AO := .row 5 (l.map Mins.av)
/-- A function that is owned: its text lies in the object 'id'. -/
def Mfn.ov (id : Nat) (m : Mfn) : List AV := [.p (.int .i64 m.params), .p (.int .i64 m.slots), .sl id 5 0 m.ins.length]
/-- A list of functions that is owned, from the object b on. -/
def fnsR (b : Nat) : List Mfn → List (List AV)
  | [] => []
  | m :: r => m.ov b :: fnsR (b + 1) r
theorem fnsR_len : ∀ (fs : List Mfn) (b : Nat), (fnsR b fs).length = fs.length
  | [], _ => rfl
  | _ :: r, b => by simp [fnsR, fnsR_len r]
theorem fnsR_get : ∀ {fs : List Mfn} {b i : Nat}, (fnsR b fs)[i]? = (fs[i]?).map (Mfn.ov (b + i))
  | [], _, _ => by simp [fnsR]
  | m :: r, b, 0 => by simp [fnsR]
  | m :: r, b, i + 1 => by simp [fnsR, fnsR_get (fs := r), Nat.add_assoc, Nat.add_comm 1 i]
variable (G : Glob)
theorem take_succ' {α : Type} {xs : List α} {i : Nat} (h : i < xs.length) : xs.take (i + 1) = xs.take i ++ [xs[i]] := by
  rw [List.take_add_one, List.getElem?_eq_getElem h]; rfl
/-- As many instructions in each. -/
def Like (fs gs : List Mfn) : Prop := fs.length = gs.length ∧ ∀ (k : Nat) (m m' : Mfn), fs[k]? = some m → gs[k]? = some m' → m.ins.length = m'.ins.length
theorem Like.refl (fs : List Mfn) : Like fs fs := ⟨rfl, fun k m m' h1 h2 => by rw [h1] at h2; cases h2; rfl⟩
def bysO (l : List Int) : AO := .row 1 (l.map fun n => [.p (.int .u8 n)])
end Go.Proofs.YtbbobekgnclkfaaDoor
namespace Go.Proofs.YtbbobekgnclkfaaDoor
open Go Go.Aw
set_option maxRecDepth 100000
set_option maxHeartbeats 4000000
variable (G : Glob)
def inR (n lo hi : Int) : Bool := decide (lo ≤ n ∧ n ≤ hi)
def fA (op : Int) : Bool := op != 14 && op != 20
def fB (op : Int) : Bool := inR op 2 12
def fC (op : Int) : Bool := inR op 3 9
def fN (op : Int) : Bool := op == 1 || inR op 14 18 || op == 20 || op == 21
def mostN (params slots len k op : Int) : Int :=
  if op = 1 then 255 else if op = 14 then k - 1 else if op = 15 ∨ op = 16 then slots - 1 else if op = 17 then 2 else if op = 18 then params - 1 else len - 1
/-- An instruction of the k-th function, which has params, slots, len. -/
def insOk (params slots len k : Int) (x : Mins) : Bool :=
  inR x.op 1 22 && (fA x.op || x.a == 0) && (fB x.op || x.b == 0) && (fC x.op || x.c == 0) && (fN x.op || x.n == 0) &&
  inR x.a 0 7 && inR x.b 0 7 && inR x.c 0 7 && (!fN x.op || inR x.n 0 (mostN params slots len k x.op))
def lastOk (l : List Mins) : Bool := match l.getLast? with | some x => x.op == 20 || x.op == 22 | none => false
def fnOk (k : Int) (f : Mfn) : Bool := inR f.params 0 3 && inR f.slots 0 64 && lastOk f.ins && f.ins.all (insOk f.params f.slots f.ins.length k)
def fnsOk : Int → List Mfn → Bool
  | _, [] => true
  | k, f :: r => fnOk k f && fnsOk (k + 1) r
def insSum (fs : List Mfn) : Nat := (fs.map (·.ins.length)).sum
def machOk (fs : List Mfn) : Bool := inR fs.length 1 4 && decide (insSum fs ≤ 2000) && fnsOk 0 fs
def wordT : List (List UInt8) := [[], [115, 101, 116], [109, 111, 118, 101], [97, 100, 100], [115, 117, 98], [109, 117, 108], [100, 105, 118], [114, 101, 109], [108, 101, 115, 115], [115, 97, 109, 101], [110, 111, 116], [108, 111, 97, 100], [115, 116, 111, 114, 101], [115, 97, 121], [99, 97, 108, 108], [107, 101, 101, 112], [116, 97, 107, 101], [103, 105, 118, 101], [102, 101, 116, 99, 104], [114, 101, 115, 117, 108, 116], [106, 117, 109, 112], [98, 114, 97, 110, 99, 104], [98, 97, 99, 107]]
def fldT : List (List UInt8) := [[], [65, 78], [65, 66], [65, 66, 67], [65, 66, 67], [65, 66, 67], [65, 66, 67], [65, 66, 67], [65, 66, 67], [65, 66, 67], [65, 66], [65, 66], [65, 66], [65], [78], [65, 78], [65, 78], [65, 78], [65, 78], [65], [78], [65, 78], [65]]
def wordOf (op : Int) : List UInt8 := if inR op 1 22 then wordT.getD op.toNat [] else []
def fldOf (op : Int) : List UInt8 := if inR op 1 22 then fldT.getD op.toNat [] else []
theorem s_l1In (n lo hi : Int) : VF Tryd.prog G n_spec_l1In [.p (.int .i64 n), .p (.int .i64 lo), .p (.int .i64 hi)] (.p (.bool (inR n lo hi))) := by
  refine AC.enter k_spec_l1In ?_
  simp -implicitDefEqProofs [F_spec_l1In, List.replicate]
  refine cnd (fun h => ?_) (fun h => ?_)
  · simp at h; simp [inR, h]
  · simp at h
    have : ¬ (lo ≤ n) := by omega
    simp [inR, h, this]
theorem i_within (n lo hi : Int) : VF Tryd.prog G n_impl_within [.p (.int .i64 n), .p (.int .i64 lo), .p (.int .i64 hi)] (.p (.bool (inR n lo hi))) := by
  refine AC.enter k_impl_within ?_
  simp -implicitDefEqProofs [F_impl_within, List.replicate]
  refine cnd (fun h => ?_) (fun h => ?_)
  · simp at h; simp [inR, h]
  · simp at h
    have : ¬ (lo ≤ n) := by omega
    simp [inR, h, this]
theorem op22 {op : Int} (h : inR op 1 22 = true) : op = 1 ∨ op = 2 ∨ op = 3 ∨ op = 4 ∨ op = 5 ∨ op = 6 ∨ op = 7 ∨ op = 8 ∨ op = 9 ∨ op = 10 ∨ op = 11 ∨ op = 12 ∨ op = 13 ∨ op = 14 ∨ op = 15 ∨ op = 16 ∨ op = 17 ∨ op = 18 ∨ op = 19 ∨ op = 20 ∨ op = 21 ∨ op = 22 := by
  simp [inR] at h; omega
theorem s_l22Word (op : Int) : VF Tryd.prog G n_spec_l22Word [.p (.int .i64 op)] (.tup [.p (.str (wordOf op)), .p (.str (fldOf op))]) := by
  refine AC.enter k_spec_l22Word ?_
  simp -implicitDefEqProofs [F_spec_l22Word, List.replicate]
  refine (s_l1In G op 1 22).use ?_
  simp -implicitDefEqProofs
  refine cnd (fun h => ?_) (fun h => ?_)
  · simp at h; simp [wordOf, fldOf, h]
  · simp at h
    have h2 := h
    simp [inR] at h2
    have h3 : op.toNat < 23 := by omega
    rcases op22 h with rfl | rfl | rfl | rfl | rfl | rfl | rfl | rfl | rfl | rfl | rfl | rfl | rfl | rfl | rfl | rfl | rfl | rfl | rfl | rfl | rfl | rfl <;> simp -implicitDefEqProofs [wordOf, fldOf, inR, wordT, fldT]
def fieldV (x : Mins) (n : Int) : Int := if n = 65 then x.a else if n = 66 then x.b else if n = 67 then x.c else x.n
theorem s_l22Field (x : Mins) (n : Int) : VF Tryd.prog G n_spec_l22Field [.agg (x.cs.map .p), .p (.int .u8 n)] (.p (.int .i64 (fieldV x n))) := by
  refine AC.enter k_spec_l22Field ?_
  simp -implicitDefEqProofs [F_spec_l22Field, List.replicate, Mins.cs]
  refine cnd (fun h => ?_) fun h => cnd (fun h => ?_) fun h => cnd (fun h => ?_) fun h => ?_
  all_goals simp_all [fieldV]
def chrs : List UInt8 := [65, 66, 67, 78]
def restJ (x : Mins) (fields : List UInt8) (j : Nat) : Bool := fields.contains (chrs.getD j 0) || fieldV x (chrs.getD j 0).toNat == 0
def restOk (x : Mins) (fields : List UInt8) : Bool := (List.range 4).all (restJ x fields)
theorem u8_eq {a b : UInt8} : ((a.toNat : Int) = (b.toNat : Int)) ↔ b = a := by
  rw [Int.natCast_inj, UInt8.toNat_inj]; exact eq_comm
theorem s_l22Rest (x : Mins) (fields : List UInt8) (hb : fields.length ≤ 1048576) : VF Tryd.prog G n_spec_l22Rest [.agg (x.cs.map .p), .p (.str fields)] (.p (.bool (restOk x fields))) := by
  refine AC.enter k_spec_l22Rest ?_
  simp -implicitDefEqProofs [F_spec_l22Rest, List.replicate]
  refine loopA (fun i : Nat => slots 37 [(1, .p (.str fields)), (2, .ptr 0 5 0 0), (5, .p (.int .i64 i))]) (fun _ => [.row 5 [x.cs.map .p]]) (fun i => i ≤ 4 ∧ ∀ j, j < i → restJ x fields j = true) (fun i => 4 - i) 0 (by simp) (wk_same (by simp) (by simp [okO]) (by simp [slots, List.replicate, below])) ?_
  intro i ⟨hi, hj⟩
  simp -implicitDefEqProofs [slots, List.replicate]
  refine cnd (fun h1 => ?_) (fun h1 => ?_)
  · simp at h1
    obtain ⟨c, hc⟩ : ∃ c, chrs[i]? = some c := ⟨chrs[i]'(by simp [chrs]; omega), List.getElem?_eq_getElem _⟩
    have hc' := hc
    simp only [chrs] at hc'
    simp -implicitDefEqProofs [hc']
    refine loopA (fun k : Nat => slots 37 [(1, .p (.str fields)), (2, .ptr 0 5 0 0), (5, .p (.int .i64 i)), (6, .p (.int .u8 c.toNat)), (7, .p (.bool ((fields.take k).contains c))), (8, .p (.int .i64 k))]) (fun _ => [.row 5 [x.cs.map .p]]) (fun k => k ≤ fields.length) (fun k => fields.length - k) 0 (by simp) (wk_same (by simp) (by simp [okO]) (by simp [slots, List.replicate, below])) ?_
    intro k hk
    simp -implicitDefEqProofs [slots, List.replicate]
    refine cnd (fun h2 => ?_) (fun h2 => ?_)
    · simp at h2
      have hw := w1 (i := k) (by omega)
      have hct : (fields.take (k + 1)).contains c = ((fields.take k).contains c || c == fields[k]) := by
        rw [take_succ' h2]; simp only [List.contains_eq_any_beq, List.any_append, List.any_cons, List.any_nil, Bool.or_false]
      simp -implicitDefEqProofs [List.getElem?_eq_getElem h2]
      refine cnd (fun h3 => ?_) (fun h3 => ?_)
      · simp -implicitDefEqProofs [h3]
        refine ⟨k + 1, h2, by omega, wk_same (by simp) (by simp [okO]) ?_⟩
        simp -implicitDefEqProofs [below, hw]
        simp at h3 hct
        simp [hct, h3]
        rw [Bool.eq_iff_iff]; simp [u8_eq]
      · simp -implicitDefEqProofs [h3]
        refine ⟨k + 1, h2, by omega, wk_same (by simp) (by simp [okO]) ?_⟩
        simp -implicitDefEqProofs [below, hw]
        simp at h3 hct
        simp [hct, h3]
    · simp at h2
      have hke : k = fields.length := by omega
      subst hke
      have hcd : chrs.getD i 0 = c := by rw [List.getD_eq_getElem?_getD, hc]; rfl
      by_cases hin : c ∈ fields
      · simp -implicitDefEqProofs [hin]
        refine ⟨i + 1, ⟨by omega, fun j hji => ?_⟩, by omega, wk_same (by simp) (by simp [okO]) ?_⟩
        · rcases Nat.lt_or_ge j i with h3 | h3
          · exact hj j h3
          · obtain rfl : j = i := by omega
            simp only [restJ, hcd]; simp [hin]
        · simp [below, w1 (i := i) (by omega)]
      · simp -implicitDefEqProofs [hin]
        refine (s_l22Field G x c.toNat).use ?_
        simp -implicitDefEqProofs []
        refine cnd (fun h3 => ?_) (fun h3 => ?_)
        · simp at h3
          have : restJ x fields i = false := by simp only [restJ, hcd]; simp [hin, h3]
          simp [restOk, List.all_eq_false]
          exact ⟨i, by omega, by simp [this]⟩
        · simp at h3
          refine ⟨i + 1, ⟨by omega, fun j hji => ?_⟩, by omega, wk_same (by simp) (by simp [okO]) ?_⟩
          · rcases Nat.lt_or_ge j i with h4 | h4
            · exact hj j h4
            · obtain rfl : j = i := by omega
              simp only [restJ, hcd]; simp [h3]
          · simp [below, w1 (i := i) (by omega)]
  · simp at h1
    have : i = 4 := by omega
    subst this
    simp [restOk]
    exact hj
def chkOk (x : Mins) (fields : List UInt8) : Bool := fields.all fun c => c == 78 || inR (fieldV x c.toNat) 0 7
theorem insOk_eq (p s l k : Int) (x : Mins) : insOk p s l k x = (inR x.op 1 22 && restOk x (fldOf x.op) && chkOk x (fldOf x.op) && (!fN x.op || inR x.n 0 (mostN p s l k x.op))) := by
  by_cases h : inR x.op 1 22 = true
  · have e : (restOk x (fldOf x.op) && chkOk x (fldOf x.op)) = ((fA x.op || x.a == 0) && (fB x.op || x.b == 0) && (fC x.op || x.c == 0) && (fN x.op || x.n == 0) && inR x.a 0 7 && inR x.b 0 7 && inR x.c 0 7) := by
      obtain ⟨op, a, b, c, n⟩ := x
      simp only at h ⊢
      rcases op22 h with rfl | rfl | rfl | rfl | rfl | rfl | rfl | rfl | rfl | rfl | rfl | rfl | rfl | rfl | rfl | rfl | rfl | rfl | rfl | rfl | rfl | rfl <;> simp [restOk, restJ, chkOk, fldOf, fldT, fieldV, chrs, fA, fB, fC, fN, inR, List.range, List.range.loop] <;> (rw [Bool.eq_iff_iff]; simp; try omega)
    simp only [insOk, h, Bool.true_and]
    rw [e]
  · simp [insOk, h]
end Go.Proofs.YtbbobekgnclkfaaDoor
namespace Go.Proofs.YtbbobekgnclkfaaDoor
open Go Go.Aw
set_option maxRecDepth 100000
set_option maxHeartbeats 4000000
variable (G : Glob)
theorem fldOf_bad {op : Int} (h : inR op 1 22 = false) : fldOf op = [] := by simp [fldOf, h]
theorem fldOf_good {op : Int} (h : inR op 1 22 = true) : fldOf op ≠ [] ∧ (fldOf op).length ≤ 3 := by
  rcases op22 h with rfl | rfl | rfl | rfl | rfl | rfl | rfl | rfl | rfl | rfl | rfl | rfl | rfl | rfl | rfl | rfl | rfl | rfl | rfl | rfl | rfl | rfl <;> simp [fldOf, fldT, inR]
theorem s_l22Ins (fs : List Mfn) (k : Nat) (f : Mfn) (x : Mins) (hk : fs[k]? = some f) (hk2 : k ≤ 1048576) (hl : f.ins.length ≤ 1048576) (hp : inR f.params 0 3 = true) (hs : inR f.slots 0 64 = true) :
    VF Tryd.prog G n_spec_l22Ins [.agg [.p (fnsL fs)], .p (.int .i64 k), .agg (x.cs.map .p)] (.p (.bool (insOk f.params f.slots f.ins.length k x))) := by
  refine AC.enter k_spec_l22Ins ?_
  have hkm : (fs.map Mfn.cs)[k]? = some f.cs := by rw [List.getElem?_map, hk]; rfl
  rw [insOk_eq]
  simp -implicitDefEqProofs [F_spec_l22Ins, List.replicate, fnsL, hkm]
  simp -implicitDefEqProofs [Mins.cs]
  refine (s_l22Word G x.op).use ?_
  by_cases hop : inR x.op 1 22 = true
  · obtain ⟨g1, g2⟩ := fldOf_good hop
    simp -implicitDefEqProofs [g1, hop]
    generalize hfl : fldOf x.op = fields at g1 g2
    refine (s_l22Rest G x fields (by omega)).use ?_
    simp -implicitDefEqProofs
    by_cases hr : restOk x fields = true
    · simp -implicitDefEqProofs [hr]
      refine loopA (fun i : Nat => slots 95 [(1, .p (.int .i64 k)), (5, .ptr 1 5 0 0), (7, .ptr 2 3 0 0), (9, .p (.str fields)), (10, .p (.int .i64 i))]) (fun _ => [.row 1 [[.p (fnsL fs)]], .row 5 [x.cs.map .p], .row 3 [f.cs.map .p]])
        (fun i => i ≤ fields.length ∧ chkOk x (fields.take i) = true) (fun i => fields.length - i) 0 (by simp [chkOk]) ?_ ?_
      · refine wk_same (by simp) (by simp [okO, Mins.cs, Mfn.cs]) (by simp [slots, List.replicate, below])
      · intro i ⟨hi, hc⟩
        simp -implicitDefEqProofs [slots, List.replicate]
        refine cnd (fun h1 => ?_) (fun h1 => ?_)
        · simp at h1
          simp -implicitDefEqProofs [List.getElem?_eq_getElem h1]
          have hct : chkOk x (fields.take (i + 1)) = (chkOk x (fields.take i) && (fields[i] == 78 || inR (fieldV x fields[i].toNat) 0 7)) := by
            rw [chkOk, take_succ' h1, List.all_append]; simp [chkOk]
          have hbad : (fields[i] == 78 || inR (fieldV x fields[i].toNat) 0 7) = false → chkOk x fields = false := fun h => by
            rw [chkOk, List.all_eq_false]
            exact ⟨fields[i], List.getElem_mem h1, by simpa using h⟩
          by_cases h78 : fields[i] = 78
          · simp -implicitDefEqProofs [h78]
            refine ⟨i + 1, ⟨by omega, by rw [hct, hc, h78]; rfl⟩, by omega, wk_same (by simp) (by simp [okO, Mins.cs, Mfn.cs]) ?_⟩
            simp [below, w1 (i := i) (by omega)]
          · have h78' : ¬ ((fields[i].toNat : Int) = 78) := fun e => h78 (u8_eq (b := 78) |>.1 e).symm
            simp -implicitDefEqProofs [h78']
            refine (s_l22Field G x _).use ?_
            simp -implicitDefEqProofs
            refine (s_l1In G _ _ _).use ?_
            simp -implicitDefEqProofs
            refine cnd (fun h3 => ?_) (fun h3 => ?_)
            · simp at h3
              simp -implicitDefEqProofs [hbad (by simp [h78, h3])]
            · simp at h3
              refine ⟨i + 1, ⟨by omega, by rw [hct, hc]; simp [h3]⟩, by omega, wk_same (by simp) (by simp [okO, Mins.cs, Mfn.cs]) ?_⟩
              simp [below, w1 (i := i) (by omega)]
        · simp at h1
          have hall : chkOk x fields = true := by rw [List.take_of_length_le h1] at hc; exact hc
          simp [inR] at hp hs
          have hwk : IntKind.i64.wrap ((k : Int) - 1) = (k : Int) - 1 := i64_small (by omega) (by omega)
          have hwp : IntKind.i64.wrap (f.params - 1) = f.params - 1 := i64_small (by omega) (by omega)
          have hws : IntKind.i64.wrap (f.slots - 1) = f.slots - 1 := i64_small (by omega) (by omega)
          have hwl : IntKind.i64.wrap ((f.ins.length : Int) - 1) = (f.ins.length : Int) - 1 := i64_small (by omega) (by omega)
          have hsel : x.op = 1 ∨ x.op = 14 ∨ x.op = 15 ∨ x.op = 16 ∨ x.op = 17 ∨ x.op = 18 ∨ x.op = 20 ∨ x.op = 21 ∨ (x.op ≠ 1 ∧ x.op ≠ 14 ∧ x.op ≠ 15 ∧ x.op ≠ 16 ∧ x.op ≠ 17 ∧ x.op ≠ 18 ∧ x.op ≠ 20 ∧ x.op ≠ 21) := by omega
          rcases hsel with e | e | e | e | e | e | e | e | ⟨e1, e2, e3, e4, e5, e6, e7, e8⟩
          case inr.inr.inr.inr.inr.inr.inr.inr =>
            have hfn : fN x.op = false := by simp [inR] at hop; simp [fN, inR, e1, e7, e8]; omega
            simp -implicitDefEqProofs [Mins.cs, e1, e2, e3, e4, e5, e6, e7, e8, hall, hfn]
          all_goals
            simp -implicitDefEqProofs [Mins.cs, Mfn.cs, e, hwk, hwp, hws, hwl]
            refine (s_l1In G _ _ _).use ?_
            simp -implicitDefEqProofs [hall, fN, mostN, inR]
    · simp -implicitDefEqProofs [hr]
  · simp -implicitDefEqProofs [fldOf_bad (by simpa using hop), hop]
end Go.Proofs.YtbbobekgnclkfaaDoor
namespace Go.Proofs.YtbbobekgnclkfaaDoor
open Go Go.Aw
set_option maxRecDepth 100000
set_option maxHeartbeats 4000000
variable (G : Glob)
theorem fnsOk_get : ∀ {fs : List Mfn} {k : Int} {i : Nat} {f : Mfn}, fnsOk k fs = true → fs[i]? = some f → fnOk (k + i) f = true
  | g :: r, k, 0, f, h, e => by
    simp only [fnsOk, Bool.and_eq_true] at h
    cases e; simpa using h.1
  | g :: r, k, i + 1, f, h, e => by
    simp only [fnsOk, Bool.and_eq_true] at h
    have := fnsOk_get h.2 (i := i) (f := f) (by simpa using e)
    rw [show k + ((i + 1 : Nat) : Int) = k + 1 + (i : Int) by omega]; exact this
theorem fnsOk_all : ∀ {fs : List Mfn} {k : Int}, (∀ (i : Nat) f, fs[i]? = some f → fnOk (k + i) f = true) → fnsOk k fs = true
  | [], _, _ => rfl
  | g :: r, k, h => by
    simp only [fnsOk, Bool.and_eq_true]
    refine ⟨by simpa using h 0 g rfl, fnsOk_all fun i f e => ?_⟩
    have := h (i + 1) f (by simpa using e)
    rw [show k + ((i + 1 : Nat) : Int) = k + 1 + (i : Int) by omega] at this; exact this
theorem machBad {fs : List Mfn} {i : Nat} {f : Mfn} (e : fs[i]? = some f) (h : fnOk i f = false) : machOk fs = false := by
  cases hm : machOk fs with
  | false => rfl
  | true =>
    simp only [machOk, Bool.and_eq_true] at hm
    have := fnsOk_get hm.2 e
    rw [Int.zero_add, h] at this; cases this
theorem lastOk_get {l : List Mins} (h : 0 < l.length) : lastOk l = (l[l.length - 1].op == 20 || l[l.length - 1].op == 22) := by
  rw [lastOk, List.getLast?_eq_getElem?, List.getElem?_eq_getElem (by omega)]
theorem s_MachValid (fs : List Mfn) (hb : szF fs ≤ 1048576) : VF Tryd.prog G n_spec_MachValid [.agg [.p (fnsL fs)]] (.p (.bool (machOk fs))) := by
  have hsz : szF fs = fs.length + (fs.map (·.ins.length)).sum := rfl
  refine AC.enter k_spec_MachValid ?_
  simp -implicitDefEqProofs [F_spec_MachValid, List.replicate, fnsL]
  refine (s_l1In G _ _ _).use ?_
  simp -implicitDefEqProofs
  refine cnd (fun h => ?_) (fun h => ?_)
  · simp at h; simp [machOk, h]
  simp at h
  refine loopA (fun i : Nat => slots 81 [(1, .ptr 0 1 0 0), (3, .p (.int .i64 (szT fs i))), (4, .p (.int .i64 i))]) (fun _ => [.row 1 [[.p (fnsL fs)]]])
    (fun i => i ≤ fs.length ∧ szT fs i ≤ 2000 ∧ ∀ j f, j < i → fs[j]? = some f → fnOk j f = true) (fun i => fs.length - i) 0 (by simp) (wk_same (by simp) (by simp [okO, fnsL]) (by simp [slots, List.replicate, below])) ?_
  intro i ⟨hi, hn, hok⟩
  simp -implicitDefEqProofs [slots, List.replicate, fnsL]
  refine cnd (fun h1 => ?_) (fun h1 => ?_)
  · simp at h1
    have hx := szT_succ h1
    have hx2 := szT_le (fs := fs) (i := i + 1)
    have hgi := List.getElem?_eq_getElem h1
    have hkm : (fs.map Mfn.cs)[i]? = some fs[i].cs := by rw [List.getElem?_map, hgi]; rfl
    have hw : IntKind.i64.wrap ((szT fs i : Int) + (fs[i].ins.length : Int)) = ((szT fs (i + 1) : Nat) : Int) := by rw [i64_small (by omega) (by omega), hx]; omega
    simp -implicitDefEqProofs [hgi]
    simp -implicitDefEqProofs [Mfn.cs, hw]
    refine (s_l1In G _ _ _).use ?_
    by_cases hp : inR fs[i].params 0 3 = true
    rotate_left
    · simp -implicitDefEqProofs [hp]
      exact (machBad hgi (by simp [fnOk, hp])).symm ▸ rfl
    simp -implicitDefEqProofs [hp]
    refine (s_l1In G _ _ _).use ?_
    by_cases hs : inR fs[i].slots 0 64 = true
    rotate_left
    · simp -implicitDefEqProofs [hs]
      exact (machBad hgi (by simp [fnOk, hs])).symm ▸ rfl
    by_cases h0 : fs[i].ins = []
    · simp -implicitDefEqProofs [hs, h0]
      exact (machBad hgi (by simp [fnOk, h0, lastOk])).symm ▸ rfl
    have hpos : 0 < fs[i].ins.length := List.length_pos_iff.2 h0
    simp -implicitDefEqProofs [hs, h0]
    refine cnd (fun h2 => ?_) (fun h2 => ?_)
    · simp at h2
      have : ¬ (insSum fs ≤ 2000) := by have := szT_le (fs := fs) (i := i + 1); simp only [insSum]; omega
      simp [machOk, this]
    simp at h2
    refine loopA (fun q : Nat => slots 81 [(1, .ptr 0 1 0 0), (3, .p (.int .i64 (szT fs (i + 1)))), (4, .p (.int .i64 i)), (5, .ptr 1 3 0 0), (6, .p (.int .i64 q))]) (fun _ => [.row 1 [[.p (fnsL fs)]], .row 3 [fs[i].cs.map .p]])
      (fun q => q ≤ fs[i].ins.length ∧ ∀ x ∈ fs[i].ins.take q, insOk fs[i].params fs[i].slots fs[i].ins.length i x = true) (fun q => fs[i].ins.length - q) 0 (by simp) (wk_same (by simp) (by simp [okO, fnsL, Mfn.cs]) (by simp [slots, List.replicate, below])) ?_
    intro q ⟨hq, hqs⟩
    simp -implicitDefEqProofs [slots, List.replicate, fnsL, Mfn.cs]
    refine cnd (fun h3 => ?_) (fun h3 => ?_)
    · simp at h3
      simp -implicitDefEqProofs [List.getElem?_eq_getElem h3]
      refine (s_l22Ins G fs i fs[i] fs[i].ins[q] hgi (by omega) (by omega) hp hs).use ?_
      simp -implicitDefEqProofs
      refine cnd (fun h4 => ?_) (fun h4 => ?_)
      · simp at h4
        have : (fs[i].ins.all (insOk fs[i].params fs[i].slots fs[i].ins.length i)) = false := by
          rw [List.all_eq_false]; exact ⟨_, List.getElem_mem h3, by simp [h4]⟩
        exact (machBad hgi (by simp [fnOk, this])).symm ▸ rfl
      · simp at h4
        refine ⟨q + 1, ⟨by omega, by
          intro x hx
          rw [take_succ' h3] at hx
          rcases List.mem_append.1 hx with hx | hx
          · exact hqs x hx
          · rw [List.mem_singleton.1 hx]; exact h4⟩, by omega, wk_same (by simp) (by simp [okO, fnsL]) ?_⟩
        simp [below, w1 (i := q) (by omega)]
    · simp at h3
      rw [List.take_of_length_le h3] at hqs
      have hwl : IntKind.i64.wrap ((fs[i].ins.length : Int) - 1) = ((fs[i].ins.length - 1 : Nat) : Int) := by rw [i64_small (by omega) (by omega)]; omega
      have hgl := List.getElem?_eq_getElem (l := fs[i].ins) (i := fs[i].ins.length - 1) (by omega)
      have hlo := lastOk_get hpos
      simp -implicitDefEqProofs [hwl, hgl, hpos, Mins.cs]
      have hfin : lastOk fs[i].ins = true → ∃ a, (a ≤ fs.length ∧ szT fs a ≤ 2000 ∧ ∀ (j : Nat) (f : Mfn), j < a → fs[j]? = some f → fnOk j f = true) ∧ a = i + 1 := fun hl => by
        refine ⟨i + 1, ⟨h1, by omega, fun j f hj e => ?_⟩, rfl⟩
        rcases Nat.lt_or_ge j i with hji | hji
        · exact hok j f hji e
        · obtain rfl : j = i := by omega
          rw [hgi] at e; cases e
          simp only [fnOk, hp, hs, hl, Bool.true_and, List.all_eq_true]
          exact hqs
      by_cases e20 : fs[i].ins[fs[i].ins.length - 1].op = 20
      · obtain ⟨a, h5, rfl⟩ := hfin (by rw [hlo]; simp [e20])
        simp -implicitDefEqProofs [e20]
        refine ⟨i + 1, h5, by omega, wk_fst (n := 1) (by simp) (fst_row rfl rfl (by simp [fnsL])) ?_⟩
        simp [below, w1 (i := i) (by omega)]
      · simp -implicitDefEqProofs [e20]
        refine cnd (fun h5 => ?_) (fun h5 => ?_)
        · simp at h5
          exact (machBad hgi (by simp [fnOk, hlo, e20, h5])).symm ▸ rfl
        · simp at h5
          obtain ⟨a, h6, rfl⟩ := hfin (by rw [hlo]; simp [h5])
          refine ⟨i + 1, h6, by omega, wk_fst (n := 1) (by simp) (fst_row rfl rfl (by simp [fnsL])) ?_⟩
          simp [below, w1 (i := i) (by omega)]
  · simp at h1
    have hall : fnsOk 0 fs = true := fnsOk_all fun j f e => by
      rw [Int.zero_add]; exact hok j f (by have := (List.getElem?_eq_some_iff.1 e).1; omega) e
    have : insSum fs ≤ 2000 := by rw [insSum, ← szT_all h1]; exact hn
    simp [machOk, hall, this, h]
end Go.Proofs.YtbbobekgnclkfaaDoor
namespace Go.Proofs.YtbbobekgnclkfaaDoor
open Go Go.Aw
set_option maxRecDepth 100000
set_option maxHeartbeats 4000000
abbrev g_magic : Nat := 0
abbrev g_forms : Nat := 2
def pvMagic : List PV := [.lst 1 [[.int .u8 87], [.int .u8 119]]]
def pvForms : List PV := [.str [], .int .i64 0, .str [115, 101, 116], .int .i64 9, .str [109, 111, 118, 101], .int .i64 3, .str [97, 100, 100], .int .i64 7, .str [115, 117, 98], .int .i64 7, .str [109, 117, 108], .int .i64 7, .str [100, 105, 118], .int .i64 7, .str [114, 101, 109], .int .i64 7, .str [108, 101, 115, 115], .int .i64 7, .str [115, 97, 109, 101], .int .i64 7, .str [110, 111, 116], .int .i64 3, .str [108, 111, 97, 100], .int .i64 3, .str [115, 116, 111, 114, 101], .int .i64 3, .str [115, 97, 121], .int .i64 1, .str [99, 97, 108, 108], .int .i64 8, .str [107, 101, 101, 112], .int .i64 9, .str [116, 97, 107, 101], .int .i64 9, .str [103, 105, 118, 101], .int .i64 9, .str [102, 101, 116, 99, 104], .int .i64 9, .str [114, 101, 115, 117, 108, 116], .int .i64 1, .str [106, 117, 109, 112], .int .i64 8, .str [98, 114, 97, 110, 99, 104], .int .i64 9, .str [98, 97, 99, 107], .int .i64 1]
def maskT : List Int := [0, 9, 3, 7, 7, 7, 7, 7, 7, 7, 3, 3, 3, 1, 8, 9, 9, 9, 9, 1, 8, 9, 1]
def maskOf (op : Int) : Int := maskT.getD op.toNat 0
theorem forms_at {op : Int} (h : inR op 1 22 = true) : ((pvForms.map AV.p).drop (op.toNat * 2)).take 2 = [.p (.str (wordOf op)), .p (.int .i64 (maskOf op))] ∧ op.toNat * 2 + 2 ≤ pvForms.length := by
  rcases op22 h with rfl | rfl | rfl | rfl | rfl | rfl | rfl | rfl | rfl | rfl | rfl | rfl | rfl | rfl | rfl | rfl | rfl | rfl | rfl | rfl | rfl | rfl <;> exact ⟨rfl, by decide⟩
theorem mask_cases {op : Int} (h : inR op 1 22 = true) : (maskOf op = 9 ∧ fA op = true ∧ fB op = false ∧ fC op = false ∧ fN op = true) ∨ (maskOf op = 3 ∧ fA op = true ∧ fB op = true ∧ fC op = false ∧ fN op = false) ∨
    (maskOf op = 7 ∧ fA op = true ∧ fB op = true ∧ fC op = true ∧ fN op = false) ∨ (maskOf op = 1 ∧ fA op = true ∧ fB op = false ∧ fC op = false ∧ fN op = false) ∨ (maskOf op = 8 ∧ fA op = false ∧ fB op = false ∧ fC op = false ∧ fN op = true) := by
  rcases op22 h with rfl | rfl | rfl | rfl | rfl | rfl | rfl | rfl | rfl | rfl | rfl | rfl | rfl | rfl | rfl | rfl | rfl | rfl | rfl | rfl | rfl | rfl <;> decide
def okI (x : Mins) : Nat → Bool
  | 0 => fA x.op || x.a == 0
  | 1 => fB x.op || x.b == 0
  | 2 => fC x.op || x.c == 0
  | _ => fN x.op || x.n == 0
def formOk (x : Mins) : Bool := inR x.op 1 22 && okI x 0 && okI x 1 && okI x 2 && okI x 3
variable (G : Glob) (hG : G g_forms = some pvForms)
include hG
theorem i_formOf (x : Mins) : VF Tryd.prog G n_impl_formOf [.agg (x.cs.map .p)] (.tup [.agg [.p (.str (if formOk x then wordOf x.op else [])), .p (.int .i64 (if formOk x then maskOf x.op else 0))], .p (.bool (formOk x))]) := by
  refine AC.enter k_impl_formOf ?_
  simp -implicitDefEqProofs [F_impl_formOf, List.replicate]
  simp -implicitDefEqProofs [Mins.cs]
  refine (i_within G _ _ _).use ?_
  by_cases hop : inR x.op 1 22 = true
  rotate_left
  · simp -implicitDefEqProofs [hop, formOk]
  obtain ⟨f1, f2⟩ := forms_at hop
  have hop' := hop
  simp [inR] at hop'
  have hG' : G 2 = some pvForms := hG
  simp -implicitDefEqProofs [hop, hG', f1, f2]
  refine ⟨by omega, ?_⟩
  rcases mask_cases hop with ⟨m0, m1, m2, m3, m4⟩ | ⟨m0, m1, m2, m3, m4⟩ | ⟨m0, m1, m2, m3, m4⟩ | ⟨m0, m1, m2, m3, m4⟩ | ⟨m0, m1, m2, m3, m4⟩
  all_goals
    rw [m0]
    refine loopA (fun i : Nat => slots 42 [(1, .ptr 0 5 0 0), (2, .ptr 1 2 0 0), (4, .ptr 2 2 0 0), (24, .agg [.p (.int .i64 x.a), .p (.int .i64 x.b), .p (.int .i64 x.c), .p (.int .i64 x.n)]), (25, .p (.int .i64 i))])
      (fun _ => [.row 5 [x.cs.map .p], .row 2 [[.p (.str []), .p (.int .i64 0)]], .row 2 [[.p (.str (wordOf x.op)), .p (.int .i64 _)]]]) (fun i => i ≤ 4 ∧ ∀ j, j < i → okI x j = true) (fun i => 4 - i) 0 (by simp) (wk_same (by simp) (by simp [okO]) (by simp [slots, List.replicate, below])) ?_
    rintro i ⟨hi, hj⟩
    have hsplit : i = 0 ∨ i = 1 ∨ i = 2 ∨ i = 3 ∨ i = 4 := by omega
    have hbad : ∀ j, j < 4 → okI x j = false → formOk x = false := fun j hj h => by
      have : j = 0 ∨ j = 1 ∨ j = 2 ∨ j = 3 := by omega
      rcases this with rfl | rfl | rfl | rfl <;> simp [formOk, h]
    have hnext : ∀ {ts : List AV} {b : List AO} (i : Nat), okI x i = true → (∀ j, j < i → okI x j = true) → ∀ j, j < i + 1 → okI x j = true := fun i h1 h2 j h3 => by
      rcases Nat.lt_or_ge j i with h4 | h4
      · exact h2 j h4
      · obtain rfl : j = i := by omega
        exact h1
    rcases hsplit with rfl | rfl | rfl | rfl | rfl
    case inr.inr.inr.inr =>
      have h0 := hj 0 (by omega)
      have h1 := hj 1 (by omega)
      have h2 := hj 2 (by omega)
      have h3 := hj 3 (by omega)
      have hf : formOk x = true := by simp [formOk, hop, h0, h1, h2, h3]
      simp -implicitDefEqProofs [slots, List.replicate, hf, m0]
    all_goals
      simp -implicitDefEqProofs [slots, List.replicate, IntKind.wrap, IntKind.bits, IntKind.signed]
      first
        | (refine cnd (fun h => ?_) (fun h => ?_)
           · simp at h
             first
               | simp -implicitDefEqProofs [hbad 0 (by decide) (show okI x 0 = false by simp [okI, m1, m2, m3, m4, h])]
               | simp -implicitDefEqProofs [hbad 1 (by decide) (show okI x 1 = false by simp [okI, m1, m2, m3, m4, h])]
               | simp -implicitDefEqProofs [hbad 2 (by decide) (show okI x 2 = false by simp [okI, m1, m2, m3, m4, h])]
               | simp -implicitDefEqProofs [hbad 3 (by decide) (show okI x 3 = false by simp [okI, m1, m2, m3, m4, h])]
           · simp at h
             first
               | exact ⟨1, ⟨by decide, hnext (ts := []) (b := []) 0 (by simp [okI, m1, m2, m3, m4, h]) hj⟩, by decide, wk_same (by simp) (by simp [okO]) (by simp [below])⟩
               | exact ⟨2, ⟨by decide, hnext (ts := []) (b := []) 1 (by simp [okI, m1, m2, m3, m4, h]) hj⟩, by decide, wk_same (by simp) (by simp [okO]) (by simp [below])⟩
               | exact ⟨3, ⟨by decide, hnext (ts := []) (b := []) 2 (by simp [okI, m1, m2, m3, m4, h]) hj⟩, by decide, wk_same (by simp) (by simp [okO]) (by simp [below])⟩
               | exact ⟨4, ⟨by decide, hnext (ts := []) (b := []) 3 (by simp [okI, m1, m2, m3, m4, h]) hj⟩, by decide, wk_same (by simp) (by simp [okO]) (by simp [below])⟩)
        | (first
               | exact ⟨1, ⟨by decide, hnext (ts := []) (b := []) 0 (by simp [okI, m1, m2, m3, m4]) hj⟩, by decide, wk_same (by simp) (by simp [okO]) (by simp [below])⟩
               | exact ⟨2, ⟨by decide, hnext (ts := []) (b := []) 1 (by simp [okI, m1, m2, m3, m4]) hj⟩, by decide, wk_same (by simp) (by simp [okO]) (by simp [below])⟩
               | exact ⟨3, ⟨by decide, hnext (ts := []) (b := []) 2 (by simp [okI, m1, m2, m3, m4]) hj⟩, by decide, wk_same (by simp) (by simp [okO]) (by simp [below])⟩
               | exact ⟨4, ⟨by decide, hnext (ts := []) (b := []) 3 (by simp [okI, m1, m2, m3, m4]) hj⟩, by decide, wk_same (by simp) (by simp [okO]) (by simp [below])⟩)
end Go.Proofs.YtbbobekgnclkfaaDoor
namespace Go.Proofs.YtbbobekgnclkfaaDoor
open Go Go.Aw
set_option maxRecDepth 100000
set_option maxHeartbeats 4000000
theorem insOk_eq2 (p s l k : Int) (x : Mins) : insOk p s l k x = (formOk x && inR x.a 0 7 && inR x.b 0 7 && inR x.c 0 7 && (!fN x.op || inR x.n 0 (mostN p s l k x.op))) := by
  simp [insOk, formOk, okI]
theorem mask_and {op : Int} (h : inR op 1 22 = true) : (f_bin .and (.int .i64 (maskOf op)) (.int .i64 8)) = some (.int .i64 (if fN op then 8 else 0)) := by
  rcases mask_cases h with ⟨m0, m1, m2, m3, m4⟩ | ⟨m0, m1, m2, m3, m4⟩ | ⟨m0, m1, m2, m3, m4⟩ | ⟨m0, m1, m2, m3, m4⟩ | ⟨m0, m1, m2, m3, m4⟩ <;> rw [m0, m4] <;> rfl
variable (G : Glob) (hG : G g_forms = some pvForms)
include hG
theorem i_minsOk (fs : List Mfn) (k : Nat) (f : Mfn) (x : Mins) (hk : fs[k]? = some f) (hk2 : k ≤ 1048576) (hl : f.ins.length ≤ 1048576) (hp : inR f.params 0 3 = true) (hs : inR f.slots 0 64 = true) :
    VF Tryd.prog G n_impl_minsOk [.agg [.p (fnsL fs)], .p (.int .i64 k), .agg (x.cs.map .p)] (.p (.bool (insOk f.params f.slots f.ins.length k x))) := by
  refine AC.enter k_impl_minsOk ?_
  rw [insOk_eq2]
  simp -implicitDefEqProofs [F_impl_minsOk, List.replicate, fnsL]
  refine (i_formOf G hG x).use ?_
  simp -implicitDefEqProofs [Mins.cs]
  by_cases hf : formOk x = true
  rotate_left
  · simp -implicitDefEqProofs [hf]
  simp -implicitDefEqProofs [hf]
  refine (i_within G _ _ _).use ?_
  by_cases ha : inR x.a 0 7 = true
  rotate_left
  · simp -implicitDefEqProofs [ha]
  simp -implicitDefEqProofs [ha]
  refine (i_within G _ _ _).use ?_
  by_cases hb : inR x.b 0 7 = true
  rotate_left
  · simp -implicitDefEqProofs [hb]
  simp -implicitDefEqProofs [hb]
  refine (i_within G _ _ _).use ?_
  by_cases hc : inR x.c 0 7 = true
  rotate_left
  · simp -implicitDefEqProofs [hc]
  simp -implicitDefEqProofs [hc]
  have hop : inR x.op 1 22 = true := by simp [formOk] at hf; exact hf.1.1.1.1
  have hand := mask_and hop
  simp [inR] at hp hs
  have hwk : IntKind.i64.wrap ((k : Int) - 1) = (k : Int) - 1 := i64_small (by omega) (by omega)
  have hwp : IntKind.i64.wrap (f.params - 1) = f.params - 1 := i64_small (by omega) (by omega)
  have hws : IntKind.i64.wrap (f.slots - 1) = f.slots - 1 := i64_small (by omega) (by omega)
  have hwl : IntKind.i64.wrap ((f.ins.length : Int) - 1) = (f.ins.length : Int) - 1 := i64_small (by omega) (by omega)
  simp only [f_bin] at hand
  have hsel : x.op = 1 ∨ x.op = 14 ∨ x.op = 15 ∨ x.op = 16 ∨ x.op = 17 ∨ x.op = 18 ∨ x.op = 20 ∨ x.op = 21 ∨ (x.op ≠ 1 ∧ x.op ≠ 14 ∧ x.op ≠ 15 ∧ x.op ≠ 16 ∧ x.op ≠ 17 ∧ x.op ≠ 18 ∧ x.op ≠ 20 ∧ x.op ≠ 21) := by omega
  rcases hsel with e | e | e | e | e | e | e | e | ⟨e1, e2, e3, e4, e5, e6, e7, e8⟩
  case inr.inr.inr.inr.inr.inr.inr.inr =>
    have hfn : fN x.op = false := by simp [inR] at hop; simp [fN, inR, e1, e7, e8]; omega
    rw [hfn] at hand
    simp -implicitDefEqProofs at hand
    simp -implicitDefEqProofs [e1, e2, e3, e4, e5, e6, e7, e8, hfn, hand]
  all_goals
    have hfn : fN x.op = true := by rw [e]; decide
    rw [hfn] at hand
    simp -implicitDefEqProofs at hand
    rw [e] at hand
    simp -implicitDefEqProofs [Mfn.cs, e, hwk, hwp, hws, hwl, hk, hand]
    refine (i_within G _ _ _).use ?_
    simp -implicitDefEqProofs [fN, mostN, inR]
end Go.Proofs.YtbbobekgnclkfaaDoor
namespace Go.Proofs.YtbbobekgnclkfaaDoor
open Go Go.Aw
set_option maxRecDepth 100000
set_option maxHeartbeats 4000000
variable (G : Glob)
/-- The first index at which something holds, or -1. -/
def idxOf (p : Mins → Bool) (xs : List Mins) : Int := match xs.findIdx? p with | some i => i | none => -1
theorem g_IndexFunc {h : List AO} {f : FuncId} {caps : List AV} (xs : List Mins) (p : Mins → Bool) (hl : xs.length ≤ 1048576) (hcap : belowL h.length caps)
    (hcall : ∀ x ∈ xs, AC Tryd.prog G f (.agg (x.cs.map .p) :: caps) h fun r h' => r = .ret (.p (.bool (p x))) ∧ h' = h) :
    AC Tryd.prog G n_slices_IndexFunc_impl_Mins [.p (insL xs), .fn (.func f) caps] h fun r h' => r = .ret (.p (.int .i64 (idxOf p xs))) ∧ h' = h := by
  refine AC.enterB k_slices_IndexFunc_impl_Mins fun hb => AC.enter k_slices_IndexFunc_impl_Mins ?_
  simp -implicitDefEqProofs [F_slices_IndexFunc_impl_Mins, List.replicate, insL]
  refine loopA (fun i : Nat => slots 19 [(0, .p (insL xs)), (1, .fn (.func f) caps), (7, .p (.int .i64 xs.length)), (8, .p (.int .i64 i))]) (fun _ => h) (fun i => i ≤ xs.length ∧ ∀ x ∈ xs.take i, p x = false) (fun i => xs.length - i) 0 (by simp) (wk_refl (by simp) hb (by simp [slots, List.replicate, below, insL, hcap])) ?_
  intro i ⟨hi, hp⟩
  simp -implicitDefEqProofs [slots, List.replicate, insL]
  refine cnd (fun h1 => ?_) (fun h1 => ?_)
  · simp at h1
    simp -implicitDefEqProofs [List.getElem?_eq_getElem h1]
    refine (hcall _ (List.getElem_mem h1)).mono ?_
    rintro r h' ⟨rfl, rfl⟩
    simp -implicitDefEqProofs
    refine cnd (fun h2 => ?_) (fun h2 => ?_)
    · have : xs.findIdx? p = some i := by
        rw [List.findIdx?_eq_some_iff_getElem]
        refine ⟨h1, h2, fun j hj => ?_⟩
        have := hp (xs[j]) (by rw [List.mem_take_iff_getElem]; exact ⟨j, by omega, rfl⟩)
        simp [this]
      simp [idxOf, this]
    · refine ⟨i + 1, ⟨by omega, fun x hx => ?_⟩, by omega, wk_refl (by simp) hb ?_⟩
      · rw [take_succ' h1] at hx
        rcases List.mem_append.1 hx with hx | hx
        · exact hp x hx
        · rw [List.mem_singleton.1 hx]; exact h2
      · simp [below, hcap, w1 (i := i) (by omega)]
  · simp at h1
    rw [List.take_of_length_le h1] at hp
    have : xs.findIdx? p = none := by rw [List.findIdx?_eq_none_iff]; exact hp
    simp [idxOf, this]
theorem g_ContainsFunc {h : List AO} {f : FuncId} {caps : List AV} (xs : List Mins) (p : Mins → Bool) (hl : xs.length ≤ 1048576) (hcap : belowL h.length caps)
    (hcall : ∀ x ∈ xs, AC Tryd.prog G f (.agg (x.cs.map .p) :: caps) h fun r h' => r = .ret (.p (.bool (p x))) ∧ h' = h) :
    AC Tryd.prog G n_slices_ContainsFunc_impl_Mins [.p (insL xs), .fn (.func f) caps] h fun r h' => r = .ret (.p (.bool (xs.any p))) ∧ h' = h := by
  refine AC.enter k_slices_ContainsFunc_impl_Mins ?_
  simp -implicitDefEqProofs [F_slices_ContainsFunc_impl_Mins, List.replicate]
  refine (g_IndexFunc G xs p hl hcap hcall).mono ?_
  rintro r h' ⟨rfl, rfl⟩
  simp -implicitDefEqProofs
  rw [Bool.eq_iff_iff]
  cases h1 : xs.findIdx? p with
  | none =>
    have h2 := h1
    rw [List.findIdx?_eq_none_iff] at h2
    simp [idxOf, h1]
    intro x hx; simpa using h2 x hx
  | some i =>
    rw [List.findIdx?_eq_some_iff_getElem] at h1
    obtain ⟨h2, h3, _⟩ := h1
    have h1 : xs.findIdx? p = some i := by rw [List.findIdx?_eq_some_iff_getElem]; exact ⟨h2, h3, by assumption⟩
    simp [idxOf, h1]
    exact ⟨_, List.getElem_mem h2, h3⟩
theorem i_jumpOp (op : Int) : VF Tryd.prog G n_impl_jumpOp [.p (.int .i64 op)] (.p (.bool (op == 20 || op == 21))) := by
  refine AC.enter k_impl_jumpOp ?_
  simp -implicitDefEqProofs [F_impl_jumpOp, List.replicate]
  by_cases h : op = 20
  · simp -implicitDefEqProofs [h]
  · simp -implicitDefEqProofs [h]
    rw [Bool.eq_iff_iff]; simp
    exact fun e => (h e).elim
variable (hG : G g_forms = some pvForms)
include hG
theorem i_MachValid_1 (fs : List Mfn) (k : Nat) (f : Mfn) (x : Mins) (hk : fs[k]? = some f) (hk2 : k ≤ 1048576) (hl : f.ins.length ≤ 1048576) (hp : inR f.params 0 3 = true) (hs : inR f.slots 0 64 = true)
    {h : List AO} (h0 : h[0]? = some (.row 1 [[.p (fnsL fs)]])) (h1 : h[1]? = some (.row 1 [[.p (.int .i64 k)]])) :
    AC Tryd.prog G n_impl_MachValid_1 [.agg (x.cs.map .p), .ptr 0 1 0 0, .ptr 1 1 0 0] h fun r h' => r = .ret (.p (.bool (!insOk f.params f.slots f.ins.length k x))) ∧ h' = h := by
  refine AC.trim (AC.enter k_impl_MachValid_1 ?_) (by simp)
  have a0 : (h ++ [AO.row 5 [List.map AV.p x.cs]])[0]? = some (.row 1 [[.p (fnsL fs)]]) := by
    rw [List.getElem?_append_left (List.getElem?_eq_some_iff.1 h0).1]; exact h0
  have a1 : (h ++ [AO.row 5 [List.map AV.p x.cs]])[1]? = some (.row 1 [[.p (.int .i64 k)]]) := by
    rw [List.getElem?_append_left (List.getElem?_eq_some_iff.1 h1).1]; exact h1
  have b0 : (h ++ [AO.row 5 [List.map AV.p x.cs]])[0]'(by simp) = (.row 1 [[.p (fnsL fs)]]) := by
    rw [List.getElem?_eq_getElem (by simp)] at a0; exact Option.some.inj a0
  simp -implicitDefEqProofs [F_impl_MachValid_1, List.replicate, a0, a1, b0]
  refine (i_minsOk G hG fs k f x hk hk2 hl hp hs).use ?_
  simp -implicitDefEqProofs
theorem i_MachValid (fs : List Mfn) (hb : szF fs ≤ 1048576) : VF Tryd.prog G n_impl_MachValid [.agg [.p (fnsL fs)]] (.p (.bool (machOk fs))) := by
  have hsz : szF fs = fs.length + (fs.map (·.ins.length)).sum := rfl
  refine AC.enter k_impl_MachValid ?_
  simp -implicitDefEqProofs [F_impl_MachValid, List.replicate]
  simp -implicitDefEqProofs [fnsL]
  refine (i_within G _ _ _).use ?_
  simp -implicitDefEqProofs
  refine cnd (fun h => ?_) (fun h => ?_)
  · simp at h; simp [machOk, h]
  simp at h
  refine loopA (fun i : Nat => slots 63 [(1, .ptr 0 1 0 0), (3, .p (.int .i64 (szT fs i))), (13, .p (fnsL fs)), (14, .p (.int .i64 fs.length)), (15, .p (.int .i64 i))]) (fun _ => [.row 1 [[.p (fnsL fs)]]])
    (fun i => i ≤ fs.length ∧ ∀ j f, j < i → fs[j]? = some f → fnOk j f = true) (fun i => fs.length - i) 0 (by simp) (wk_same (by simp) (by simp [okO, fnsL]) (by simp [slots, List.replicate, below, fnsL])) ?_
  intro i ⟨hi, hok⟩
  simp -implicitDefEqProofs [slots, List.replicate]
  refine cnd (fun h1 => ?_) (fun h1 => ?_)
  · simp at h1
    have hx := szT_succ h1
    have hx2 := szT_le (fs := fs) (i := i + 1)
    have hgi := List.getElem?_eq_getElem h1
    have hw : IntKind.i64.wrap ((szT fs i : Int) + (fs[i].ins.length : Int)) = ((szT fs (i + 1) : Nat) : Int) := by rw [i64_small (by omega) (by omega), hx]; omega
    have hfl : (fnsL fs) = .lst 3 (fs.map Mfn.cs) := rfl
    simp -implicitDefEqProofs [hgi, hfl]
    simp -implicitDefEqProofs [Mfn.cs, hw]
    refine (i_within G _ _ _).use ?_
    by_cases hp : inR fs[i].params 0 3 = true
    rotate_left
    · simp -implicitDefEqProofs [hp]
      exact (machBad hgi (by simp [fnOk, hp])).symm ▸ rfl
    simp -implicitDefEqProofs [hp]
    refine (i_within G _ _ _).use ?_
    by_cases hs : inR fs[i].slots 0 64 = true
    rotate_left
    · simp -implicitDefEqProofs [hs]
      exact (machBad hgi (by simp [fnOk, hs])).symm ▸ rfl
    by_cases h0 : fs[i].ins = []
    · simp -implicitDefEqProofs [hs, h0]
      exact (machBad hgi (by simp [fnOk, h0, lastOk])).symm ▸ rfl
    have hpos : 0 < fs[i].ins.length := List.length_pos_iff.2 h0
    have hwl : IntKind.i64.wrap ((fs[i].ins.length : Int) - 1) = ((fs[i].ins.length - 1 : Nat) : Int) := by rw [i64_small (by omega) (by omega)]; omega
    have hgl := List.getElem?_eq_getElem (l := fs[i].ins) (i := fs[i].ins.length - 1) (by omega)
    have hlo := lastOk_get hpos
    simp -implicitDefEqProofs [hs, h0, hwl, hgl, hpos, Mins.cs]
    have hend : lastOk fs[i].ins = true → AC Tryd.prog G n_slices_ContainsFunc_impl_Mins [.p (insL fs[i].ins), .fn (.func n_impl_MachValid_1) [.ptr 0 1 0 0, .ptr 1 1 0 0]] [.row 1 [[.p (fnsL fs)]], .row 1 [[.p (.int .i64 i)]], .row 3 [[.p (.int .i64 fs[i].params), .p (.int .i64 fs[i].slots), .p (insL fs[i].ins)]]]
        fun r h' => r = .ret (.p (.bool (fs[i].ins.any fun x => !insOk fs[i].params fs[i].slots fs[i].ins.length i x))) ∧ h' = [.row 1 [[.p (fnsL fs)]], .row 1 [[.p (.int .i64 i)]], .row 3 [[.p (.int .i64 fs[i].params), .p (.int .i64 fs[i].slots), .p (insL fs[i].ins)]]] := fun _ =>
      g_ContainsFunc G fs[i].ins _ (by omega) (by simp [below]) fun x hx => i_MachValid_1 G hG fs i fs[i] x hgi (by omega) (by omega) hp hs rfl rfl
    have hrest : lastOk fs[i].ins = true → (fs[i].ins.any fun x => !insOk fs[i].params fs[i].slots fs[i].ins.length i x) = false → ∀ j f, j < i + 1 → fs[j]? = some f → fnOk j f = true := fun hl ha j f hj e => by
      rcases Nat.lt_or_ge j i with hji | hji
      · exact hok j f hji e
      · obtain rfl : j = i := by omega
        rw [hgi] at e; cases e
        simp only [fnOk, hp, hs, hl, Bool.true_and, List.all_eq_true]
        simp at ha
        exact ha
    have hbadm : (fs[i].ins.any fun x => !insOk fs[i].params fs[i].slots fs[i].ins.length i x) = true → machOk fs = false := fun ha => by
      refine machBad hgi ?_
      simp at ha
      obtain ⟨x, h1, h2⟩ := ha
      have : fs[i].ins.all (insOk fs[i].params fs[i].slots fs[i].ins.length i) = false := by rw [List.all_eq_false]; exact ⟨x, h1, by simp [h2]⟩
      simp [fnOk, this]
    by_cases e20 : fs[i].ins[fs[i].ins.length - 1].op = 20
    · have hl : lastOk fs[i].ins = true := by rw [hlo]; simp [e20]
      simp -implicitDefEqProofs [e20]
      refine (hend hl).mono ?_
      rintro r h' ⟨rfl, rfl⟩
      simp -implicitDefEqProofs
      refine cnd (fun h5 => ?_) (fun h5 => ?_)
      · exact (hbadm h5).symm ▸ rfl
      · refine ⟨i + 1, ⟨h1, hrest hl h5⟩, by omega, wk_fst (n := 1) (by simp) (fst_row rfl rfl (by simp [fnsL])) ?_⟩
        simp [below, w1 (i := i) (by omega), fnsL]
    · simp -implicitDefEqProofs [e20]
      refine cnd (fun h5 => ?_) (fun h5 => ?_)
      · simp at h5
        exact (machBad hgi (by simp [fnOk, hlo, e20, h5])).symm ▸ rfl
      · simp at h5
        have hl : lastOk fs[i].ins = true := by rw [hlo]; simp [h5]
        refine (hend hl).mono ?_
        rintro r h' ⟨rfl, rfl⟩
        simp -implicitDefEqProofs
        refine cnd (fun h6 => ?_) (fun h6 => ?_)
        · exact (hbadm h6).symm ▸ rfl
        · refine ⟨i + 1, ⟨h1, hrest hl h6⟩, by omega, wk_fst (n := 1) (by simp) (fst_row rfl rfl (by simp [fnsL])) ?_⟩
          simp [below, w1 (i := i) (by omega), fnsL]
  · simp at h1
    have hall : fnsOk 0 fs = true := fnsOk_all fun j f e => by
      rw [Int.zero_add]; exact hok j f (by have := (List.getElem?_eq_some_iff.1 e).1; omega) e
    have e : insSum fs = szT fs i := by rw [insSum, szT_all h1]
    simp [machOk, hall, h, e]
    omega
end Go.Proofs.YtbbobekgnclkfaaDoor
namespace Go.Proofs.YtbbobekgnclkfaaDoor
open Go Go.Aw
set_option maxRecDepth 100000
set_option maxHeartbeats 4000000
def jmp (x : Mins) : Bool := x.op == 20 || x.op == 21
def u8 (n : Int) : Int := IntKind.u8.wrap n
theorem u8_eq_mod (n : Int) : u8 n = n % 256 := by simp [u8, IntKind.wrap, IntKind.bits, IntKind.signed]
/-- The bytes of an instruction that is no jump. -/
def plainB (x : Mins) : List Int :=
  if x.op == 1 || inR x.op 15 18 then [u8 x.op, u8 x.a, u8 x.n] else if inR x.op 3 9 then [u8 x.op, u8 (x.a + 8 * x.b), u8 x.c]
  else if x.op == 2 || inR x.op 10 12 then [u8 x.op, u8 (x.a + 8 * x.b)] else if x.op == 14 then [u8 x.op, u8 x.n] else [u8 x.op, u8 x.a]
theorem plainB_len (x : Mins) : (plainB x).length = 2 ∨ (plainB x).length = 3 := by
  unfold plainB; repeat' split
  all_goals simp
def sizeB (x : Mins) (long : Bool) : Nat := if jmp x then 2 + (if long then 1 else 0) + (if x.op = 21 then 1 else 0) else (plainB x).length
theorem sizeB_le (x : Mins) (b : Bool) : sizeB x b ≤ 4 := by
  unfold sizeB; split
  · split <;> split <;> omega
  · rcases plainB_len x with h | h <;> omega
/-- Where the i-th instruction begins. -/
def plc (ins : List Mins) (L : List Bool) (i : Nat) : Nat := ((List.zipWith sizeB ins L).take i).sum
theorem plc_zero (ins : List Mins) (L : List Bool) : plc ins L 0 = 0 := by simp [plc]
theorem plc_succ {ins : List Mins} {L : List Bool} {i : Nat} (h1 : i < ins.length) (h2 : i < L.length) : plc ins L (i + 1) = plc ins L i + sizeB ins[i] L[i] := by
  have h : i < (List.zipWith sizeB ins L).length := by simp; omega
  rw [plc, take_succ' h, List.sum_append]
  simp [plc]
theorem plc_le {ins : List Mins} {L : List Bool} (hl : L.length = ins.length) : ∀ {i : Nat}, plc ins L i ≤ 4 * ins.length := by
  have key : ∀ i, i ≤ ins.length → plc ins L i ≤ 4 * i := by
    intro i
    induction i with
    | zero => intro _; rw [plc_zero]; omega
    | succ i ih =>
      intro h
      rw [plc_succ (by omega) (by omega)]
      have := ih (by omega)
      have := sizeB_le ins[i] L[i]
      omega
  intro i
  rcases Nat.lt_or_ge i ins.length with h | h
  · have := key i (by omega); omega
  · have h1 : plc ins L i = plc ins L ins.length := by
      have hz : (List.zipWith sizeB ins L).length = ins.length := by simp; omega
      simp only [plc]
      rw [List.take_of_length_le (by omega), List.take_of_length_le (by omega)]
    have := key ins.length (Nat.le_refl _)
    omega
/-- Whether the i-th instruction is a jump too far for a short form. -/
def need (ins : List Mins) (L : List Bool) (i : Nat) : Bool := match ins[i]? with
  | some x => jmp x && !inR ((plc ins L x.n.toNat : Int) - plc ins L i - sizeB x false) (-128) 127
  | none => false
def roundL (ins : List Mins) (L : List Bool) : List Bool := L.mapIdx fun i b => b || need ins L i
theorem roundL_len (ins : List Mins) (L : List Bool) : (roundL ins L).length = L.length := by simp [roundL]
def countF (L : List Bool) : Nat := L.countP (!·)
theorem countF_map : ∀ (L : List Bool) (g : Nat → Bool), (L.mapIdx fun i b => b || g i) = L ∨ countF (L.mapIdx fun i b => b || g i) < countF L
  | [], g => .inl rfl
  | b :: L, g => by
    have ih := countF_map L fun i => g (i + 1)
    have hle : countF (L.mapIdx fun i b => b || g (i + 1)) ≤ countF L := by
      rcases ih with h | h
      · rw [h]; exact Nat.le_refl _
      · omega
    simp only [List.mapIdx_cons]
    cases b with
    | true =>
      rcases ih with h | h
      · left; simp at h ⊢; exact h
      · right; simp [countF] at h ⊢; exact h
    | false =>
      cases hg : g 0 with
      | true => right; simp [countF] at hle ⊢; omega
      | false =>
        rcases ih with h | h
        · left; simp at h ⊢; exact h
        · right; simp [countF] at h ⊢; omega
theorem countF_round (ins : List Mins) (L : List Bool) (h : roundL ins L ≠ L) : countF (roundL ins L) < countF L := by
  rcases countF_map L (need ins L) with h1 | h1
  · exact (h h1).elim
  · exact h1
/-- Which jumps are long in the end. -/
def fixL (ins : List Mins) (L : List Bool) : List Bool := if roundL ins L = L then L else fixL ins (roundL ins L)
termination_by countF L
decreasing_by exact countF_round _ _ (by assumption)
theorem fixL_same {ins : List Mins} {L : List Bool} (h : roundL ins L = L) : fixL ins L = L := by rw [fixL, if_pos h]
theorem fixL_next {ins : List Mins} {L : List Bool} (h : roundL ins L ≠ L) : fixL ins L = fixL ins (roundL ins L) := by
  conv => lhs; rw [fixL, if_neg h]
theorem fixL_len (ins : List Mins) (L : List Bool) : (fixL ins L).length = L.length := by
  rw [fixL]; split
  · rfl
  · rw [fixL_len, roundL_len]
termination_by countF L
decreasing_by exact countF_round _ _ (by assumption)
def longs (ins : List Mins) : List Bool := fixL ins (List.replicate ins.length false)
theorem longs_len (ins : List Mins) : (longs ins).length = ins.length := by simp [longs, fixL_len]
/-- The bytes of the i-th instruction. -/
def encI (ins : List Mins) (L : List Bool) (i : Nat) : List Int := match ins[i]?, L[i]? with
  | some x, some b => if !jmp x then plainB x else
      [u8 (x.op + (if b then 128 else 0))] ++ (if x.op = 21 then [u8 x.a] else []) ++
        (if b then [u8 (plc ins L x.n.toNat % 256 : Nat), u8 (plc ins L x.n.toNat / 256 : Nat)] else [u8 ((plc ins L x.n.toNat : Int) - plc ins L i - sizeB x false)])
  | _, _ => []
def encT (ins : List Mins) (L : List Bool) (i : Nat) : List Int := ((List.range i).map (encI ins L)).flatten
theorem encT_succ (ins : List Mins) (L : List Bool) (i : Nat) : encT ins L (i + 1) = encT ins L i ++ encI ins L i := by simp [encT, List.range_succ]
/-- What is needed of the instructions. -/
def InsFine (ins : List Mins) : Prop := ins.length ≤ 2000 ∧ ∀ x ∈ ins, inR x.a 0 7 = true ∧ inR x.b 0 7 = true ∧ inR x.op 1 22 = true ∧ (jmp x = true → inR x.n 0 (ins.length - 1) = true)
variable (G : Glob)
theorem s_l24Jumps (x : Mins) : VF Tryd.prog G n_spec_l24Jumps [.agg (x.cs.map .p)] (.p (.bool (jmp x))) := by
  refine AC.enter k_spec_l24Jumps ?_
  simp -implicitDefEqProofs [F_spec_l24Jumps, List.replicate, Mins.cs]
  by_cases h : x.op = 20
  · simp -implicitDefEqProofs [h, jmp]
  · simp -implicitDefEqProofs [h, jmp]
    rw [Bool.eq_iff_iff]; simp
    exact fun e => (h e).elim
theorem s_l5Truth (b : Bool) : VF Tryd.prog G n_spec_l5Truth [.p (.bool b)] (.p (.int .i64 (if b then 1 else 0))) := by
  refine AC.enter k_spec_l5Truth ?_
  cases b <;> simp -implicitDefEqProofs [F_spec_l5Truth, List.replicate]
theorem o_l25Plain (x : Mins) (ha : inR x.a 0 7 = true) (hb : inR x.b 0 7 = true) : AC Tryd.prog G n_spec_l25Plain [.agg (x.cs.map .p)] [] fun r h => r = .ret (.sl 0 1 0 (plainB x).length) ∧ h = [bysO (plainB x)] := by
  have key : AC Tryd.prog G n_spec_l25Plain [.agg (x.cs.map .p)] [] fun r h => r = .ret (.sl 1 1 0 (plainB x).length) ∧ ∃ o, h = [o, bysO (plainB x)] := by
    refine AC.enter k_spec_l25Plain ?_
    simp [inR] at ha hb
    have hw1 : IntKind.i64.wrap (8 * x.b) = 8 * x.b := i64_small (by omega) (by omega)
    have hw2 : IntKind.i64.wrap (x.a + 8 * x.b) = x.a + 8 * x.b := i64_small (by omega) (by omega)
    simp -implicitDefEqProofs [F_spec_l25Plain, List.replicate]
    simp -implicitDefEqProofs [Mins.cs]
    by_cases h1 : x.op = 1
    · simp -implicitDefEqProofs [h1, plainB, bysO, u8]
    simp -implicitDefEqProofs [h1]
    refine (s_l1In G _ _ _).use ?_
    by_cases h2 : inR x.op 15 18 = true
    · simp -implicitDefEqProofs [h2, plainB, bysO, u8]
    simp -implicitDefEqProofs [h2]
    refine (s_l1In G _ _ _).use ?_
    by_cases h3 : inR x.op 3 9 = true
    · simp -implicitDefEqProofs [h1, h2, h3, plainB, bysO, u8, hw1, hw2]
    simp -implicitDefEqProofs [h3]
    by_cases h4 : x.op = 2
    · simp -implicitDefEqProofs [h4, hw1, hw2, plainB, bysO, u8, inR]
    simp -implicitDefEqProofs [h4]
    refine (s_l1In G _ _ _).use ?_
    by_cases h5 : inR x.op 10 12 = true
    · simp -implicitDefEqProofs [h1, h2, h3, h4, h5, plainB, bysO, u8, hw1, hw2]
    simp -implicitDefEqProofs [h5]
    by_cases h6 : x.op = 14
    · simp -implicitDefEqProofs [h6, plainB, bysO, u8, inR]
    · simp -implicitDefEqProofs [h1, h2, h3, h4, h5, h6, plainB, bysO, u8]
  refine key.gc (fun t v h ⟨e, _⟩ => by cases e) fun v h ⟨e1, o, e2⟩ => ?_
  cases e1; subst e2
  exact ⟨.sl 0 1 0 (plainB x).length, [bysO (plainB x)], ⟨[1], by simp, by simp, by simp, by simp [below], by simp [ren], by simp, ⟨by simp [bysO], by simp [bysO, renL, ren]⟩, trivial⟩, rfl, rfl⟩
theorem bysO_view {l : List Int} {id : Nat} {h : List AO} (e : h[id]? = some (bysO l)) : View h (.sl id 1 0 l.length) (bysL l) := by
  have := view_row (h := h) (id := id) (sz := 1) (n := l.length) (ls := l.map fun n => [.int .u8 n]) (by rw [e, bysO]; simp) (by simp) (by simp)
  exact this
theorem s_l25Plain (x : Mins) (ha : inR x.a 0 7 = true) (hb : inR x.b 0 7 = true) : VF Tryd.prog G n_spec_l25Plain [.agg (x.cs.map .p)] (.p (bysL (plainB x))) :=
  AC.freeze (o_l25Plain G x ha hb) (.one (bysO_view rfl) .nil)
theorem s_l25Size (x : Mins) (b : Bool) (ha : inR x.a 0 7 = true) (hb : inR x.b 0 7 = true) : VF Tryd.prog G n_spec_l25Size [.agg (x.cs.map .p), .p (.bool b)] (.p (.int .i64 (sizeB x b))) := by
  refine AC.enter k_spec_l25Size ?_
  simp -implicitDefEqProofs [F_spec_l25Size, List.replicate]
  refine (s_l24Jumps G x).use ?_
  by_cases hj : jmp x = true
  · simp -implicitDefEqProofs [hj, Mins.cs]
    refine (s_l5Truth G b).use ?_
    simp -implicitDefEqProofs []
    refine (s_l5Truth G _).use ?_
    simp -implicitDefEqProofs [sizeB, hj]
    by_cases h21 : x.op = 21 <;> cases b <;> simp [h21, IntKind.wrap, IntKind.bits, IntKind.signed]
  · simp -implicitDefEqProofs [hj]
    refine (s_l25Plain G x ha hb).use ?_
    simp -implicitDefEqProofs [sizeB, hj, bysL]
end Go.Proofs.YtbbobekgnclkfaaDoor
namespace Go.Proofs.YtbbobekgnclkfaaDoor
open Go Go.Aw
set_option maxRecDepth 100000
set_option maxHeartbeats 4000000
def intsL (l : List Nat) : PV := .lst 1 (l.map fun (n : Nat) => [.int .i64 (n : Int)])
def intsO (l : List Nat) : AO := .row 1 (l.map fun (n : Nat) => [.p (.int .i64 (n : Int))])
def boolL (l : List Bool) : PV := .lst 1 (l.map fun b => [.bool b])
def boolO (l : List Bool) : AO := .row 1 (l.map fun b => [.p (.bool b)])
def plcs (ins : List Mins) (L : List Bool) (k : Nat) : List Nat := (List.range k).map (plc ins L)
theorem plcs_len (ins : List Mins) (L : List Bool) (k : Nat) : (plcs ins L k).length = k := by simp [plcs]
theorem plcs_succ (ins : List Mins) (L : List Bool) (k : Nat) : plcs ins L (k + 1) = plcs ins L k ++ [plc ins L k] := by simp [plcs, List.range_succ]
theorem plcs_get {ins : List Mins} {L : List Bool} {k i : Nat} (h : i < k) : (plcs ins L k)[i]? = some (plc ins L i) := by simp [plcs, h]
variable (G : Glob)
theorem o_l25Places (f : Mfn) (L : List Bool) (hl : L.length = f.ins.length) (hf : InsFine f.ins) :
    AC Tryd.prog G n_spec_l25Places [.agg (f.cs.map .p), .p (boolL L)] [] fun r h => r = .ret (.tup [.sl 0 1 0 f.ins.length, .p (.int .i64 (plc f.ins L f.ins.length))]) ∧ h = [intsO (plcs f.ins L f.ins.length)] := by
  obtain ⟨hn, hfi⟩ := hf
  have key : AC Tryd.prog G n_spec_l25Places [.agg (f.cs.map .p), .p (boolL L)] [] fun r h => r = .ret (.tup [.sl 1 1 0 f.ins.length, .p (.int .i64 (plc f.ins L f.ins.length))]) ∧ ∃ o, h = [o, intsO (plcs f.ins L f.ins.length)] := by
    refine AC.enter k_spec_l25Places ?_
    simp -implicitDefEqProofs [F_spec_l25Places, List.replicate, boolL]
    refine loopA (fun i : Nat => slots 35 [(1, .p (boolL L)), (2, .ptr 0 3 0 0), (6, .sl 1 1 0 i), (7, .p (.int .i64 (plc f.ins L i))), (8, .p (.int .i64 i))]) (fun i => [.row 3 [f.cs.map .p], intsO (plcs f.ins L i)])
      (fun i => i ≤ f.ins.length) (fun i => f.ins.length - i) 0 (by simp) ?_ ?_
    · refine wk_same ?_ ?_ ?_
      · simp
      · simp [okO, Mfn.cs]
      simp [slots, List.replicate, below, boolL, plc_zero]
    · intro i hi
      simp -implicitDefEqProofs [slots, List.replicate, boolL]
      simp -implicitDefEqProofs [Mfn.cs]
      refine cnd (fun h1 => ?_) (fun h1 => ?_)
      · simp at h1
        have h2 : i < L.length := by omega
        obtain ⟨q1, q2, q3, q4⟩ := hfi _ (List.getElem_mem h1)
        have hle := plc_le (ins := f.ins) (L := L) hl (i := i)
        have hsz := sizeB_le f.ins[i] L[i]
        have hw : IntKind.i64.wrap ((plc f.ins L i : Int) + (sizeB f.ins[i] L[i] : Int)) = ((plc f.ins L (i + 1) : Nat) : Int) := by rw [i64_small (by omega) (by omega), plc_succ h1 h2]; omega
        have hg1 := List.getElem?_eq_getElem h1
        have hg2 := List.getElem?_eq_getElem h2
        have hin : intsO (plcs f.ins L i) = .row 1 ((plcs f.ins L i).map fun (n : Nat) => [.p (.int .i64 (n : Int))]) := rfl
        have hlen := plcs_len f.ins L i
        simp -implicitDefEqProofs [hin, hlen, hg1, hg2]
        refine ⟨by omega, ?_⟩
        have e : List.take i (List.map (fun (n : Nat) => [AV.p (.int .i64 (n : Int))]) (plcs f.ins L i)) ++ [[AV.p (.int .i64 ((plc f.ins L i : Nat) : Int))]] = (plcs f.ins L (i + 1)).map fun (n : Nat) => [AV.p (.int .i64 (n : Int))] := by
          rw [List.take_of_length_le (by simp [hlen]), plcs_succ, List.map_append]; rfl
        rw [e]
        refine (s_l25Size G f.ins[i] L[i] q1 q2).use ?_
        simp -implicitDefEqProofs [hw]
        refine ⟨i + 1, h1, by omega, wk_pick [0, 3] rfl (by simp) (hw_row rfl (by simp) (hw_row rfl (by simp) hw_nil)) ?_⟩
        simp [below, ren, w1 (i := i) (by omega)]
      · simp at h1
        have : i = f.ins.length := by omega
        subst this
        simp -implicitDefEqProofs
  refine key.gc (fun t v h ⟨e, _⟩ => by cases e) fun v h ⟨e1, o, e2⟩ => ?_
  cases e1; subst e2
  exact ⟨.tup [.sl 0 1 0 f.ins.length, .p (.int .i64 (plc f.ins L f.ins.length))], [intsO (plcs f.ins L f.ins.length)], ⟨[1], by simp, by simp, by simp, by simp [below], by simp [ren, renL], by simp, ⟨by simp [intsO], by simp [intsO, renL, ren]⟩, trivial⟩, rfl, rfl⟩
end Go.Proofs.YtbbobekgnclkfaaDoor
namespace Go.Proofs.YtbbobekgnclkfaaDoor
open Go Go.Aw
set_option maxRecDepth 100000
set_option maxHeartbeats 4000000
theorem boolO_view {l : List Bool} {id : Nat} {h : List AO} (e : h[id]? = some (boolO l)) : View h (.sl id 1 0 l.length) (boolL l) := by
  have := view_row (h := h) (id := id) (sz := 1) (n := l.length) (ls := l.map fun b => [.bool b]) (by rw [e, boolO]; simp) (by simp) (fun x hx => by obtain ⟨b, _, rfl⟩ := List.mem_map.1 hx; rfl)
  exact this
theorem roundL_get {ins : List Mins} {L : List Bool} {i : Nat} (h : i < L.length) : (roundL ins L)[i]'(by rw [roundL_len]; exact h) = (L[i] || need ins L i) := by simp [roundL]
/-- What is found after i instructions. -/
def nextAt (ins : List Mins) (L : List Bool) (i : Nat) : List Bool := (roundL ins L).take i ++ L.drop i
theorem nextAt_len {ins : List Mins} {L : List Bool} {i : Nat} (h : i ≤ L.length) : (nextAt ins L i).length = L.length := by simp [nextAt, roundL_len]; omega
theorem nextAt_get {ins : List Mins} {L : List Bool} {i : Nat} (h : i < L.length) : (nextAt ins L i)[i]? = some L[i] := by
  rw [nextAt, List.getElem?_append_right (by simp [roundL_len]; omega), List.length_take, roundL_len, Nat.min_eq_left (by omega), Nat.sub_self, List.drop_eq_getElem_cons h]; rfl
theorem nextAt_set {ins : List Mins} {L : List Bool} {i : Nat} (h : i < L.length) : (nextAt ins L i).set i (L[i] || need ins L i) = nextAt ins L (i + 1) := by
  have hl : ((roundL ins L).take i).length = i := by simp [roundL_len]; omega
  rw [nextAt, List.set_append_right _ _ (by omega), hl, Nat.sub_self, List.drop_eq_getElem_cons h, List.set_cons_zero, nextAt, take_succ' (by rw [roundL_len]; exact h), roundL_get h]
  simp
theorem nextAt_same {ins : List Mins} {L : List Bool} {i : Nat} (h : i < L.length) (hs : (L[i] || need ins L i) = L[i]) : nextAt ins L i = nextAt ins L (i + 1) := by
  rw [← nextAt_set h, hs]
  have h2 : i < (nextAt ins L i).length := by rw [nextAt_len (by omega)]; exact h
  have h3 := nextAt_get (ins := ins) h
  rw [List.getElem?_eq_getElem h2] at h3
  conv => lhs; rw [← List.set_getElem_self h2]
  rw [Option.some.inj h3]
variable (G : Glob)
theorem o_l25Long (f : Mfn) (hf : InsFine f.ins) : AC Tryd.prog G n_spec_l25Long [.agg (f.cs.map .p)] [] fun r h => r = .ret (.sl 0 1 0 f.ins.length) ∧ h = [boolO (longs f.ins)] := by
  have hf' := hf
  obtain ⟨hn, hfi⟩ := hf'
  have key : AC Tryd.prog G n_spec_l25Long [.agg (f.cs.map .p)] [] fun r h => r = .ret (.sl 1 1 0 f.ins.length) ∧ ∃ o, h = [o, boolO (longs f.ins)] := by
    refine AC.enter k_spec_l25Long ?_
    simp -implicitDefEqProofs [-Prod.exists, F_spec_l25Long, List.replicate]
    simp -implicitDefEqProofs [-Prod.exists, Mfn.cs]
    refine ⟨by omega, ?_⟩
    refine loopA (fun a : Bool × List Bool => slots 73 [(1, .ptr 0 3 0 0), (3, .sl 1 1 0 f.ins.length), (4, .p (.bool a.1))]) (fun a => [.row 3 [f.cs.map .p], boolO a.2])
      (fun a => a.2.length = f.ins.length ∧ (if a.1 then fixL f.ins a.2 = longs f.ins else a.2 = longs f.ins)) (fun a => 2 * countF a.2 + (if a.1 then 1 else 0)) (true, List.replicate f.ins.length false) (by simp [longs]) ?_ ?_
    · have e : AO.row 1 (List.replicate f.ins.length [AV.p (PV.bool false)]) = boolO (List.replicate f.ins.length false) := by simp [boolO]
      rw [e]
      refine wk_same ?_ ?_ ?_
      · simp
      · simp [-Bool.exists_bool, -Bool.forall_bool, okO, boolO]
      simp [slots, List.replicate, below]
    · rintro ⟨again, L⟩ ⟨hL, hfix⟩
      simp only at hL hfix
      simp -implicitDefEqProofs [-Prod.exists, slots, List.replicate]
      refine cnd (fun h1 => ?_) (fun h1 => ?_)
      · subst h1
        simp only [if_true] at hfix
        simp -implicitDefEqProofs [-Prod.exists, Mfn.cs]
        refine (AC.lend (o_l25Places G f L hL hf) (.keep (by simp [Mfn.cs]) (.one (by rw [← hL]; exact boolO_view rfl) .nil)) rfl ?_).mono ?_
        · simp [cleanO, intsO, cleanL, clean]
        rintro r h ⟨rfl, rfl⟩
        have hbo : boolO L = .row 1 (L.map fun b => [.p (.bool b)]) := rfl
        have hsh : shiftO 2 (intsO (plcs f.ins L f.ins.length)) = intsO (plcs f.ins L f.ins.length) := by simp [shiftO, intsO, shiftL, shiftV]
        have hsL : List.take f.ins.length L = L := List.take_of_length_le (by omega)
        have htk : List.take f.ins.length (L.map fun b => [AV.p (PV.bool b)]) = L.map fun b => [AV.p (PV.bool b)] := List.take_of_length_le (by simp [hL])
        simp -implicitDefEqProofs [-Prod.exists, shiftV, shiftL, hsh, hbo, hL, htk]
        refine ⟨by omega, ?_⟩
        have e0 : AO.row 1 (L.map fun b => [AV.p (.bool b)]) = boolO (nextAt f.ins L 0) := by simp [boolO, nextAt]
        have hin : intsO (plcs f.ins L f.ins.length) = .row 1 ((plcs f.ins L f.ins.length).map fun (n : Nat) => [.p (.int .i64 (n : Int))]) := rfl
        have hplen := plcs_len f.ins L f.ins.length
        have hrl := roundL_len f.ins L
        refine loopA (fun a : Nat × Bool => slots 73 [(1, .ptr 0 3 0 0), (3, .sl 1 1 0 f.ins.length), (4, .p (.bool a.2)), (5, .sl 2 1 0 f.ins.length), (7, .sl 4 1 0 f.ins.length), (8, .p (.int .i64 a.1))])
          (fun a => [.row 3 [f.cs.map .p], boolO L, intsO (plcs f.ins L f.ins.length), .dead, boolO (nextAt f.ins L a.1)])
          (fun a => a.1 ≤ f.ins.length ∧ (a.2 = false → (roundL f.ins L).take a.1 = L.take a.1) ∧ (a.2 = true → roundL f.ins L ≠ L)) (fun a => f.ins.length - a.1) (0, false) (by simp) ?_ ?_
        · rw [← e0]
          refine wk_same ?_ ?_ ?_
          · simp
          · simp [-Bool.exists_bool, -Bool.forall_bool, okO, Mfn.cs, boolO, intsO]
          simp [slots, List.replicate, below]
        · rintro ⟨i, c⟩ ⟨hi, hc0, hc1⟩
          simp only at hi hc0 hc1
          simp -implicitDefEqProofs [-Prod.exists, slots, List.replicate]
          simp -implicitDefEqProofs [-Prod.exists, Mfn.cs]
          refine cnd (fun h1 => ?_) (fun h1 => ?_)
          · simp at h1
            have h2 : i < L.length := by omega
            obtain ⟨q1, q2, q3, q4⟩ := hfi _ (List.getElem_mem h1)
            have hg1 := List.getElem?_eq_getElem h1
            have hg2 := List.getElem?_eq_getElem h2
            have hrg := roundL_get (ins := f.ins) h2
            have hstay : (L[i] || need f.ins L i) = L[i] → ∃ a : Nat × Bool, a = (i + 1, c) ∧ (a.1 ≤ f.ins.length ∧ (a.2 = false → (roundL f.ins L).take a.1 = L.take a.1) ∧ (a.2 = true → roundL f.ins L ≠ L)) := fun hs => by
              refine ⟨(i + 1, c), rfl, h1, fun hc => ?_, hc1⟩
              rw [take_succ' (by rw [hrl]; exact h2), take_succ' h2, hc0 hc, hrg, hs]
            simp -implicitDefEqProofs [-Prod.exists, hg1]
            refine (s_l24Jumps G f.ins[i]).use ?_
            by_cases hj : jmp f.ins[i] = true
            · simp -implicitDefEqProofs [-Prod.exists, hj, hbo, hL, h1]
              refine cnd (fun h3 => ?_) (fun h3 => ?_)
              · have hs : (L[i] || need f.ins L i) = L[i] := by simp [h3]
                obtain ⟨a, rfl, ha⟩ := hstay hs
                refine ⟨(i + 1, c), ha, (by show f.ins.length - (i + 1) < f.ins.length - i; omega), ?_⟩
                rw [nextAt_same h2 hs]
                refine wk_same ?_ ?_ ?_
                · simp
                · simp [-Bool.exists_bool, -Bool.forall_bool, okO, boolO, intsO]
                simp [below, w1 (i := i) (by omega)]
              · have q5 := q4 hj
                simp [inR] at q5
                have hnl : f.ins[i].n.toNat < f.ins.length := by omega
                have hp1 := plcs_get (ins := f.ins) (L := L) hnl
                have hp2 := plcs_get (ins := f.ins) (L := L) h1
                have hle1 := plc_le (ins := f.ins) (L := L) hL (i := i)
                have hle2 := plc_le (ins := f.ins) (L := L) hL (i := f.ins[i].n.toNat)
                have hsb := sizeB_le f.ins[i] false
                have hwd1 : IntKind.i64.wrap ((plc f.ins L f.ins[i].n.toNat : Int) - (plc f.ins L i : Int)) = (plc f.ins L f.ins[i].n.toNat : Int) - (plc f.ins L i : Int) := i64_small (by omega) (by omega)
                have hwd2 : IntKind.i64.wrap ((plc f.ins L f.ins[i].n.toNat : Int) - (plc f.ins L i : Int) - (sizeB f.ins[i] false : Int)) = (plc f.ins L f.ins[i].n.toNat : Int) - (plc f.ins L i : Int) - (sizeB f.ins[i] false : Int) := i64_small (by omega) (by omega)
                simp -implicitDefEqProofs [-Prod.exists, Mins.cs, hin, hp1, hp2, hg1]
                refine ⟨by omega, ?_⟩
                refine (s_l25Size G f.ins[i] false q1 q2).use ?_
                simp -implicitDefEqProofs [-Prod.exists, hg1, hp1, hp2, Mins.cs, hwd1, hwd2]
                refine (s_l1In G _ _ _).use ?_
                simp -implicitDefEqProofs [-Prod.exists]
                have hneed : need f.ins L i = !inR ((plc f.ins L f.ins[i].n.toNat : Int) - (plc f.ins L i : Int) - (sizeB f.ins[i] false : Int)) (-128) 127 := by simp [need, hg1, hj]
                refine cnd (fun h4 => ?_) (fun h4 => ?_)
                · simp at h4
                  have hnt : need f.ins L i = true := by rw [hneed, h4]; rfl
                  have hset := nextAt_set (ins := f.ins) h2
                  rw [h3, hnt] at hset
                  simp only [Bool.false_or] at hset
                  have hnlen : i < (nextAt f.ins L i).length := by rw [nextAt_len (by omega)]; exact h2
                  have hng := nextAt_get (ins := f.ins) h2
                  have hbn : boolO (nextAt f.ins L i) = .row 1 ((nextAt f.ins L i).map fun b => [.p (.bool b)]) := rfl
                  have hset2 : ((nextAt f.ins L i).map fun b => [AV.p (.bool b)]).set i [AV.p (.bool true)] = (nextAt f.ins L (i + 1)).map fun b => [AV.p (.bool b)] := by rw [← hset, List.map_set]
                  simp -implicitDefEqProofs [-Prod.exists, hbn, h1, hng, hset2]
                  refine ⟨(i + 1, true), ⟨h1, by simp, fun _ he => ?_⟩, (by show f.ins.length - (i + 1) < f.ins.length - i; omega), ?_⟩
                  · have h5 := hrg
                    have h6 : (roundL f.ins L)[i]? = some true := by rw [List.getElem?_eq_getElem (by rw [hrl]; exact h2), hrg, hnt]; simp
                    rw [he, hg2, h3] at h6; cases h6
                  · refine wk_same ?_ ?_ ?_
                    · simp
                    · simp [-Bool.exists_bool, -Bool.forall_bool, okO, boolO, intsO]
                    simp [below, w1 (i := i) (by omega)]
                · simp at h4
                  have hnt : need f.ins L i = false := by rw [hneed, h4]; rfl
                  have hs : (L[i] || need f.ins L i) = L[i] := by simp [hnt]
                  obtain ⟨a, rfl, ha⟩ := hstay hs
                  refine ⟨(i + 1, c), ha, (by show f.ins.length - (i + 1) < f.ins.length - i; omega), ?_⟩
                  rw [nextAt_same h2 hs]
                  refine wk_same ?_ ?_ ?_
                  · simp
                  · simp [-Bool.exists_bool, -Bool.forall_bool, okO, boolO, intsO]
                  simp [below, w1 (i := i) (by omega)]
            · simp -implicitDefEqProofs [-Prod.exists, hj]
              have hs : (L[i] || need f.ins L i) = L[i] := by simp [need, hg1, hj]
              obtain ⟨a, rfl, ha⟩ := hstay hs
              refine ⟨(i + 1, c), ha, (by show f.ins.length - (i + 1) < f.ins.length - i; omega), ?_⟩
              rw [nextAt_same h2 hs]
              refine wk_same ?_ ?_ ?_
              · simp
              · simp [-Bool.exists_bool, -Bool.forall_bool, okO, boolO, intsO]
              simp [below, w1 (i := i) (by omega)]
          · simp at h1
            have hie : i = f.ins.length := by omega
            subst hie
            have hnx : nextAt f.ins L f.ins.length = roundL f.ins L := by rw [nextAt, List.take_of_length_le (by rw [hrl]; omega), List.drop_of_length_le (by omega), List.append_nil]
            rw [List.take_of_length_le (by rw [hrl]; omega), List.take_of_length_le (by omega)] at hc0
            rw [hnx]
            simp -implicitDefEqProofs [-Prod.exists]
            refine ⟨(c, roundL f.ins L), ⟨by rw [hrl]; exact hL, ?_⟩, ?_, wk_pick [0, 4] rfl (by simp) (hw_row rfl (by simp) (hw_row rfl (by simp [-Bool.exists_bool, -Bool.forall_bool]) hw_nil)) ?_⟩
            · cases c with
              | false =>
                have := hc0 rfl
                simp only [Bool.false_eq_true, if_false]
                rw [← hfix, fixL_same this, this]
              | true => simp only [if_true]; rw [← hfix, fixL_next (hc1 rfl)]
            · cases c with
              | false => have := hc0 rfl; rw [this]; simp
              | true => have := countF_round _ _ (hc1 rfl); simp; omega
            · simp [below, ren]
      · subst h1
        simp at hfix
        subst hfix
        simp -implicitDefEqProofs [-Prod.exists]
  refine key.gc (fun t v h ⟨e, _⟩ => by cases e) fun v h ⟨e1, o, e2⟩ => ?_
  cases e1; subst e2
  exact ⟨.sl 0 1 0 f.ins.length, [boolO (longs f.ins)], ⟨[1], by simp, by simp, by simp, by simp [below], by simp [ren], hw_row rfl (by simp [-Bool.exists_bool, -Bool.forall_bool]) hw_nil⟩, rfl, rfl⟩
end Go.Proofs.YtbbobekgnclkfaaDoor
namespace Go.Aw
def look : List (Nat × AV) → Nat → AV
  | [], _ => .any
  | x :: r, j => if x.1 = j then x.2 else look r j
@[simp] theorem look_nil (j : Nat) : look [] j = .any := rfl
@[simp] theorem look_hit (d : Nat) (v : AV) (r : List (Nat × AV)) : look ((d, v) :: r) d = v := by simp [look]
@[simp] theorem look_miss {d j : Nat} (v : AV) (r : List (Nat × AV)) (h : d ≠ j) : look ((d, v) :: r) j = look r j := by simp [look, h]
/-- n slots. -/
def tsOf (n : Nat) (l : List (Nat × AV)) : List AV := (List.range n).map (look l)
theorem tsOf_get {n i : Nat} {l : List (Nat × AV)} (h : i < n) : (tsOf n l)[i]? = some (look l i) := by simp [tsOf, h]
@[simp] theorem sel_tsOf {n j : Nat} {l : List (Nat × AV)} (h : j < n) : sel (tsOf n l) j = look l j := by
  rw [← sel_eq, List.getD_eq_getElem?_getD, tsOf_get h]; rfl
@[simp] theorem setL_tsOf (n d : Nat) (v : AV) (l : List (Nat × AV)) : setL (tsOf n l) d v = tsOf n ((d, v) :: l) := by
  rw [← setL_eq]
  refine List.ext_getElem? fun i => ?_
  rw [List.getElem?_set]
  by_cases hi : i < n
  · rw [tsOf_get hi, tsOf_get hi]
    by_cases hd : d = i
    · subst hd
      simp [tsOf, hi]
    · simp [hd]
  · simp only [tsOf, List.length_map, List.length_range]
    rw [List.getElem?_eq_none (by simp; omega), List.getElem?_eq_none (by simp; omega)]
    split
    · rw [if_neg (by omega)]
    · rfl
def idxL : Nat → List AV → List (Nat × AV)
  | _, [] => []
  | k, a :: r => (k, a) :: idxL (k + 1) r
@[simp] theorem idxL_nil (k : Nat) : idxL k [] = [] := rfl
@[simp] theorem idxL_cons (k : Nat) (a : AV) (r : List AV) : idxL k (a :: r) = (k, a) :: idxL (k + 1) r := rfl
theorem look_idxL : ∀ (l : List AV) (k i : Nat), look (idxL k l) i = if k ≤ i then (l[i - k]?).getD .any else .any
  | [], k, i => by simp
  | a :: r, k, i => by
    simp only [idxL, look]
    split
    · rename_i h; subst h; simp
    · rename_i h
      rw [look_idxL r (k + 1) i]
      by_cases hk : k ≤ i
      · rw [if_pos (by omega), if_pos hk, show i - k = (i - (k + 1)) + 1 by omega]; simp
      · rw [if_neg (by omega), if_neg hk]
theorem tsOf_args {n : Nat} {args : List AV} (h : args.length ≤ n) : args ++ List.replicate (n - args.length) .any = tsOf n (idxL 0 args) := by
  refine List.ext_getElem? fun i => ?_
  by_cases hi : i < n
  · rw [tsOf_get hi, look_idxL, if_pos (Nat.zero_le _), Nat.sub_zero]
    by_cases ha : i < args.length
    · rw [List.getElem?_append_left ha, List.getElem?_eq_getElem ha]; rfl
    · rw [List.getElem?_append_right (by omega), List.getElem?_replicate, if_pos (by omega), List.getElem?_eq_none (by omega)]; rfl
  · rw [List.getElem?_eq_none (by simp; omega), List.getElem?_eq_none (by simp [tsOf]; omega)]
theorem AC.go {P : Program} {G : Glob} {f : FuncId} {F : FK} (hF : compF P f = some F) {args : List AV} {h : List AO} {R : ARes → List AO → Prop}
    (H : AKW P G h.length F.ak (tsOf F.ntmps (idxL 0 args)) h (endK G F.res R)) (hl : Nat.ble args.length F.ntmps = true := by rfl) : AC P G f args h R :=
  AC.enter hF (by rw [tsOf_args (Nat.le_of_ble_eq_true hl)]; exact H)
/-- The text with cuts. -/
theorem AC.goK {P : Program} {G : Glob} {f : FuncId} {F : FK} (hF : compF P f = some F) {K : AK} (hK : K.whole = F.ak) {args : List AV} {h : List AO} {R : ARes → List AO → Prop}
    (H : AKW P G h.length K (tsOf F.ntmps (idxL 0 args)) h (endK G F.res R)) (hl : Nat.ble args.length F.ntmps = true := by rfl) : AC P G f args h R :=
  AC.enterK hF K (fun _ h => KOk.cuts (hK ▸ h)) (by rw [tsOf_args (Nat.le_of_ble_eq_true hl)]; exact H)
/-- What is known at a loop's head holds. -/
def FgA (m : Nat) (l : List (Nat × AV)) : List (Nat × AV) → Prop
  | [] => True
  | x :: r => (below m x.2 ∧ look l x.1 = x.2) ∧ FgA m l r
@[simp] theorem FgA_nil (m : Nat) (l : List (Nat × AV)) : FgA m l [] = True := rfl
@[simp] theorem FgA_cons (m : Nat) (l : List (Nat × AV)) (x : Nat × AV) (r : List (Nat × AV)) : FgA m l (x :: r) = ((below m x.2 ∧ look l x.1 = x.2) ∧ FgA m l r) := rfl
def TWA (ρ : List Nat) (l : List (Nat × AV)) : List (Nat × AV) → Prop
  | [] => True
  | x :: r => (below ρ.length x.2 ∧ ren ρ x.2 = look l x.1) ∧ TWA ρ l r
@[simp] theorem TWA_nil (ρ : List Nat) (l : List (Nat × AV)) : TWA ρ l [] = True := rfl
@[simp] theorem TWA_cons (ρ : List Nat) (l : List (Nat × AV)) (x : Nat × AV) (r : List (Nat × AV)) : TWA ρ l (x :: r) = ((below ρ.length x.2 ∧ ren ρ x.2 = look l x.1) ∧ TWA ρ l r) := rfl
theorem look_fg {m : Nat} {l : List (Nat × AV)} : ∀ {l1 : List (Nat × AV)}, FgA m l l1 → ∀ i, look l1 i = .any ∨ (below m (look l1 i) ∧ look l1 i = look l i)
  | [], _, i => .inl rfl
  | x :: r, h, i => by
    simp only [look]
    split
    · rename_i e; subst e; exact .inr ⟨h.1.1, h.1.2.symm⟩
    · exact look_fg h.2 i
theorem look_tw {ρ : List Nat} {l : List (Nat × AV)} : ∀ {l1 : List (Nat × AV)}, TWA ρ l l1 → ∀ i, look l1 i = .any ∨ (below ρ.length (look l1 i) ∧ ren ρ (look l1 i) = look l i)
  | [], _, i => .inl rfl
  | x :: r, h, i => by
    simp only [look]
    split
    · rename_i e; subst e; exact .inr h.1
    · exact look_tw h.2 i
theorem fgt_tsOf {m n : Nat} {l l1 : List (Nat × AV)} (h : FgA m l l1) : Fgt m (tsOf n l) (tsOf n l1) := by
  have key : ∀ r : List Nat, Fgt m (r.map (look l)) (r.map (look l1)) := by
    intro r
    induction r with
    | nil => trivial
    | cons i r ih => exact ⟨look_fg h i, ih⟩
  exact key _
theorem tw_tsOf {ρ : List Nat} {n : Nat} {l l1 : List (Nat × AV)} (h : TWA ρ l l1) : TW ρ (tsOf n l) (tsOf n l1) := by
  have key : ∀ r : List Nat, TW ρ (r.map (look l)) (r.map (look l1)) := by
    intro r
    induction r with
    | nil => trivial
    | cons i r ih => exact ⟨look_tw h i, ih⟩
  exact key _
theorem wkt_nil {k n : Nat} {l l1 : List (Nat × AV)} {h : List AO} (hk : k = 0) (H : FgA 0 l l1) : Wk k (tsOf n l) h (tsOf n l1) [] := wk_nil hk (fgt_tsOf H)
theorem wkt_fst {k n m : Nat} {l l1 : List (Nat × AV)} {h h1 : List AO} (hk : k ≤ m) (HF : Fst m h h1) (H : FgA m l l1) : Wk k (tsOf n l) h (tsOf n l1) h1 := wk_fst hk HF (fgt_tsOf H)
theorem wkt_same {k n : Nat} {l l1 : List (Nat × AV)} {h : List AO} (hk : k ≤ h.length) (ho : ∀ o ∈ h, okO h.length o) (H : FgA h.length l l1) : Wk k (tsOf n l) h (tsOf n l1) h := wk_same hk ho (fgt_tsOf H)
theorem wkt_pick (ρ : List Nat) {k n : Nat} {l l1 : List (Nat × AV)} {h h1 : List AO} (hk : k = 0) (nd : ρ.Nodup) (HH : HW ρ h ρ h1) (H : TWA ρ l l1) : Wk k (tsOf n l) h (tsOf n l1) h1 := wk_pick ρ hk nd HH (tw_tsOf H)
/-- Keeps simp's congruence out of A and B. -/
structure Blk (A B : Prop) : Type where
  mk ::
def CndB (b : Bool) (A B : Prop) (_w : Blk A B) : Prop := Cnd b A B
@[simp high] theorem cndV_blk (A B : Prop) (b : Bool) : cndV A B (.p (.bool b)) = CndB b A B ⟨⟩ := rfl
@[simp high] theorem grd_blk_t (A B : Prop) (b : Bool) : grd true A B (.p (.bool b)) = CndB b A B ⟨⟩ := rfl
@[simp high] theorem grd_blk_f (A B : Prop) (b : Bool) : grd false A B (.p (.bool b)) = CndB (!b) A B ⟨⟩ := rfl
@[simp] theorem CndB_true (A B : Prop) (w : Blk A B) : CndB true A B w = A := Cnd_true A B
@[simp] theorem CndB_false (A B : Prop) (w : Blk A B) : CndB false A B w = B := Cnd_false A B
theorem cndb {b : Bool} {A B : Prop} {w : Blk A B} (h1 : b = true → A) (h2 : b = false → B) : CndB b A B w := ⟨h1, h2⟩
/-- An object without references is kept. -/
theorem hw_ok {ρ : List Nat} {h : List AO} {i : Nat} {π : List Nat} {o : AO} {r1 : List AO} (e : h[i]? = some o) (ho : okO 0 o) (hr : HW ρ h π r1) : HW ρ h (i :: π) (o :: r1) := by
  cases o with
  | dead => exact hw_dead (List.getElem?_eq_some_iff.1 e).1 hr
  | row sz es => exact hw_row e ho hr
  | sit s p => exact ⟨(List.getElem?_eq_some_iff.1 e).1, e, hr⟩
  | mp es =>
    refine ⟨(List.getElem?_eq_some_iff.1 e).1, ⟨fun x hx => ?_, ?_⟩, hr⟩
    · have := belowL_mono (Nat.zero_le ρ.length) [x.2] ⟨ho x hx, trivial⟩
      exact this.1
    · have : es.map (fun x => (x.1, ren ρ x.2)) = es := by
        rw [List.map_congr_left (g := id) fun x hx => by
          have := renL_pure ρ [x.2] ⟨ho x hx, trivial⟩
          simp only [renL, List.cons.injEq, and_true] at this
          rw [this]; rfl]
        simp
      rw [this]; exact e
theorem wkt_ren (ρ : List Nat) {k n : Nat} {l l1 : List (Nat × AV)} {h h1 : List AO} (hk : k ≤ ρ.length) (hi : ∀ i, i < k → ρ.getD i 0 = i) (nd : ρ.Nodup) (HH : HW ρ h ρ h1) (H : TWA ρ l l1) : Wk k (tsOf n l) h (tsOf n l1) h1 :=
  Wk.of ρ hk hi nd (tw_tsOf H) HH
/-- Dead ones may be named more than once. -/
theorem wkt_dup (ρ : List Nat) {k n : Nat} {l l1 : List (Nat × AV)} {h h1 : List AO} (hk : k ≤ ρ.length) (hi : ∀ i, i < k → ρ.getD i 0 = i) (nd : (lives ρ h1).Nodup) (HH : HW ρ h ρ h1) (H : TWA ρ l l1) : Wk k (tsOf n l) h (tsOf n l1) h1 :=
  Wk.ofL ρ hk hi nd (tw_tsOf H) HH
attribute [simp] puresOf
end Go.Aw
namespace Go.Aw
mutual
/-- No function within. -/
def nofn : AV → Bool
  | .agg cs => nofnL cs
  | .tup cs => nofnL cs
  | .fn _ _ => false
  | _ => true
def nofnL : List AV → Bool
  | [] => true
  | v :: r => nofn v && nofnL r
end
def nofnO : AO → Bool
  | .row _ es => es.all nofnL
  | .mp es => es.all fun x => nofn x.2
  | .sit .. => true
  | .dead => true
theorem nofnL_get : ∀ {l : List AV}, nofnL l = true → ∀ (j : Nat) (c : AV), l[j]? = some c → nofn c = true
  | v :: r, h, 0, c, e => by simp at e; subst e; simp [nofnL] at h; exact h.1
  | v :: r, h, j + 1, c, e => by simp [nofnL] at h; exact nofnL_get h.2 j c (by simpa using e)
theorem nofn_rel {W : World} {S : Nat → Prop} {φ φ' : Place} {n m : Nat} : ∀ {v : AV} {x : Value}, VRel W S φ' m v x → nofn v = true → VRel W S (both n φ φ') (n + m) (shiftV n v) x := by
  intro v x h
  induction h with
  | p pv x hp => intro _; exact .p _ _ hp
  | agg cs vs hs _ ih =>
    intro hc
    simp only [nofn] at hc
    simp only [shiftV, shiftL_map]
    refine .agg _ vs (by simp [hs]) fun j c y h1 h2 => ?_
    simp only [List.getElem?_map, Option.map_eq_some_iff] at h1
    obtain ⟨c0, h1, rfl⟩ := h1
    exact ih j c0 y h1 h2 (nofnL_get hc j c0 h1)
  | tup cs vs hs _ ih =>
    intro hc
    simp only [nofn] at hc
    simp only [shiftV, shiftL_map]
    refine .tup _ vs (by simp [hs]) fun j c y h1 h2 => ?_
    simp only [List.getElem?_map, Option.map_eq_some_iff] at h1
    obtain ⟨c0, h1, rfl⟩ := h1
    exact ih j c0 y h1 h2 (nofnL_get hc j c0 h1)
  | ptr id esz i off hid =>
    intro _
    have := VRel.ptr (W := W) (S := S) (φ := both n φ φ') (n := n + m) (n + id) esz i off (by omega)
    rw [both_add] at this; exact this
  | sl id esz off len cap ba hid hl hb hc =>
    intro _
    have := VRel.sl (W := W) (S := S) (φ := both n φ φ') (n := n + m) (n + id) esz off len cap ba (by omega) hl (by rw [both_add]; exact hb) (by rw [both_add]; exact hc)
    simpa [shiftV] using this
  | mp id hid =>
    intro _
    have := VRel.mp (W := W) (S := S) (φ := both n φ φ') (n := n + m) (n + id) (by omega)
    rw [both_add] at this; exact this
  | it id hid =>
    intro _
    have := VRel.it (W := W) (S := S) (φ := both n φ φ') (n := n + m) (n + id) (by omega)
    rw [both_add] at this; exact this
  | gp g off => intro _; exact .gp g off
  | nils => intro _; exact .nils
  | nilp => intro _; exact .nilp
  | nilf => intro _; exact .nilf
  | nilm => intro _; exact .nilm
  | nili => intro _; exact .nili
  | any x => intro _; exact .any x
  | eptr e off b o hb hc => intro _; exact .eptr e off b o hb hc
  | fn => intro hc; simp [nofn] at hc
  | ifc t pv x hp => intro _; exact .ifc t pv x hp
/-- A call whose arguments are pure, beside other things. -/
theorem AC.lift {P : Program} {G : Glob} {f : FuncId} {args : List AV} {r : AV} {h1 : List AO} (H : AC P G f args [] fun x h' => x = .ret r ∧ h' = h1) {h : List AO} (hv : belowL 0 args) (hr : nofn r = true) (hh : h1.all nofnO = true) :
    AC P G f args h fun x h' => x = .ret (shiftV h.length r) ∧ h' = h ++ h1.map (shiftO h.length) := by
  refine ⟨H.1, fun W S φ vs hH hA => ?_⟩
  have h0 : HRel G W S φ [] := ⟨fun id sz es e => by simp at e, fun id o e _ => by simp at e, fun id id' e => (live_nil e).elim, fun b hb => ⟨(hH.sep b hb).1, fun id e => (live_nil e).elim⟩, fun id hid => by simp at hid, hH.glob⟩
  refine (H.2 W _ φ vs h0 ⟨hA.1, fun j c v h1 h2 => ?_⟩).mono fun e W' ⟨x, S', φ', h', ⟨k0, k1⟩, k2, k3, k4⟩ => ?_
  · exact below_relS (fun b hb => hb) (belowL_get hv j c h1) (hA.2 j _ v h1 h2)
  subst k0; subst k1
  have hout : ∀ b, b < W.heap.size → W'.heap[b]? = W.heap[b]? := fun b hb => k4.out b hb fun id e => (live_nil e).elim
  have hlt : ∀ {id : Nat} {o : AO}, h[id]? = some o → id < h.length := fun e => (List.getElem?_eq_some_iff.1 e).1
  have himg : ∀ id, Live h' id → W.heap.size ≤ (φ' id).1 := fun id e => by
    rcases k4.img id e with h2 | ⟨id2, h2, _⟩
    · exact h2
    · exact (live_nil h2).elim
  have hφ : ∀ {i}, i < h.length → both h.length φ φ' i = φ i := fun hi => by simp [both, hi]
  have hφ' : ∀ i, both h.length φ φ' (h.length + i) = φ' i := fun i => both_add _ _ _ i
  have hget : ∀ {i o}, (h ++ h'.map (shiftO h.length))[i]? = some o → (i < h.length ∧ h[i]? = some o) ∨ (∃ k o', i = h.length + k ∧ h'[k]? = some o' ∧ o = shiftO h.length o') := fun {i o} e => by
    rcases Nat.lt_or_ge i h.length with hi | hi
    · rw [List.getElem?_append_left hi] at e; exact .inl ⟨hi, e⟩
    · rw [List.getElem?_append_right hi, List.getElem?_map, Option.map_eq_some_iff] at e
      obtain ⟨o, e2, e3⟩ := e
      exact .inr ⟨_, o, by omega, e2, e3.symm⟩
  have hsl : ∀ {o : AO}, (shiftO h.length o).live → o.live := fun {o} l => by cases o <;> exact l
  have hnew : ∀ b, S' b → S b ∨ W.heap.size ≤ b := fun b hb => by
    rcases k4.newS b hb with h2 | h2 | ⟨id, h2, _⟩
    · exact .inl h2
    · exact .inr h2
    · exact (live_nil h2).elim
  have K : Keep W S φ h W' S' (both h.length φ φ') (h ++ h'.map (shiftO h.length)) :=
    { pure := fun b hb => ⟨(k4.pure b hb).1, hout b (hH.sep b hb).1⟩, len := by simp, same := fun _ hid => hφ hid
      blk := fun id hid c t fr e => ⟨c, t, fr, by rw [← hout _ (hH.bnd id hid)]; exact e, rfl⟩
      os := k4.os, tape := k4.tape, output := k4.output, size := k4.size, out := fun b hb _ => hout b hb
      img := fun id ⟨o, e, l⟩ => by
        rcases hget e with ⟨hi, e'⟩ | ⟨k, o', rfl, e', rfl⟩
        · exact .inr ⟨id, ⟨_, e', l⟩, by rw [hφ hi]⟩
        · rw [hφ']; exact .inl (himg _ ⟨_, e', hsl l⟩)
      newS := fun b hb => (hnew b hb).elim .inl fun h2 => .inr (.inl h2) }
  have hlen : (h ++ h'.map (shiftO h.length)).length = h.length + h'.length := by simp
  refine ⟨.ret (shiftV h.length r), S', both h.length φ φ', _, ⟨rfl, rfl⟩, ⟨fun id sz es e => ?_, fun id o1 e lo => ?_, fun id id' ⟨o1, e1, l1⟩ ⟨o2, e2, l2⟩ he => ?_, fun b hb => ⟨(k2.sep b hb).1, fun id ⟨o1, e, l1⟩ he => ?_⟩, fun id hid => ?_, fun g cs hg => ?_⟩, ?_, K⟩
  · rcases hget e with ⟨hi, e'⟩ | ⟨k, o', rfl, e', eo⟩
    · obtain ⟨c, t, fr, a1, a2, a3, a4, a5⟩ := hH.obj id sz es e'
      refine ⟨c, t, fr, by rw [hφ hi, hout _ (hH.bnd id hi)]; exact a1, a2, a3, by rw [hφ hi]; exact a4, fun j u hj => ?_⟩
      obtain ⟨b1, v, b2, b3⟩ := a5 j u hj
      exact ⟨b1, v, by rw [hφ hi]; exact b2, b3.kept K.toKept⟩
    · obtain ⟨es', rfl, rfl⟩ : ∃ es', o' = .row sz es' ∧ es = es'.map (shiftL h.length) := by cases o' <;> cases eo; exact ⟨_, rfl, rfl⟩
      obtain ⟨c, t, fr, a1, a2, a3, a4, a5⟩ := k2.obj k sz es' e'
      refine ⟨c, t, fr, by rw [hφ']; exact a1, a2, fun e he => ?_, by rw [hφ']; simpa using a4, fun j u hj => ?_⟩
      · obtain ⟨e0, he0, rfl⟩ := List.mem_map.1 he
        rw [shiftL_map]; simpa using a3 e0 he0
      · have hfl : (es'.map (shiftL h.length)).flatten = es'.flatten.map (shiftV h.length) := by
          rw [List.map_flatten]; congr 1; exact List.map_congr_left fun l _ => shiftL_map _ l
        rw [hfl, List.getElem?_map, Option.map_eq_some_iff] at hj
        obtain ⟨u0, hj, rfl⟩ := hj
        obtain ⟨b1, v, b2, b3⟩ := a5 j u0 hj
        have hcl : nofn u0 = true := by
          have h3 := List.all_eq_true.1 hh _ (List.mem_of_getElem? e')
          simp only [nofnO] at h3
          obtain ⟨l, hl, hu⟩ := List.mem_flatten.1 (List.mem_of_getElem? hj)
          have h4 := List.all_eq_true.1 h3 l hl
          obtain ⟨q, hq⟩ := List.getElem?_of_mem hu
          exact nofnL_get h4 q u0 hq
        exact ⟨by rw [shift_isCell]; exact b1, v, by rw [hφ']; exact b2, by rw [hlen]; exact nofn_rel b3 hcl⟩
  · rcases hget e with ⟨hi, e'⟩ | ⟨k, o', rfl, e', eo⟩
    · rw [hφ hi, hout _ (hH.bnd id hi)]
      exact (hH.oobj id o1 e' lo).mono fun a v r => r.kept K.toKept
    · subst eo
      rw [hφ']
      have hq := k2.oobj k o' e' (hsl lo)
      cases o' with
      | dead => trivial
      | row sz es => trivial
      | sit t pos => exact hq
      | mp es' =>
        obtain ⟨ents, clock, a1, a2, a3, a4⟩ := hq
        refine ⟨ents, clock, a1, by simpa using a2, fun j k a hj => ?_, a4⟩
        rw [List.getElem?_map, Option.map_eq_some_iff] at hj
        obtain ⟨⟨k0, a0⟩, hj, hk⟩ := hj
        cases hk
        obtain ⟨x, c1, c2, c3⟩ := a3 j _ _ hj
        have hcl : nofn a0 = true := by
          have h3 := List.all_eq_true.1 hh _ (List.mem_of_getElem? e')
          simp only [nofnO] at h3
          exact List.all_eq_true.1 h3 _ (List.mem_of_getElem? hj)
        exact ⟨x, c1, c2, by rw [hlen]; exact nofn_rel c3 hcl⟩
  · rcases hget e1 with ⟨hi, e1'⟩ | ⟨k, _, rfl, e1', rfl⟩ <;> rcases hget e2 with ⟨hi', e2'⟩ | ⟨k', _, rfl, e2', rfl⟩
    · rw [hφ hi, hφ hi'] at he; exact hH.inj _ _ ⟨_, e1', l1⟩ ⟨_, e2', l2⟩ he
    · rw [hφ hi, hφ'] at he
      have := himg _ ⟨_, e2', hsl l2⟩
      have := hH.bnd id hi
      omega
    · rw [hφ hi', hφ'] at he
      have := himg _ ⟨_, e1', hsl l1⟩
      have := hH.bnd id' hi'
      omega
    · rw [hφ', hφ'] at he; rw [k2.inj _ _ ⟨_, e1', hsl l1⟩ ⟨_, e2', hsl l2⟩ he]
  · rcases hget e with ⟨hi, e'⟩ | ⟨k, _, rfl, e', rfl⟩
    · rw [hφ hi] at he
      rcases hnew b hb with h2 | h2
      · exact (hH.sep b h2).2 _ ⟨_, e', l1⟩ he
      · have := hH.bnd id hi
        omega
    · rw [hφ'] at he
      exact (k2.sep b hb).2 _ ⟨_, e', hsl l1⟩ he
  · rcases Nat.lt_or_ge id h.length with hi | hi
    · rw [hφ hi]; exact Nat.lt_of_lt_of_le (hH.bnd id hi) k4.size
    · have hid' : id - h.length < h'.length := by rw [hlen] at hid; omega
      have := hφ' (id - h.length)
      rw [show h.length + (id - h.length) = id by omega] at this
      rw [this]
      exact k2.bnd _ hid'
  · obtain ⟨g1, g2⟩ := hH.glob g cs hg
    refine ⟨(K.pure g g1).1, fun j c hj => ?_⟩
    obtain ⟨v, v1, v2⟩ := g2 j c hj
    exact ⟨v, by rw [cell?_of_heap (K.pure g g1).2]; exact v1, v2.mono K.pure⟩
  · cases k3 with
    | ret _ x hv => rw [hlen]; exact .ret _ _ (nofn_rel hv hr)
end Go.Aw
namespace Go.Aw
variable {P : Program}
theorem conf_sl {t e : TypeId} {vs : List PV} (h : Conf P t vs) (hu : P.underlying t = some (.slice e)) : ∃ es, vs = [.lst (P.cellsOf e) es] ∧ ∀ x ∈ es, Conf P e x := by
  cases h with
  | sl es e' hl hs => rw [hu] at e'; cases e'; exact ⟨es, rfl, hs⟩
  | bool b e => rw [e] at hu; cases hu
  | int n e => rw [e] at hu; cases hu
  | str s e => rw [e] at hu; cases hu
  | st vs e => rw [e] at hu; cases hu
  | arr vs e => rw [e] at hu; cases hu
theorem conf_int {t : TypeId} {k : IntKind} {vs : List PV} (h : Conf P t vs) (hu : P.underlying t = some (.int k)) : ∃ n, vs = [.int k n] ∧ (Lit.int k n).wf = true := by
  cases h with
  | int n e hw => rw [hu] at e; cases e; exact ⟨n, rfl, hw⟩
  | sl es e => rw [e] at hu; cases hu
  | bool b e => rw [e] at hu; cases hu
  | str s e => rw [e] at hu; cases hu
  | st vs e => rw [e] at hu; cases hu
  | arr vs e => rw [e] at hu; cases hu
theorem confs_cons {t : TypeId} {ts : List TypeId} {vss : List (List PV)} (h : Confs P (t :: ts) vss) : ∃ vs r, vss = vs :: r ∧ Conf P t vs ∧ Confs P ts r := by
  cases h with
  | cons h1 h2 => exact ⟨_, _, rfl, h1, h2⟩
theorem confs_nil {vss : List (List PV)} (h : Confs P [] vss) : vss = [] := by cases h; rfl
theorem list_of {α β : Type} (g : β → α) : ∀ {es : List α}, (∀ x ∈ es, ∃ m, x = g m) → ∃ ms : List β, es = ms.map g
  | [], _ => ⟨[], rfl⟩
  | e :: r, h => by
    obtain ⟨m, hm⟩ := h e (by simp)
    obtain ⟨ms, hms⟩ := list_of g (es := r) fun x hx => h x (by simp [hx])
    exact ⟨m :: ms, by simp [hm, hms]⟩
end Go.Aw
namespace Go.Aw
def slE (id sz : Nat) (l : List (List AV)) : AV := if l = [] then .nils else .sl id sz 0 l.length
def rowE (sz : Nat) (l : List (List AV)) : AO := if l = [] then .dead else .row sz l
theorem slE_nil (id sz : Nat) : slE id sz [] = .nils := rfl
theorem rowE_nil (sz : Nat) : rowE sz [] = .dead := rfl
theorem slE_ne {id sz : Nat} {l : List (List AV)} (h : l ≠ []) : slE id sz l = .sl id sz 0 l.length := if_neg h
theorem rowE_ne {sz : Nat} {l : List (List AV)} (h : l ≠ []) : rowE sz l = .row sz l := if_neg h
def lenV : AV → Option AV
  | .p (.lst _ es) => some (.p (.int .i64 es.length))
  | .nils => some (.p (.int .i64 0))
  | .sl _ _ _ n => some (.p (.int .i64 n))
  | _ => none
section
variable {P : Program} {G : Glob} {d : Option Nat} {r : List CO} {ts : List AV} {h : List AO} {K : KT} {Qp : QP}
theorem ev_lenV (x : AOp) : ev G ts h (.len false x) = (lenV (x.ev ts)).map (·, h) := by
  show (un (.len false x) (x.ev ts)).map (·, h) = _
  cases x.ev ts <;> try rfl
  rename_i v; cases v <;> rfl
@[simp high] theorem rK_lenV (x : AOp) : rK P G (⟨d, none, .len false x⟩ :: r) ts h K Qp = nxt P G d r ts K Qp ((lenV (x.ev ts)).map (·, h)) := by
  rw [← ev_lenV (G := G)]; exact rK_ev _ rfl
@[simp] theorem lenV_p (sz : Nat) (es : List (List PV)) : lenV (.p (.lst sz es)) = some (.p (.int .i64 es.length)) := rfl
@[simp] theorem lenV_nils : lenV .nils = some (.p (.int .i64 0)) := rfl
@[simp] theorem lenV_sl (a b c n : Nat) : lenV (.sl a b c n) = some (.p (.int .i64 n)) := rfl
@[simp] theorem lenV_E (id sz : Nat) (l : List (List AV)) : lenV (slE id sz l) = some (.p (.int .i64 l.length)) := by
  by_cases e : l = []
  · subst e; rfl
  · rw [slE_ne e]; rfl
end
section
variable {G : Glob} {h : List AO} {id sz : Nat} {l : List (List AV)}
@[simp high] theorem un_len_E (o : AOp) : un (.len false o) (slE id sz l) = some (.p (.int .i64 l.length)) := by
  by_cases e : l = []
  · subst e; rfl
  · rw [slE_ne e]; rfl
@[simp high] theorem lenOf_E : lenOf (slE id sz l) = some l.length := by
  by_cases e : l = []
  · subst e; rfl
  · rw [slE_ne e]; rfl
@[simp high] theorem elems_E (he : h[id]? = some (rowE sz l)) : elems h sz (slE id sz l) = some l := by
  by_cases e : l = []
  · subst e; rfl
  · rw [slE_ne e]; rw [rowE_ne e] at he; simp [he]
@[simp high] theorem appR_E {b : Nat} {xs : List (List AV)} (he : h[id]? = some (rowE sz l)) (hx : xs ≠ []) :
    appR h sz b (some xs) (slE id sz l) = if (l.length + xs.length) * b ≤ 140737488355328 ∧ l.length + xs.length ≤ 140737488355328 then some (.sl h.length sz 0 (l.length + xs.length), h.set id .dead ++ [.row sz (l ++ xs)]) else none := by
  by_cases e : l = []
  · subst e
    have : h.set id .dead = h := by
      refine List.ext_getElem? fun i => ?_
      rw [List.getElem?_set]
      split
      · rename_i hi; subst hi
        split
        · exact he.symm
        · rename_i hl; rw [List.getElem?_eq_none (by omega)]
      · rfl
    rw [slE_nil, appR_nils, this]; simp [hx]
  · rw [slE_ne e, appR_sl]; rw [rowE_ne e] at he; simp [he]
@[simp high] theorem idxR_E (esz : Nat) (k : IntKind) (n : Int) : idxR h esz (slE id sz l) (.p (.int k n)) = if l ≠ [] ∧ sz = esz ∧ 0 ≤ n ∧ n < l.length then some (.ptr id esz n.toNat 0, h) else none := by
  by_cases e : l = []
  · subst e; rfl
  · rw [slE_ne e, idxR_sl]; simp [e]
@[simp high] theorem rdCells_E {esz i off : Nat} (he : h[id]? = some (rowE sz l)) : rdCells G h (.ptr id esz i off) = if sz = esz then (l[i]?).map (·, off) else none := by
  by_cases e : l = []
  · subst e
    simp only [rdCells, he, rowE_nil]; simp
  · rw [rowE_ne e] at he
    simp only [rdCells, he]
@[simp] theorem below_E {m : Nat} (hi : id < m) : below m (slE id sz l) := by
  by_cases e : l = []
  · subst e; trivial
  · rw [slE_ne e]; exact hi
@[simp] theorem ren_E {ρ : List Nat} : ren ρ (slE id sz l) = slE (ρ.getD id 0) sz l := by
  by_cases e : l = []
  · subst e; rfl
  · rw [slE_ne e, slE_ne e]; rfl
@[simp] theorem slE_app (xs : List (List AV)) (hx : xs ≠ []) : slE id sz (l ++ xs) = .sl id sz 0 (l.length + xs.length) := by
  rw [slE_ne (by simp [hx])]; simp
@[simp] theorem rowE_app (xs : List (List AV)) (hx : xs ≠ []) : rowE sz (l ++ xs) = .row sz (l ++ xs) := rowE_ne (by simp [hx])
@[simp high] theorem isCell_E : (slE id sz l).isCell = true := by
  by_cases e : l = []
  · subst e; rfl
  · rw [slE_ne e]; rfl
@[simp high] theorem cells_E : (slE id sz l).cells = [slE id sz l] := by
  by_cases e : l = []
  · subst e; rfl
  · rw [slE_ne e]; rfl
end
attribute [simp ↓] isCell_E cells_E un_len_E lenOf_E elems_E rdCells_E
theorem okO_E {sz : Nat} {l : List (List AV)} (h : ∀ x ∈ l, belowL 0 x) : okO 0 (rowE sz l) := by
  by_cases e : l = []
  · subst e; trivial
  · rw [rowE_ne e]; exact h
theorem hw_rowE {ρ : List Nat} {h : List AO} {i sz : Nat} {l : List (List AV)} {π : List Nat} {r1 : List AO} (e : h[i]? = some (rowE sz l)) (ho : ∀ x ∈ l, belowL 0 x) (hr : HW ρ h π r1) : HW ρ h (i :: π) (rowE sz l :: r1) :=
  hw_ok e (okO_E ho) hr
theorem view_E {h : List AO} {id sz : Nat} {ls : List (List PV)} (e : h[id]? = some (rowE sz (ls.map (·.map .p)))) (hl : ∀ l ∈ ls, l.length = sz) : View h (slE id sz (ls.map (·.map .p))) (.lst sz ls) := by
  by_cases e2 : ls = []
  · subst e2; exact View.nils sz
  · have e3 : ls.map (·.map AV.p) ≠ [] := by simpa using e2
    rw [rowE_ne e3] at e
    rw [slE_ne e3, List.length_map]
    exact view_row e rfl hl
end Go.Aw
namespace Go.Proofs.YtbbobekgnclkfaaDoor
open Go Go.Aw
set_option maxRecDepth 100000
set_option maxHeartbeats 4000000
theorem s_l25Long (G : Glob) (f : Mfn) (hf : InsFine f.ins) : VF Tryd.prog G n_spec_l25Long [.agg (f.cs.map .p)] (.p (boolL (longs f.ins))) :=
  AC.freeze (o_l25Long G f hf) (.one (by have := boolO_view (h := [boolO (longs f.ins)]) (id := 0) rfl; rw [longs_len] at this; exact this) .nil)
def mostStep (m : Nat) (x : Mins) : Nat := if x.op = 14 ∧ (m : Int) ≤ x.n ∧ x.n < 4 then x.n.toNat + 1 else m
def mostS (ins : List Mins) : Nat := ins.foldl mostStep 0
def mostT (ins : List Mins) (i : Nat) : Nat := (ins.take i).foldl mostStep 0
theorem mostT_succ {ins : List Mins} {i : Nat} (h : i < ins.length) : mostT ins (i + 1) = mostStep (mostT ins i) ins[i] := by rw [mostT, take_succ' h, List.foldl_append]; rfl
theorem mostStep_le {m : Nat} {x : Mins} (h : m ≤ 4) : mostStep m x ≤ 4 := by unfold mostStep; split <;> omega
theorem mostT_le (ins : List Mins) (i : Nat) : mostT ins i ≤ 4 := by
  have key : ∀ (l : List Mins) (m : Nat), m ≤ 4 → l.foldl mostStep m ≤ 4 := by
    intro l
    induction l with
    | nil => intro m h; exact h
    | cons x r ih => intro m h; exact ih _ (mostStep_le h)
  exact key _ _ (by omega)
def back1 : Mins := ⟨22, 0, 0, 0, 0⟩
def backF : Mfn := ⟨0, 0, [back1]⟩
def aloneF (e : Nat) (f : Mfn) : List Mfn := List.replicate e backF ++ [f]
/-- The heap while the program is made. -/
def aloneH (bx rs : AO) : Nat → List AO
  | 0 => [bx, rs, .row 1 [[.nils]]]
  | k + 1 => [bx, rs, .row 1 [[.sl 3 3 0 (k + 1)]], .row 3 (fnsR 4 (List.replicate (k + 1) backF))] ++ List.replicate (k + 1) (insO [back1])
theorem renL_mapp (ρ : List Nat) (l : List PV) : renL ρ (l.map .p) = l.map .p := renL_pure ρ _ (by simp)
variable (G : Glob)
theorem s_l25Alone (f : Mfn) (hn : f.ins.length ≤ 1048576) : VF Tryd.prog G n_spec_l25Alone [.agg (f.cs.map .p)] (.agg [.p (fnsL (aloneF (mostS f.ins) f))]) := by
  have key : AC Tryd.prog G n_spec_l25Alone [.agg (f.cs.map .p)] [] fun x h => ∃ id, x = .ret (.agg [.sl id 3 0 (mostS f.ins + 1)]) ∧ h[id]? = some (.row 3 (fnsR 4 (List.replicate (mostS f.ins) backF) ++ [f.cs.map .p])) ∧ ∀ j, j < mostS f.ins → h[4 + j]? = some (insO [back1]) := by
    refine AC.go k_spec_l25Alone ?_
    simp -implicitDefEqProofs [F_spec_l25Alone]
    refine loopA (fun i : Nat => tsOf 68 [(1, .ptr 0 3 0 0), (2, .ptr 1 1 0 0), (3, .ptr 2 1 0 0), (4, .p (.int .i64 (mostT f.ins i))), (5, .p (.int .i64 i))]) (fun _ => aloneH (.row 3 [f.cs.map .p]) (.row 1 [[.nils]]) 0)
      (fun i => i ≤ f.ins.length) (fun i => f.ins.length - i) 0 (by simp) ?_ ?_
    · refine wkt_same ?_ ?_ ?_
      · simp
      · simp [okO]
      simp [below, mostT]
    · intro i hi
      simp -implicitDefEqProofs [aloneH]
      simp -implicitDefEqProofs [Mfn.cs]
      refine cndb (fun h1 => ?_) (fun h1 => ?_)
      · simp at h1
        have hg1 := List.getElem?_eq_getElem h1
        have hm := mostT_le f.ins i
        have hgo : ∀ m, m = mostT f.ins (i + 1) → Wk 0 [] [] [] [] → True := fun _ _ _ => trivial
        by_cases h14 : f.ins[i].op = 14
        · by_cases hge : (mostT f.ins i : Int) ≤ f.ins[i].n
          · by_cases hlt : f.ins[i].n < 4
            · have hw : IntKind.i64.wrap (f.ins[i].n + 1) = ((mostT f.ins (i + 1) : Nat) : Int) := by rw [i64_small (by omega) (by omega), mostT_succ h1, mostStep, if_pos ⟨h14, hge, hlt⟩]; omega
              simp -implicitDefEqProofs [hg1, Mins.cs, h14, hge, hlt, hw]
              refine ⟨i + 1, h1, by omega, wkt_same (by simp) (by simp [okO]) ?_⟩
              simp [below, w1 (i := i) (by omega)]
            · have hw : mostT f.ins (i + 1) = mostT f.ins i := by rw [mostT_succ h1, mostStep, if_neg (by omega)]
              simp -implicitDefEqProofs [hg1, Mins.cs, h14, hge, hlt]
              refine ⟨i + 1, h1, by omega, wkt_same (by simp) (by simp [okO]) ?_⟩
              simp [below, w1 (i := i) (by omega), hw]
          · have hw : mostT f.ins (i + 1) = mostT f.ins i := by rw [mostT_succ h1, mostStep, if_neg (by omega)]
            simp -implicitDefEqProofs [hg1, Mins.cs, h14, hge]
            refine ⟨i + 1, h1, by omega, wkt_same (by simp) (by simp [okO]) ?_⟩
            simp [below, w1 (i := i) (by omega), hw]
        · have hw : mostT f.ins (i + 1) = mostT f.ins i := by rw [mostT_succ h1, mostStep, if_neg (by omega)]
          simp -implicitDefEqProofs [hg1, Mins.cs, h14]
          refine ⟨i + 1, h1, by omega, wkt_same (by simp) (by simp [okO]) ?_⟩
          simp [below, w1 (i := i) (by omega), hw]
      · simp at h1
        have he : mostT f.ins i = mostS f.ins := by rw [mostT, List.take_of_length_le h1]; rfl
        have hle := mostT_le f.ins i
        simp -implicitDefEqProofs []
        rw [he] at hle ⊢
        generalize mostS f.ins = e at hle ⊢
        refine loopA (fun k : Nat => tsOf 68 [(1, .ptr 0 3 0 0), (2, .ptr 1 1 0 0), (3, .ptr 2 1 0 0), (4, .p (.int .i64 e)), (6, .p (.int .i64 k))]) (fun k => aloneH (.row 3 [f.cs.map .p]) (.row 1 [[.nils]]) k)
          (fun k => k ≤ e) (fun k => e - k) 0 (by simp) ?_ ?_
        · refine wkt_same ?_ ?_ ?_
          · simp
          · simp [okO]
          simp [below]
        · intro k hk
          simp -implicitDefEqProofs []
          refine cndb (fun h2 => ?_) (fun h2 => ?_)
          · simp at h2
            have hkk : k = 0 ∨ k = 1 ∨ k = 2 ∨ k = 3 := by omega
            rcases hkk with rfl | rfl | rfl | rfl
            · simp -implicitDefEqProofs [aloneH, fnsR, List.replicate, Mfn.ov, backF, insO]
              refine ⟨1, by omega, by omega, wkt_pick [0, 1, 2, 5, 3] rfl (by decide) ?_ ?_⟩
              · simp [HW, renL, ren, below, renL_mapp, Mins.av, Mins.cs, back1, fnsR, Mfn.ov]
              · simp [below, ren, IntKind.wrap, IntKind.bits, IntKind.signed]
            · simp -implicitDefEqProofs [aloneH, fnsR, List.replicate, Mfn.ov, backF, insO]
              refine ⟨2, by omega, by omega, wkt_pick [0, 1, 2, 7, 4, 5] rfl (by decide) ?_ ?_⟩
              · simp [HW, renL, ren, below, renL_mapp, Mins.av, Mins.cs, back1, fnsR, Mfn.ov]
              · simp [below, ren, IntKind.wrap, IntKind.bits, IntKind.signed]
            · simp -implicitDefEqProofs [aloneH, fnsR, List.replicate, Mfn.ov, backF, insO]
              refine ⟨3, by omega, by omega, wkt_pick [0, 1, 2, 8, 4, 5, 6] rfl (by decide) ?_ ?_⟩
              · simp [HW, renL, ren, below, renL_mapp, Mins.av, Mins.cs, back1, fnsR, Mfn.ov]
              · simp [below, ren, IntKind.wrap, IntKind.bits, IntKind.signed]
            · simp -implicitDefEqProofs [aloneH, fnsR, List.replicate, Mfn.ov, backF, insO]
              refine ⟨4, by omega, by omega, wkt_pick [0, 1, 2, 9, 4, 5, 6, 7] rfl (by decide) ?_ ?_⟩
              · simp [HW, renL, ren, below, renL_mapp, Mins.av, Mins.cs, back1, fnsR, Mfn.ov]
              · simp [below, ren, IntKind.wrap, IntKind.bits, IntKind.signed]
          · simp at h2
            have hke : k = e := by omega
            subst hke
            have hkk : k = 0 ∨ k = 1 ∨ k = 2 ∨ k = 3 ∨ k = 4 := by omega
            rcases hkk with rfl | rfl | rfl | rfl | rfl
            all_goals
              simp -implicitDefEqProofs [aloneH, fnsR, List.replicate, Mfn.ov, backF, insO]
              first
                | rfl
                | (refine ⟨rfl, ?_⟩
                   intro j hj
                   have : j = 0 ∨ j = 1 ∨ j = 2 ∨ j = 3 := by omega
                   rcases this with rfl | rfl | rfl | rfl <;> first | rfl | omega)
  refine key.freezeR (fun t v h ⟨id, e, _⟩ => by cases e) fun v h ⟨id, e1, e2, e3⟩ => ?_
  cases e1
  refine .agg (.one ?_ .nil) .nil
  have hlen : ((aloneF (mostS f.ins) f).map Mfn.cs).length = mostS f.ins + 1 := by simp [aloneF]
  have hv := View.sl id 3 0 _ ((aloneF (mostS f.ins) f).map Mfn.cs) e2 (by simp [aloneF, fnsR_len]) (by intro e he; obtain ⟨m, _, rfl⟩ := List.mem_map.1 he; rfl) (fun i j e q e' a h1 h2 h3 h4 => by
    rw [Nat.zero_add] at h3
    rcases Nat.lt_or_ge i (mostS f.ins) with hi | hi
    · have e5 : ((aloneF (mostS f.ins) f).map Mfn.cs)[i]? = some backF.cs := by
        rw [List.getElem?_map, aloneF, List.getElem?_append_left (by simpa using hi), List.getElem?_replicate, if_pos hi]; rfl
      rw [e5] at h1; cases h1
      rw [List.getElem?_append_left (by rw [fnsR_len]; simpa using hi), fnsR_get, List.getElem?_replicate, if_pos hi] at h3
      cases h3
      match j, h2, h4 with
      | 0, h2, h4 => cases h2; cases h4; exact .p _
      | 1, h2, h4 => cases h2; cases h4; exact .p _
      | 2, h2, h4 =>
        cases h2; cases h4
        exact view_row (ls := [back1.cs]) (e3 i hi) rfl (by simp)
      | j + 3, h2, h4 => simp [backF, Mfn.cs] at h2
    · have hil : i < mostS f.ins + 1 := by have := (List.getElem?_eq_some_iff.1 h1).1; rw [hlen] at this; exact this
      have hie : i = mostS f.ins := by omega
      rw [List.getElem?_append_right (by rw [fnsR_len]; simpa using hi), fnsR_len, List.length_replicate, hie, Nat.sub_self] at h3
      cases h3
      have e5 : ((aloneF (mostS f.ins) f).map Mfn.cs)[i]? = some f.cs := by
        rw [List.getElem?_map, aloneF, List.getElem?_append_right (by simpa using hi), List.length_replicate, hie, Nat.sub_self]; rfl
      rw [e5] at h1; cases h1
      rw [List.getElem?_map, h2] at h4
      cases h4
      exact .p _)
  rw [hlen] at hv
  exact hv
end Go.Proofs.YtbbobekgnclkfaaDoor
namespace Go.Proofs.YtbbobekgnclkfaaDoor
open Go Go.Aw
set_option maxRecDepth 100000
set_option maxHeartbeats 4000000
def codeOk (f : Mfn) : Bool := machOk (aloneF (mostS f.ins) f) && decide (plc f.ins (longs f.ins) f.ins.length ≤ 8000)
def encB (f : Mfn) : List Int := encT f.ins (longs f.ins) f.ins.length
theorem fine_of_fn {k : Int} {f : Mfn} (h : fnOk k f = true) (hl : f.ins.length ≤ 2000) : InsFine f.ins := by
  refine ⟨hl, fun x hx => ?_⟩
  simp only [fnOk, Bool.and_eq_true, List.all_eq_true] at h
  have hi := h.2 x hx
  rw [insOk_eq2] at hi
  simp only [Bool.and_eq_true] at hi
  obtain ⟨⟨⟨⟨h1, h2⟩, h3⟩, h4⟩, h5⟩ := hi
  refine ⟨h2, h3, ?_, fun hj => ?_⟩
  · simp only [formOk, Bool.and_eq_true] at h1; exact h1.1.1.1.1
  · have hc : x.op = 20 ∨ x.op = 21 := by simpa [jmp] using hj
    rcases hc with e | e <;> simpa [fN, mostN, e, inR] using h5
theorem insSum_alone (e : Nat) (f : Mfn) : insSum (aloneF e f) = e + f.ins.length := by
  simp [insSum, aloneF, backF]
theorem fine_of_alone {e : Nat} {f : Mfn} (h : machOk (aloneF e f) = true) : InsFine f.ins := by
  simp only [machOk, Bool.and_eq_true, decide_eq_true_eq] at h
  have hs := h.1.2
  rw [insSum_alone] at hs
  have := fnsOk_get h.2 (i := e) (f := f) (by simp [aloneF])
  exact fine_of_fn this (by omega)
theorem szF_alone (e : Nat) (f : Mfn) : szF (aloneF e f) = e + 1 + (e + f.ins.length) := by
  have := insSum_alone e f
  simp only [insSum] at this
  rw [szF, this]; simp [aloneF]
theorem encI_len (ins : List Mins) (L : List Bool) (i : Nat) : (encI ins L i).length ≤ 4 := by
  unfold encI
  split
  · split
    · rename_i x b _ _ _; rcases plainB_len x with h | h <;> omega
    · repeat' split
      all_goals simp
  · simp
theorem encT_len (ins : List Mins) (L : List Bool) (i : Nat) : (encT ins L i).length ≤ 4 * i := by
  induction i with
  | zero => simp [encT]
  | succ i ih => rw [encT_succ, List.length_append]; have := encI_len ins L i; omega
variable (G : Glob)
theorem intsO_view {l : List Nat} {id : Nat} {h : List AO} (e : h[id]? = some (intsO l)) : View h (.sl id 1 0 l.length) (intsL l) := by
  have := view_row (h := h) (id := id) (sz := 1) (n := l.length) (ls := l.map fun (n : Nat) => [.int .i64 (n : Int)]) (by rw [e, intsO]; simp) (by simp) (fun x hx => by obtain ⟨b, _, rfl⟩ := List.mem_map.1 hx; rfl)
  exact this
theorem s_l25Places (f : Mfn) (L : List Bool) (hl : L.length = f.ins.length) (hf : InsFine f.ins) :
    VF Tryd.prog G n_spec_l25Places [.agg (f.cs.map .p), .p (boolL L)] (.tup [.p (intsL (plcs f.ins L f.ins.length)), .p (.int .i64 (plc f.ins L f.ins.length))]) :=
  AC.freeze (o_l25Places G f L hl hf) (.tup (.one (by have := intsO_view (h := [intsO (plcs f.ins L f.ins.length)]) (id := 0) rfl; rw [plcs_len] at this; exact this) (.keep (by simp) .nil)) .nil)
theorem s_l25Can (f : Mfn) (hn : f.ins.length ≤ 1000000) : VF Tryd.prog G n_spec_l25Can [.agg (f.cs.map .p)] (.p (.bool (codeOk f))) := by
  refine AC.go k_spec_l25Can ?_
  have hm := mostT_le f.ins f.ins.length
  have he : mostT f.ins f.ins.length = mostS f.ins := by rw [mostT, List.take_of_length_le (Nat.le_refl _)]; rfl
  simp -implicitDefEqProofs [F_spec_l25Can]
  refine (s_l25Alone G f (by omega)).use ?_
  simp -implicitDefEqProofs
  refine (s_MachValid G _ (by rw [szF_alone]; omega)).use ?_
  simp -implicitDefEqProofs
  refine cndb (fun h => ?_) (fun h => ?_)
  · simp at h
    simp -implicitDefEqProofs [codeOk, h]
  · simp at h
    have hf := fine_of_alone h
    simp -implicitDefEqProofs
    refine (s_l25Long G f hf).use ?_
    simp -implicitDefEqProofs
    refine (s_l25Places G f _ (longs_len _) hf).use ?_
    simp -implicitDefEqProofs [codeOk, h]
    omega
theorem u8_256 (d : Int) : IntKind.u8.wrap (d + 256) = IntKind.u8.wrap d := by
  simp [IntKind.wrap, IntKind.bits, IntKind.signed]
theorem k_sEncodeFn (f : Mfn) (hn : f.ins.length ≤ 1000000) : AC Tryd.prog G n_spec_EncodeFn [.agg (f.cs.map .p)] [] fun x h => ∃ id, x = .ret (.tup [.sl id 1 0 (if codeOk f then encB f else []).length, .p (.bool (codeOk f))]) ∧ h[id]? = some (bysO (if codeOk f then encB f else [])) := by
  refine AC.go k_spec_EncodeFn ?_
  simp -implicitDefEqProofs [F_spec_EncodeFn]
  refine (s_l25Can G f hn).use ?_
  by_cases hc : codeOk f = true
  rotate_left
  · simp -implicitDefEqProofs [hc, bysO]
  have hal : machOk (aloneF (mostS f.ins) f) = true := by simp [codeOk] at hc; exact hc.1
  have hf := fine_of_alone hal
  obtain ⟨hn2, hfi⟩ := id hf
  simp -implicitDefEqProofs [hc]
  refine (s_l25Long G f hf).use ?_
  simp -implicitDefEqProofs
  refine (s_l25Places G f _ (longs_len _) hf).use ?_
  simp -implicitDefEqProofs
  have hL := longs_len f.ins
  simp only [encB]
  generalize longs f.ins = L at hL ⊢
  refine loopA (fun i : Nat => tsOf 98 [(1, .ptr 0 3 0 0), (4, .sl 1 1 0 (encT f.ins L i).length), (5, .p (boolL L)), (6, .p (intsL (plcs f.ins L f.ins.length))), (8, .p (.int .i64 i))]) (fun i => [.row 3 [f.cs.map .p], bysO (encT f.ins L i)])
    (fun i => i ≤ f.ins.length) (fun i => f.ins.length - i) 0 (by simp) ?_ ?_
  · refine wkt_same ?_ ?_ ?_
    · simp
    · simp [okO]
    simp [below, encT]
  · intro i hi
    simp -implicitDefEqProofs [Mfn.cs]
    refine cndb (fun h1 => ?_) (fun h1 => ?_)
    · simp at h1
      have h2 : i < L.length := by omega
      obtain ⟨q1, q2, q3, q4⟩ := hfi _ (List.getElem_mem h1)
      have hg1 := List.getElem?_eq_getElem h1
      have hg2 := List.getElem?_eq_getElem h2
      have hbo : ∀ l, bysO l = .row 1 (l.map fun n => [.p (.int .u8 n)]) := fun _ => rfl
      have happ : ∀ l l' : List Int, (l.map fun n => [AV.p (.int .u8 n)]) ++ (l'.map fun n => [AV.p (.int .u8 n)]) = (l ++ l').map fun n => [AV.p (.int .u8 n)] := by simp
      have htk : ∀ l : List Int, List.take l.length (l.map fun n => [AV.p (.int .u8 n)]) = l.map fun n => [AV.p (.int .u8 n)] := fun l => List.take_of_length_le (by simp)
      have henc := encT_succ f.ins L i
      simp -implicitDefEqProofs [hg1, Mfn.cs]
      refine (s_l24Jumps G f.ins[i]).use ?_
      by_cases hj : jmp f.ins[i] = true
      rotate_left
      · simp -implicitDefEqProofs [hj]
        refine (s_l25Plain G f.ins[i] q1 q2).use ?_
        have he : encI f.ins L i = plainB f.ins[i] := by simp [encI, hg1, hg2, hj]
        have hl1 := plainB_len f.ins[i]
        have hel := encT_len f.ins L i
        simp -implicitDefEqProofs [bysL, hbo, htk]
        refine ⟨by omega, i + 1, h1, by omega, wkt_pick [0, 3] rfl (by simp) (hw_row rfl (by simp) (hw_row (by simp [henc, he, Function.comp_def]) (by simp) hw_nil)) ?_⟩
        simp [below, ren, w1 (i := i) (by omega), henc, he]
      · have q5 := q4 hj
        simp [inR] at q5
        have hnl : f.ins[i].n.toNat < f.ins.length := by omega
        have hp1 := plcs_get (ins := f.ins) (L := L) hnl
        have hp2 := plcs_get (ins := f.ins) (L := L) h1
        have hle1 := plc_le (ins := f.ins) (L := L) hL (i := i)
        have hle2 := plc_le (ins := f.ins) (L := L) hL (i := f.ins[i].n.toNat)
        have hel := encT_len f.ins L i
        have hsb := sizeB_le f.ins[i] false
        have hpl : ∀ k, intsL (plcs f.ins L k) = .lst 1 ((plcs f.ins L k).map fun (n : Nat) => [.int .i64 (n : Int)]) := fun _ => rfl
        have hbl : boolL L = .lst 1 (L.map fun b => [.bool b]) := rfl
        generalize hp : plc f.ins L f.ins[i].n.toNat = p at hp1 hle2
        generalize hq : plc f.ins L i = q at hp2 hle1
        have htm : (p : Int).tmod 256 = (p : Int) % 256 := by rw [show (p : Int).tmod 256 = ((p % 256 : Nat) : Int) from rfl]; omega
        have htd : IntKind.i64.wrap ((p : Int) / 256) = (p : Int) / 256 := i64_small (by omega) (by omega)
        have hwd1 : IntKind.i64.wrap ((p : Int) - (q : Int)) = (p : Int) - (q : Int) := i64_small (by omega) (by omega)
        have hwd2 : IntKind.i64.wrap ((p : Int) - (q : Int) - (sizeB f.ins[i] false : Int)) = (p : Int) - (q : Int) - (sizeB f.ins[i] false : Int) := i64_small (by omega) (by omega)
        have hwd3 : IntKind.i64.wrap ((p : Int) - (q : Int) - (sizeB f.ins[i] false : Int) + 256) = (p : Int) - (q : Int) - (sizeB f.ins[i] false : Int) + 256 := i64_small (by omega) (by omega)
        have w128 : IntKind.i64.wrap 128 = 128 := rfl
        have w148 : IntKind.i64.wrap 148 = 148 := rfl
        have w149 : IntKind.i64.wrap 149 = 149 := rfl
        have w0 : IntKind.i64.wrap 0 = 0 := rfl
        have w20 : IntKind.i64.wrap 20 = 20 := rfl
        have w21 : IntKind.i64.wrap 21 = 21 := rfl
        simp -implicitDefEqProofs [hj]
        simp -implicitDefEqProofs [Mins.cs, hpl, hp1]
        refine ⟨by omega, ?_⟩
        simp -implicitDefEqProofs [Mins.cs, hbl, hg2]
        refine (s_l5Truth G _).use ?_
        have hc2 : f.ins[i].op = 20 ∨ f.ins[i].op = 21 := by simpa [jmp] using hj
        cases hLi : L[i] with
        | true =>
          have he : encI f.ins L i = [u8 (f.ins[i].op + 128)] ++ (if f.ins[i].op = 21 then [u8 f.ins[i].a] else []) ++ [u8 (p % 256 : Nat), u8 (p / 256 : Nat)] := by simp [encI, hg1, hg2, hj, hLi, hp]
          rcases hc2 with e | e
          · simp -implicitDefEqProofs [Mins.cs, hbl, hg2, hLi, e, w128, w148, hbo, htk, htm, htd]
            refine ⟨by omega, by omega, i + 1, h1, by omega, wkt_pick [0, 6] rfl (by simp) (hw_row rfl (by simp) (hw_row (by simp [List.take_of_length_le, henc, he, e, u8, htm, htd]) (by simp) hw_nil)) ?_⟩
            simp [below, ren, w1 (i := i) (by omega), henc, he, e]
          · simp -implicitDefEqProofs [Mins.cs, hbl, hg2, hLi, e, w128, w149, hbo, htk, htm, htd]
            refine ⟨by omega, by omega, by omega, i + 1, h1, by omega, wkt_pick [0, 8] rfl (by simp) (hw_row rfl (by simp) (hw_row (by simp [List.take_of_length_le, henc, he, e, u8, htm, htd]) (by simp) hw_nil)) ?_⟩
            simp [below, ren, w1 (i := i) (by omega), henc, he, e]
        | false =>
          have he : encI f.ins L i = [u8 f.ins[i].op] ++ (if f.ins[i].op = 21 then [u8 f.ins[i].a] else []) ++ [u8 ((p : Int) - q - sizeB f.ins[i] false)] := by simp [encI, hg1, hg2, hj, hLi, hp, hq]
          rcases hc2 with e | e
          · simp -implicitDefEqProofs [Mins.cs, hbl, hg2, hLi, e, w0, w20, hbo, htk]
            refine ⟨by omega, ?_⟩
            simp -implicitDefEqProofs [hp2, hwd1]
            have hs25 := s_l25Size G f.ins[i] false q1 q2
            rw [Mins.cs, e] at hs25
            refine hs25.use ?_
            simp -implicitDefEqProofs [hp2, hwd1, hwd2, hwd3, u8_256, Mins.cs, hbo, htk]
            refine ⟨by omega, i + 1, h1, by omega, wkt_pick [0, 6] rfl (by simp) (hw_row rfl (by simp) (hw_row (by simp [List.take_of_length_le, henc, he, e, u8]) (by simp) hw_nil)) ?_⟩
            simp [below, ren, w1 (i := i) (by omega), henc, he, e]
          · simp -implicitDefEqProofs [Mins.cs, hbl, hg2, hLi, e, w0, w21, hbo, htk]
            refine ⟨by omega, by omega, ?_⟩
            simp -implicitDefEqProofs [hp2, hwd1]
            have hs25 := s_l25Size G f.ins[i] false q1 q2
            rw [Mins.cs, e] at hs25
            refine hs25.use ?_
            simp -implicitDefEqProofs [hp2, hwd1, hwd2, hwd3, u8_256, Mins.cs, hbo, htk]
            refine ⟨by omega, i + 1, h1, by omega, wkt_pick [0, 8] rfl (by simp) (hw_row rfl (by simp) (hw_row (by simp [List.take_of_length_le, henc, he, e, u8]) (by simp) hw_nil)) ?_⟩
            simp [below, ren, w1 (i := i) (by omega), henc, he, e]
    · simp at h1
      have hie : i = f.ins.length := by omega
      subst hie
      simp -implicitDefEqProofs
theorem s_EncodeFn (f : Mfn) (hn : f.ins.length ≤ 1000000) : VF Tryd.prog G n_spec_EncodeFn [.agg (f.cs.map .p)] (.tup [.p (bysL (if codeOk f then encB f else [])), .p (.bool (codeOk f))]) := by
  refine (k_sEncodeFn G f hn).freezeR (fun t v h ⟨id, e, _⟩ => by cases e) fun v h ⟨id, e1, e2⟩ => ?_
  cases e1
  exact .tup (.one (bysO_view e2) (.keep (by simp) .nil)) .nil
theorem o_sEncodeFn (f : Mfn) (hn : f.ins.length ≤ 1000000) : AC Tryd.prog G n_spec_EncodeFn [.agg (f.cs.map .p)] [] fun x h => x = .ret (.tup [.sl 0 1 0 (if codeOk f then encB f else []).length, .p (.bool (codeOk f))]) ∧ h = [bysO (if codeOk f then encB f else [])] := by
  refine (k_sEncodeFn G f hn).gc (fun t v h ⟨id, e, _⟩ => by cases e) fun v h ⟨id, e1, e2⟩ => ?_
  cases e1
  generalize (if codeOk f then encB f else []) = l at e2 ⊢
  exact ⟨.tup [.sl 0 1 0 l.length, .p (.bool (codeOk f))], [bysO l], ⟨[id], by simp, by simp, by simp, by simp [below], by simp [ren, renL], hw_row e2 (by simp) hw_nil⟩, rfl, rfl⟩
end Go.Proofs.YtbbobekgnclkfaaDoor
namespace Go.Proofs.YtbbobekgnclkfaaDoor
open Go Go.Aw
set_option maxRecDepth 100000
set_option maxHeartbeats 4000000
theorem encB_len (f : Mfn) : (encB f).length ≤ 4 * f.ins.length := encT_len _ _ _
variable (G : Glob)
end Go.Proofs.YtbbobekgnclkfaaDoor
namespace Go.Proofs.YtbbobekgnclkfaaDoor
open Go Go.Aw
set_option maxRecDepth 100000
set_option maxHeartbeats 4000000
def byAt (code : List Int) (i : Nat) : Int := code.getD i 0
def BytesOk (code : List Int) : Prop := ∀ n ∈ code, 0 ≤ n ∧ n ≤ 255
theorem byAt_get {code : List Int} {i : Nat} (h : i < code.length) : code[i]? = some (byAt code i) := by
  rw [byAt, List.getD_eq_getElem?_getD, List.getElem?_eq_getElem h]; rfl
theorem byAt_ok {code : List Int} (hb : BytesOk code) (i : Nat) : 0 ≤ byAt code i ∧ byAt code i ≤ 255 := by
  rcases Nat.lt_or_ge i code.length with h | h
  · exact hb _ (List.mem_of_getElem? (byAt_get h))
  · rw [byAt, List.getD_eq_getElem?_getD, List.getElem?_eq_none h]; simp
def s8 (n : Int) : Int := if 127 < n then n - 256 else n
def bare (op : Int) : Mins := ⟨op, 0, 0, 0, 0⟩
def jmpO (op : Int) : Bool := op == 20 || op == 21
def decX (code : List Int) (at' : Nat) (op : Int) (long : Bool) : Mins :=
  let n := sizeB (bare op) long
  let b1 := byAt code (at' + 1)
  let b2 := byAt code (at' + 2)
  if jmpO op then ⟨op, if op = 21 then b1 else 0, 0, 0, if long then byAt code (at' + n - 2) + 256 * byAt code (at' + n - 1) else (at' + n : Nat) + s8 (byAt code (at' + n - 1))⟩
  else if op == 1 || inR op 15 18 then ⟨op, b1, 0, 0, b2⟩
  else if inR op 3 9 then ⟨op, b1 % 8, b1 / 8, b2, 0⟩
  else if op == 2 || inR op 10 12 then ⟨op, b1 % 8, b1 / 8, 0, 0⟩
  else if op == 14 then ⟨op, 0, 0, 0, b1⟩ else ⟨op, b1, 0, 0, 0⟩
def opAt (code : List Int) (i : Nat) : Int := byAt code i % 128
def longAt (code : List Int) (i : Nat) : Bool := decide (128 ≤ byAt code i)
/-- What is read at a byte: the instruction and its size. -/
def decOk1 (code : List Int) (i : Nat) : Bool := inR (opAt code i) 1 22 && (!longAt code i || jmpO (opAt code i))
def decSz (code : List Int) (i : Nat) : Nat := sizeB (bare (opAt code i)) (longAt code i)
def decGood (code : List Int) (i : Nat) : Bool := decOk1 code i && decide (i + decSz code i ≤ code.length)
def decI (code : List Int) (i : Nat) : Mins := decX code i (opAt code i) (longAt code i)
theorem decSz_two (code : List Int) (i : Nat) : 2 ≤ decSz code i ∧ decSz code i ≤ 4 := by
  unfold decSz sizeB
  split
  · split <;> split <;> omega
  · rcases plainB_len (bare (opAt code i)) with h | h <;> omega
theorem i64_nat {x : Int} {n : Nat} (h : x = n) (hn : n ≤ 9223372036854775807) : IntKind.i64.wrap x = n := by rw [i64_small (by omega) (by omega), h]
variable (G : Glob)
end Go.Proofs.YtbbobekgnclkfaaDoor
namespace Go.Proofs.YtbbobekgnclkfaaDoor
open Go Go.Aw
set_option maxRecDepth 100000
set_option maxHeartbeats 4000000
variable (G : Glob)
def shpT : List Int := [2, 0, 1, 2, 2, 2, 2, 2, 2, 2, 1, 1, 1, 3, 4, 0, 0, 0, 0, 3, 5, 5, 3]
theorem i_shapeOf (op : Int) (h : inR op 1 22 = true) : VF Tryd.prog G n_impl_shapeOf [.p (.int .i64 op)] (.p (.int .i64 (shpT.getD op.toNat 2))) := by
  refine AC.go k_impl_shapeOf ?_
  rcases op22 h with rfl | rfl | rfl | rfl | rfl | rfl | rfl | rfl | rfl | rfl | rfl | rfl | rfl | rfl | rfl | rfl | rfl | rfl | rfl | rfl | rfl | rfl <;> simp -implicitDefEqProofs [F_impl_shapeOf, shpT]
theorem o_encoded (x : Mins) (hop : inR x.op 1 22 = true) (hj : jmp x = false) (ha : inR x.a 0 7 = true) (hb : inR x.b 0 7 = true) :
    AC Tryd.prog G n_impl_encoded [.agg (x.cs.map .p)] [] fun r h => r = .ret (.sl 0 1 0 (plainB x).length) ∧ h = [bysO (plainB x)] := by
  have key : AC Tryd.prog G n_impl_encoded [.agg (x.cs.map .p)] [] fun r h => r = .ret (.sl 1 1 0 (plainB x).length) ∧ ∃ o, h = [o, bysO (plainB x)] := by
    refine AC.go k_impl_encoded ?_
    simp -implicitDefEqProofs [F_impl_encoded]
    simp -implicitDefEqProofs [Mins.cs]
    refine (i_shapeOf G x.op hop).use ?_
    simp [inR] at ha hb
    have hw : IntKind.u8.wrap (IntKind.u8.wrap x.a + IntKind.u8.wrap (8 * IntKind.u8.wrap x.b)) = IntKind.u8.wrap (x.a + 8 * x.b) := by
      simp [IntKind.wrap, IntKind.bits, IntKind.signed]
      omega
    obtain ⟨op, a, b, c, n⟩ := x
    simp only at hop hj ha hb hw ⊢
    rcases op22 hop with rfl | rfl | rfl | rfl | rfl | rfl | rfl | rfl | rfl | rfl | rfl | rfl | rfl | rfl | rfl | rfl | rfl | rfl | rfl | rfl | rfl | rfl
    all_goals first
      | (simp [jmp] at hj; done)
      | simp -implicitDefEqProofs [shpT, plainB, bysO, u8, inR, hw]
  refine key.gc (fun t v h ⟨e, _⟩ => by cases e) fun v h ⟨e1, o, e2⟩ => ?_
  cases e1; subst e2
  exact ⟨.sl 0 1 0 (plainB x).length, [bysO (plainB x)], ⟨[1], by simp, by simp, by simp, by simp [below], by simp [ren], hw_row rfl (by simp) hw_nil⟩, rfl, rfl⟩
theorem i_encoded (x : Mins) (hop : inR x.op 1 22 = true) (hj : jmp x = false) (ha : inR x.a 0 7 = true) (hb : inR x.b 0 7 = true) : VF Tryd.prog G n_impl_encoded [.agg (x.cs.map .p)] (.p (bysL (plainB x))) :=
  AC.freeze (o_encoded G x hop hj ha hb) (.one (bysO_view rfl) .nil)
def szl (ins : List Mins) (L : List Bool) (k : Nat) : List Nat := (List.zipWith sizeB ins L).take k
theorem szl_get {ins : List Mins} {L : List Bool} {k i : Nat} (hk : i < k) (h1 : i < ins.length) (h2 : i < L.length) : (szl ins L k)[i]? = some (sizeB ins[i] L[i]) := by
  rw [szl, List.getElem?_take, if_pos hk, List.getElem?_zipWith, List.getElem?_eq_getElem h1, List.getElem?_eq_getElem h2]
theorem szl_succ {ins : List Mins} {L : List Bool} {k : Nat} (h1 : k < ins.length) (h2 : k < L.length) : szl ins L (k + 1) = szl ins L k ++ [sizeB ins[k] L[k]] := by
  have h : k < (List.zipWith sizeB ins L).length := by simp; omega
  rw [szl, take_succ' h]; simp [szl]
theorem szl_len {ins : List Mins} {L : List Bool} {k : Nat} (h1 : k ≤ ins.length) (h2 : k ≤ L.length) : (szl ins L k).length = k := by simp [szl]; omega
/-- The cells of a layout. -/
def layC (f : Mfn) (lv v1 v2 : AV) (sz : Int) : List AV := [.p (.int .i64 f.params), .p (.int .i64 f.slots), .p (insL f.ins), lv, v1, v2, .p (.int .i64 sz)]
theorem i_offset {h : List AO} {id sid pid : Nat} {f : Mfn} {lv : AV} {sz : Int} {L : List Bool} {i : Nat} (hl : L.length = f.ins.length) (hf : InsFine f.ins) (h1 : i < f.ins.length) (hj : jmp f.ins[i] = true)
    (e0 : h[id]? = some (.row 7 [layC f lv (.sl sid 1 0 f.ins.length) (.sl pid 1 0 f.ins.length) sz])) (e1 : h[sid]? = some (intsO (szl f.ins L f.ins.length))) (e2 : h[pid]? = some (intsO (plcs f.ins L f.ins.length))) :
    AC Tryd.prog G n_impl_layout_offset [.ptr id 7 0 0, .p (.int .i64 i)] h fun r h' => r = .ret (.p (.int .i64 ((plc f.ins L f.ins[i].n.toNat : Int) - plc f.ins L i - sizeB f.ins[i] (L[i]'(by omega))))) ∧ h' = h := by
  refine AC.go k_impl_layout_offset ?_
  obtain ⟨hn, hfi⟩ := hf
  obtain ⟨q1, q2, q3, q4⟩ := hfi _ (List.getElem_mem h1)
  have q5 := q4 hj
  simp [inR] at q5
  have hnl : f.ins[i].n.toNat < f.ins.length := by omega
  have hp1 := plcs_get (ins := f.ins) (L := L) hnl
  have hp2 := plcs_get (ins := f.ins) (L := L) h1
  have hs1 := szl_get (ins := f.ins) (L := L) h1 h1 (by omega)
  have hle1 := plc_le (ins := f.ins) (L := L) hl (i := i)
  have hle2 := plc_le (ins := f.ins) (L := L) hl (i := f.ins[i].n.toNat)
  have hsb := sizeB_le f.ins[i] (L[i]'(by omega))
  have hg1 := List.getElem?_eq_getElem h1
  have hi : ∀ l, intsO l = .row 1 (l.map fun (n : Nat) => [.p (.int .i64 (n : Int))]) := fun _ => rfl
  have hin : insL f.ins = .lst 5 (f.ins.map Mins.cs) := rfl
  rw [hi] at e1 e2
  have hwd1 : IntKind.i64.wrap ((plc f.ins L f.ins[i].n.toNat : Int) - (plc f.ins L i : Int)) = (plc f.ins L f.ins[i].n.toNat : Int) - (plc f.ins L i : Int) := i64_small (by omega) (by omega)
  have hwd2 : IntKind.i64.wrap ((plc f.ins L f.ins[i].n.toNat : Int) - (plc f.ins L i : Int) - (sizeB f.ins[i] (L[i]'(by omega)) : Int)) = (plc f.ins L f.ins[i].n.toNat : Int) - (plc f.ins L i : Int) - (sizeB f.ins[i] (L[i]'(by omega)) : Int) := i64_small (by omega) (by omega)
  simp -implicitDefEqProofs [F_impl_layout_offset, e0, layC, hin, hg1]
  simp -implicitDefEqProofs [Mins.cs, hp1, e1, e2, hp2, hs1, h1]
  refine ⟨by omega, ?_⟩
  simp -implicitDefEqProofs [e0, layC, hp1, e1, e2, hp2, hs1, h1, hwd1, hwd2]
theorem o_settle (f : Mfn) (L : List Bool) (hl : L.length = f.ins.length) (hf : InsFine f.ins) (hpos : 0 < f.ins.length) (v1 v2 : AV) (sz : Int) (o3 o4 : AO) (ho3 : okO 0 o3) (ho4 : okO 0 o4) :
    AC Tryd.prog G n_impl_layout_settle [.ptr 2 7 0 0] [.row 3 [f.cs.map .p], boolO L, .row 7 [layC f (.sl 1 1 0 f.ins.length) v1 v2 sz], o3, o4]
      fun r h' => r = .ret (.tup []) ∧ h' = [.row 3 [f.cs.map .p], boolO L, .row 7 [layC f (.sl 1 1 0 f.ins.length) (.sl 5 1 0 f.ins.length) (.sl 6 1 0 f.ins.length) (plc f.ins L f.ins.length)], o3, o4, intsO (szl f.ins L f.ins.length), intsO (plcs f.ins L f.ins.length)] := by
  obtain ⟨hn, hfi⟩ := hf
  refine AC.go k_impl_layout_settle ?_
  have hin : insL f.ins = .lst 5 (f.ins.map Mins.cs) := rfl
  simp -implicitDefEqProofs [F_impl_layout_settle, layC]
  simp -implicitDefEqProofs [hin]
  refine loopA (fun i : Nat => tsOf 78 [(0, .ptr 2 7 0 0), (18, .p (insL f.ins)), (19, .p (.int .i64 f.ins.length)), (20, .p (.int .i64 i))])
    (fun i => if i = 0 then [.row 3 [f.cs.map .p], boolO L, .row 7 [layC f (.sl 1 1 0 f.ins.length) .nils .nils 0], o3, o4]
      else [.row 3 [f.cs.map .p], boolO L, .row 7 [layC f (.sl 1 1 0 f.ins.length) (.sl 5 1 0 i) (.sl 6 1 0 i) (plc f.ins L i)], o3, o4, intsO (szl f.ins L i), intsO (plcs f.ins L i)])
    (fun i => i ≤ f.ins.length) (fun i => f.ins.length - i) 0 (by simp) ?_ ?_
  · refine wkt_ren [0, 1, 2, 3, 4] (by simp) (by decide) (by decide) (hw_row rfl (by simp) (hw_ok rfl (by simp [-Bool.exists_bool, -Bool.forall_bool, okO, boolO]) (hw_rowr (by simp [layC, below]) (by simp [layC, ren, renL]; exact hin.symm) (hw_ok rfl ho3 (hw_ok rfl ho4 hw_nil))))) ?_
    simp [below, ren]
    exact hin.symm
  · intro i hi
    simp -implicitDefEqProofs []
    refine cndb (fun h1 => ?_) (fun h1 => ?_)
    · simp at h1
      have h2 : i < L.length := by omega
      obtain ⟨q1, q2, q3, q4⟩ := hfi _ (List.getElem_mem h1)
      have hg1 := List.getElem?_eq_getElem h1
      have hg2 := List.getElem?_eq_getElem h2
      have hbo : boolO L = .row 1 (L.map fun b => [.p (.bool b)]) := rfl
      have hle := plc_le (ins := f.ins) (L := L) hl (i := i)
      have hle2 := plc_le (ins := f.ins) (L := L) hl (i := i + 1)
      have hps := plc_succ h1 h2
      have hss := szl_succ h1 h2
      have hqs := plcs_succ f.ins L i
      have hsl := szl_len (ins := f.ins) (L := L) (k := i) (by omega) (by omega)
      have hql := plcs_len f.ins L i
      have hii : ∀ l, intsO l = .row 1 (l.map fun (n : Nat) => [.p (.int .i64 (n : Int))]) := fun _ => rfl
      have hbl : ∀ l, bysL l = .lst 1 (l.map fun n => [.int .u8 n]) := fun _ => rfl
      have hw : IntKind.i64.wrap ((plc f.ins L i : Int) + (sizeB f.ins[i] L[i] : Int)) = ((plc f.ins L (i + 1) : Nat) : Int) := by rw [i64_small (by omega) (by omega), hps]; omega
      have w2 : IntKind.i64.wrap 2 = 2 := rfl
      have w3 : IntKind.i64.wrap 3 = 3 := rfl
      have w4 : IntKind.i64.wrap 4 = 4 := rfl
      rcases Nat.eq_zero_or_pos i with hi0 | hi0
      · have hz : (i = 0) = True := by simp [hi0]
        have hs0 : szl f.ins L i = [] := by rw [hi0]; simp [szl]
        have hq0 : plcs f.ins L i = [] := by rw [hi0]; simp [plcs]
        have hp0 : plc f.ins L i = 0 := by rw [hi0]; exact plc_zero _ _
        by_cases hj : jmp f.ins[i] = true
        rotate_left
        · have hsz : sizeB f.ins[i] L[i] = (plainB f.ins[i]).length := by simp [sizeB, hj]
          have hjo : (f.ins[i].op == 20 || f.ins[i].op == 21) = false := by simpa [jmp] using hj
          have hpl := plainB_len f.ins[i]
          have hwv : IntKind.i64.wrap (((plainB f.ins[i]).length : Int)) = ((plc f.ins L (i + 1) : Nat) : Int) := by rw [i64_small (by omega) (by omega), hps, hp0, hsz]; omega
          simp -implicitDefEqProofs [hz, hin, hg1]
          simp -implicitDefEqProofs [Mins.cs]
          refine (i_jumpOp G _).use ?_
          simp -implicitDefEqProofs [hjo]
          refine (i_encoded G f.ins[i] q3 (by simpa using hj) q1 q2).use ?_
          simp -implicitDefEqProofs [hbl, layC, hii, hsl, hql, hwv, hz]
          refine ⟨i + 1, h1, by omega, ?_⟩
          rw [if_neg (by omega)]
          refine wkt_ren [0, 1, 2, 3, 4, 6, 7] (by simp) (by decide) (by decide) (hw_row rfl (by simp) (hw_ok rfl (by simp [-Bool.exists_bool, -Bool.forall_bool, okO, boolO]) (hw_rowr (by simp [layC, below]) (by simp [layC, ren, renL]; exact hi0) (hw_ok rfl ho3 (hw_ok rfl ho4 (hw_row (by simp [hs0, hq0, hp0, hss, hsz, List.take_of_length_le, hsl]) (by simp) (hw_row (by simp [hs0, hq0, hp0, hqs, List.take_of_length_le, hql]) (by simp) hw_nil))))))) ?_
          simp [below, ren, w1 (i := i) (by omega)]
        · have hc2 : f.ins[i].op = 20 ∨ f.ins[i].op = 21 := by simpa [jmp] using hj
          cases hLi : L[i] with
          | true =>
            rcases hc2 with e | e
            · have hsz : sizeB f.ins[i] L[i] = 3 := by simp [sizeB, hj, hLi, e]
              have hpv : plc f.ins L (i + 1) = 3 := by rw [hps, hp0, hsz]
              simp -implicitDefEqProofs [hz, hin, hg1]
              simp -implicitDefEqProofs [Mins.cs]
              refine (i_jumpOp G _).use ?_
              simp -implicitDefEqProofs [e, layC, hbo, h1, hg2, hLi, hii, hsl, hql, w2, w3, w4, hz, hl]
              refine ⟨i + 1, h1, by omega, ?_⟩
              rw [if_neg (by omega)]
              refine wkt_ren [0, 1, 2, 3, 4, 6, 7] (by simp) (by decide) (by decide) (hw_row rfl (by simp) (hw_ok rfl (by simp [-Bool.exists_bool, -Bool.forall_bool, okO, boolO]) (hw_rowr (by simp [layC, below]) (by simp [layC, ren, renL, hpv]; exact hi0) (hw_ok rfl ho3 (hw_ok rfl ho4 (hw_row (by simp [hs0, hq0, hp0, hss, hsz, List.take_of_length_le, hsl]) (by simp) (hw_row (by simp [hs0, hq0, hp0, hqs, List.take_of_length_le, hql]) (by simp) hw_nil))))))) ?_
              simp [below, ren, w1 (i := i) (by omega)]
            · have hsz : sizeB f.ins[i] L[i] = 4 := by simp [sizeB, hj, hLi, e]
              have hpv : plc f.ins L (i + 1) = 4 := by rw [hps, hp0, hsz]
              simp -implicitDefEqProofs [hz, hin, hg1]
              simp -implicitDefEqProofs [Mins.cs]
              refine (i_jumpOp G _).use ?_
              simp -implicitDefEqProofs [e, layC, hbo, h1, hg2, hLi, hii, hsl, hql, w2, w3, w4, hz, hl]
              refine ⟨i + 1, h1, by omega, ?_⟩
              rw [if_neg (by omega)]
              refine wkt_ren [0, 1, 2, 3, 4, 6, 7] (by simp) (by decide) (by decide) (hw_row rfl (by simp) (hw_ok rfl (by simp [-Bool.exists_bool, -Bool.forall_bool, okO, boolO]) (hw_rowr (by simp [layC, below]) (by simp [layC, ren, renL, hpv]; exact hi0) (hw_ok rfl ho3 (hw_ok rfl ho4 (hw_row (by simp [hs0, hq0, hp0, hss, hsz, List.take_of_length_le, hsl]) (by simp) (hw_row (by simp [hs0, hq0, hp0, hqs, List.take_of_length_le, hql]) (by simp) hw_nil))))))) ?_
              simp [below, ren, w1 (i := i) (by omega)]
          | false =>
            rcases hc2 with e | e
            · have hsz : sizeB f.ins[i] L[i] = 2 := by simp [sizeB, hj, hLi, e]
              have hpv : plc f.ins L (i + 1) = 2 := by rw [hps, hp0, hsz]
              simp -implicitDefEqProofs [hz, hin, hg1]
              simp -implicitDefEqProofs [Mins.cs]
              refine (i_jumpOp G _).use ?_
              simp -implicitDefEqProofs [e, layC, hbo, h1, hg2, hLi, hii, hsl, hql, w2, w3, w4, hz, hl]
              refine ⟨i + 1, h1, by omega, ?_⟩
              rw [if_neg (by omega)]
              refine wkt_ren [0, 1, 2, 3, 4, 6, 7] (by simp) (by decide) (by decide) (hw_row rfl (by simp) (hw_ok rfl (by simp [-Bool.exists_bool, -Bool.forall_bool, okO, boolO]) (hw_rowr (by simp [layC, below]) (by simp [layC, ren, renL, hpv]; exact hi0) (hw_ok rfl ho3 (hw_ok rfl ho4 (hw_row (by simp [hs0, hq0, hp0, hss, hsz, List.take_of_length_le, hsl]) (by simp) (hw_row (by simp [hs0, hq0, hp0, hqs, List.take_of_length_le, hql]) (by simp) hw_nil))))))) ?_
              simp [below, ren, w1 (i := i) (by omega)]
            · have hsz : sizeB f.ins[i] L[i] = 3 := by simp [sizeB, hj, hLi, e]
              have hpv : plc f.ins L (i + 1) = 3 := by rw [hps, hp0, hsz]
              simp -implicitDefEqProofs [hz, hin, hg1]
              simp -implicitDefEqProofs [Mins.cs]
              refine (i_jumpOp G _).use ?_
              simp -implicitDefEqProofs [e, layC, hbo, h1, hg2, hLi, hii, hsl, hql, w2, w3, w4, hz, hl]
              refine ⟨i + 1, h1, by omega, ?_⟩
              rw [if_neg (by omega)]
              refine wkt_ren [0, 1, 2, 3, 4, 6, 7] (by simp) (by decide) (by decide) (hw_row rfl (by simp) (hw_ok rfl (by simp [-Bool.exists_bool, -Bool.forall_bool, okO, boolO]) (hw_rowr (by simp [layC, below]) (by simp [layC, ren, renL, hpv]; exact hi0) (hw_ok rfl ho3 (hw_ok rfl ho4 (hw_row (by simp [hs0, hq0, hp0, hss, hsz, List.take_of_length_le, hsl]) (by simp) (hw_row (by simp [hs0, hq0, hp0, hqs, List.take_of_length_le, hql]) (by simp) hw_nil))))))) ?_
              simp [below, ren, w1 (i := i) (by omega)]
      · have hi1 : ¬ i = 0 := by omega
        by_cases hj : jmp f.ins[i] = true
        rotate_left
        · have hsz : sizeB f.ins[i] L[i] = (plainB f.ins[i]).length := by simp [sizeB, hj]
          have hjo : (f.ins[i].op == 20 || f.ins[i].op == 21) = false := by simpa [jmp] using hj
          have hpl := plainB_len f.ins[i]
          have hwv : IntKind.i64.wrap ((plc f.ins L i : Int) + ((plainB f.ins[i]).length : Int)) = ((plc f.ins L (i + 1) : Nat) : Int) := by rw [i64_small (by omega) (by omega), hps, hsz]; omega
          simp -implicitDefEqProofs [hi1, hin, hg1]
          simp -implicitDefEqProofs [Mins.cs]
          refine (i_jumpOp G _).use ?_
          simp -implicitDefEqProofs [hjo]
          refine (i_encoded G f.ins[i] q3 (by simpa using hj) q1 q2).use ?_
          simp -implicitDefEqProofs [hbl, layC, hii, hsl, hql, hwv, hi1]
          refine ⟨⟨by omega, by omega⟩, i + 1, h1, by omega, ?_⟩
          rw [if_neg (by omega)]
          refine wkt_ren [0, 1, 2, 3, 4, 8, 9] (by simp) (by decide) (by decide) (hw_row rfl (by simp) (hw_ok rfl (by simp [-Bool.exists_bool, -Bool.forall_bool, okO, boolO]) (hw_rowr (by simp [layC, below]) (by simp [layC, ren, renL]) (hw_ok rfl ho3 (hw_ok rfl ho4 (hw_row (by simp [hss, hsz, List.take_of_length_le, hsl]) (by simp) (hw_row (by simp [hqs, List.take_of_length_le, hql]) (by simp) hw_nil))))))) ?_
          simp [below, ren, w1 (i := i) (by omega)]
        · have hc2 : f.ins[i].op = 20 ∨ f.ins[i].op = 21 := by simpa [jmp] using hj
          cases hLi : L[i] with
          | true =>
            rcases hc2 with e | e
            · have hsz : sizeB f.ins[i] L[i] = 3 := by simp [sizeB, hj, hLi, e]
              have hwv : IntKind.i64.wrap ((plc f.ins L i : Int) + 3) = ((plc f.ins L (i + 1) : Nat) : Int) := by rw [i64_small (by omega) (by omega), hps, hsz]; omega
              simp -implicitDefEqProofs [hi1, hin, hg1]
              simp -implicitDefEqProofs [Mins.cs]
              refine (i_jumpOp G _).use ?_
              simp -implicitDefEqProofs [e, layC, hbo, h1, hg2, hLi, hii, hsl, hql, hwv, w3, w4, hi1, hl]
              refine ⟨⟨by omega, by omega⟩, i + 1, h1, by omega, ?_⟩
              rw [if_neg (by omega)]
              refine wkt_ren [0, 1, 2, 3, 4, 8, 9] (by simp) (by decide) (by decide) (hw_row rfl (by simp) (hw_ok rfl (by simp [-Bool.exists_bool, -Bool.forall_bool, okO, boolO]) (hw_rowr (by simp [layC, below]) (by simp [layC, ren, renL]) (hw_ok rfl ho3 (hw_ok rfl ho4 (hw_row (by simp [hss, hsz, List.take_of_length_le, hsl]) (by simp) (hw_row (by simp [hqs, List.take_of_length_le, hql]) (by simp) hw_nil))))))) ?_
              simp [below, ren, w1 (i := i) (by omega)]
            · have hsz : sizeB f.ins[i] L[i] = 4 := by simp [sizeB, hj, hLi, e]
              have hwv : IntKind.i64.wrap ((plc f.ins L i : Int) + 4) = ((plc f.ins L (i + 1) : Nat) : Int) := by rw [i64_small (by omega) (by omega), hps, hsz]; omega
              simp -implicitDefEqProofs [hi1, hin, hg1]
              simp -implicitDefEqProofs [Mins.cs]
              refine (i_jumpOp G _).use ?_
              simp -implicitDefEqProofs [e, layC, hbo, h1, hg2, hLi, hii, hsl, hql, hwv, w3, w4, hi1, hl]
              refine ⟨⟨by omega, by omega⟩, i + 1, h1, by omega, ?_⟩
              rw [if_neg (by omega)]
              refine wkt_ren [0, 1, 2, 3, 4, 8, 9] (by simp) (by decide) (by decide) (hw_row rfl (by simp) (hw_ok rfl (by simp [-Bool.exists_bool, -Bool.forall_bool, okO, boolO]) (hw_rowr (by simp [layC, below]) (by simp [layC, ren, renL]) (hw_ok rfl ho3 (hw_ok rfl ho4 (hw_row (by simp [hss, hsz, List.take_of_length_le, hsl]) (by simp) (hw_row (by simp [hqs, List.take_of_length_le, hql]) (by simp) hw_nil))))))) ?_
              simp [below, ren, w1 (i := i) (by omega)]
          | false =>
            rcases hc2 with e | e
            · have hsz : sizeB f.ins[i] L[i] = 2 := by simp [sizeB, hj, hLi, e]
              have hwv : IntKind.i64.wrap ((plc f.ins L i : Int) + 2) = ((plc f.ins L (i + 1) : Nat) : Int) := by rw [i64_small (by omega) (by omega), hps, hsz]; omega
              simp -implicitDefEqProofs [hi1, hin, hg1]
              simp -implicitDefEqProofs [Mins.cs]
              refine (i_jumpOp G _).use ?_
              simp -implicitDefEqProofs [e, layC, hbo, h1, hg2, hLi, hii, hsl, hql, hwv, w3, w4, hi1, hl]
              refine ⟨⟨by omega, by omega⟩, i + 1, h1, by omega, ?_⟩
              rw [if_neg (by omega)]
              refine wkt_ren [0, 1, 2, 3, 4, 8, 9] (by simp) (by decide) (by decide) (hw_row rfl (by simp) (hw_ok rfl (by simp [-Bool.exists_bool, -Bool.forall_bool, okO, boolO]) (hw_rowr (by simp [layC, below]) (by simp [layC, ren, renL]) (hw_ok rfl ho3 (hw_ok rfl ho4 (hw_row (by simp [hss, hsz, List.take_of_length_le, hsl]) (by simp) (hw_row (by simp [hqs, List.take_of_length_le, hql]) (by simp) hw_nil))))))) ?_
              simp [below, ren, w1 (i := i) (by omega)]
            · have hsz : sizeB f.ins[i] L[i] = 3 := by simp [sizeB, hj, hLi, e]
              have hwv : IntKind.i64.wrap ((plc f.ins L i : Int) + 3) = ((plc f.ins L (i + 1) : Nat) : Int) := by rw [i64_small (by omega) (by omega), hps, hsz]; omega
              simp -implicitDefEqProofs [hi1, hin, hg1]
              simp -implicitDefEqProofs [Mins.cs]
              refine (i_jumpOp G _).use ?_
              simp -implicitDefEqProofs [e, layC, hbo, h1, hg2, hLi, hii, hsl, hql, hwv, w3, w4, hi1, hl]
              refine ⟨⟨by omega, by omega⟩, i + 1, h1, by omega, ?_⟩
              rw [if_neg (by omega)]
              refine wkt_ren [0, 1, 2, 3, 4, 8, 9] (by simp) (by decide) (by decide) (hw_row rfl (by simp) (hw_ok rfl (by simp [-Bool.exists_bool, -Bool.forall_bool, okO, boolO]) (hw_rowr (by simp [layC, below]) (by simp [layC, ren, renL]) (hw_ok rfl ho3 (hw_ok rfl ho4 (hw_row (by simp [hss, hsz, List.take_of_length_le, hsl]) (by simp) (hw_row (by simp [hqs, List.take_of_length_le, hql]) (by simp) hw_nil))))))) ?_
              simp [below, ren, w1 (i := i) (by omega)]
    · simp at h1
      have hie : i = f.ins.length := by omega
      subst hie
      have hne : ¬ f.ins.length = 0 := by omega
      have hne' : ¬ f.ins = [] := fun e => by rw [e] at hpos; simp at hpos
      simp -implicitDefEqProofs [hne, hne', layC, hin]
end Go.Proofs.YtbbobekgnclkfaaDoor
namespace Go.Proofs.YtbbobekgnclkfaaDoor
open Go Go.Aw
set_option maxRecDepth 100000
set_option maxHeartbeats 4000000
def earStep (m : Nat) (x : Mins) : Nat := if x.op = 14 then max m ((if 4 < x.n then 4 else x.n) + 1).toNat else m
def earT (ins : List Mins) (i : Nat) : Nat := (ins.take i).foldl earStep 0
theorem earT_succ {ins : List Mins} {i : Nat} (h : i < ins.length) : earT ins (i + 1) = earStep (earT ins i) ins[i] := by rw [earT, take_succ' h, List.foldl_append]; rfl
theorem earT_le (ins : List Mins) : ∀ i, earT ins i ≤ 5 := by
  have key : ∀ (l : List Mins) (m : Nat), m ≤ 5 → l.foldl earStep m ≤ 5 := by
    intro l
    induction l with
    | nil => intro m h; exact h
    | cons x r ih =>
      intro m h
      refine ih _ ?_
      unfold earStep
      by_cases h14 : x.op = 14
      · rw [if_pos h14]
        by_cases h4 : 4 < x.n
        · rw [if_pos h4]; omega
        · rw [if_neg h4]; omega
      · rw [if_neg h14]; exact h
  exact fun i => key _ _ (by omega)
/-- Both counts of earlier functions tell the same. -/
theorem alone_eq (f : Mfn) : machOk (aloneF (earT f.ins f.ins.length) f) = machOk (aloneF (mostS f.ins) f) := by
  have he : earT f.ins f.ins.length = f.ins.foldl earStep 0 := by rw [earT, List.take_of_length_le (Nat.le_refl _)]
  rw [he]
  by_cases h : ∀ x ∈ f.ins, x.op = 14 → x.n < 4
  · have key : ∀ (l : List Mins) (m : Nat), (∀ x ∈ l, x.op = 14 → x.n < 4) → l.foldl earStep m = l.foldl mostStep m := by
      intro l
      induction l with
      | nil => intro m _; rfl
      | cons x r ih =>
        intro m hl
        have h1 := hl x (by simp)
        have e : earStep m x = mostStep m x := by
          unfold earStep mostStep
          by_cases h14 : x.op = 14
          · have h2 := h1 h14
            rw [if_pos h14, if_neg (by omega)]
            by_cases hm : (m : Int) ≤ x.n
            · rw [if_pos ⟨h14, hm, h2⟩]; omega
            · rw [if_neg (by omega)]; omega
          · rw [if_neg h14, if_neg (by simp [h14])]
        rw [List.foldl_cons, List.foldl_cons, e]
        exact ih _ fun x hx => hl x (by simp [hx])
    rw [key _ _ h]; rfl
  · have h' : ∃ x ∈ f.ins, x.op = 14 ∧ 4 ≤ x.n := by
      refine Classical.byContradiction fun hn => h fun x hx h14 => ?_
      refine Classical.byContradiction fun hlt => hn ⟨x, hx, h14, by omega⟩
    obtain ⟨x, hx, h14, hx4⟩ := h'
    have e1 : machOk (aloneF (f.ins.foldl earStep 0) f) = false := by
      have mono : ∀ (l : List Mins) (m : Nat), m ≤ l.foldl earStep m := by
        intro l
        induction l with
        | nil => intro m; exact Nat.le_refl _
        | cons y r ih => intro m; exact Nat.le_trans (by unfold earStep; split; exact Nat.le_max_left _ _; exact Nat.le_refl _) (ih _)
      have big : ∀ (l : List Mins) (m : Nat), x ∈ l → 5 ≤ l.foldl earStep m := by
        intro l
        induction l with
        | nil => intro m h; simp at h
        | cons y r ih =>
          intro m h
          rcases List.mem_cons.1 h with rfl | h
          · refine Nat.le_trans ?_ (mono r _)
            unfold earStep; rw [if_pos h14]
            by_cases h5 : 4 < x.n
            · rw [if_pos h5]; omega
            · rw [if_neg h5]; omega
          · exact ih _ h
      have := big f.ins 0 hx
      have hl : inR (aloneF (f.ins.foldl earStep 0) f).length 1 4 = false := by simp [inR, aloneF]; omega
      simp [machOk, hl]
    have e2 : machOk (aloneF (mostS f.ins) f) = false := by
      have hm := mostT_le f.ins f.ins.length
      have he2 : mostT f.ins f.ins.length = mostS f.ins := by rw [mostT, List.take_of_length_le (Nat.le_refl _)]; rfl
      refine machBad (i := mostS f.ins) (f := f) (by simp [aloneF]) ?_
      have : f.ins.all (insOk f.params f.slots f.ins.length (mostS f.ins)) = false := by
        rw [List.all_eq_false]
        refine ⟨x, hx, ?_⟩
        have : inR x.n 0 ((mostS f.ins : Int) - 1) = false := by simp [inR]; omega
        simp [insOk_eq2, fN, mostN, h14, this, inR]
        try (intros; omega)
      simp [fnOk, this]
    rw [e1, e2]
variable (G : Glob)
theorem i_Mul64 (e : Nat) (he : e ≤ 5) : VF Tryd.prog G n_math_bits_Mul64 [.p (.int .u64 1), .p (.int .u64 e)] (.tup [.p (.int .u64 0), .p (.int .u64 e)]) := by
  refine AC.go k_math_bits_Mul64 ?_
  have : e = 0 ∨ e = 1 ∨ e = 2 ∨ e = 3 ∨ e = 4 ∨ e = 5 := by omega
  rcases this with rfl | rfl | rfl | rfl | rfl | rfl <;> simp -implicitDefEqProofs [F_math_bits_Mul64, IntKind.wrap, IntKind.bits, IntKind.signed]
theorem i_Mul (e : Nat) (he : e ≤ 5) : VF Tryd.prog G n_math_bits_Mul [.p (.int .u64 1), .p (.int .u64 e)] (.tup [.p (.int .u64 0), .p (.int .u64 e)]) := by
  refine AC.go k_math_bits_Mul ?_
  simp -implicitDefEqProofs [F_math_bits_Mul]
  refine (i_Mul64 G e he).use ?_
  simp -implicitDefEqProofs
/-- n functions, and the rest nought. -/
def repR (n e : Nat) : List (List AV) := List.replicate n (backF.cs.map .p) ++ List.replicate (e - n) zMfn
theorem repR_len {n e : Nat} (h : n ≤ e) : (repR n e).length = e := by simp [repR]; omega
theorem repR_step {n e : Nat} (h : n ≤ e) : List.take n (repR n e) ++ List.take (e - n) (List.take n (repR n e)) ++ List.drop (n + min n (e - n)) (repR n e) = repR (n + min n (e - n)) e := by
  have h1 : List.take n (repR n e) = List.replicate n (backF.cs.map .p) := by rw [repR, List.take_left' (by simp)]
  rw [h1, List.take_replicate, repR, List.drop_append, List.drop_replicate, List.drop_replicate, List.length_replicate, repR]
  rw [show n - (n + min n (e - n)) = 0 by omega, show e - n - (n + min n (e - n) - n) = e - (n + min n (e - n)) by omega, List.replicate_zero, List.nil_append, ← List.replicate_append_replicate, Nat.min_comm (e - n) n, List.append_assoc]
theorem repR_b (n e : Nat) : ∀ x ∈ repR n e, belowL 0 x := by
  intro x hx
  rcases List.mem_append.1 hx with h | h
  · rw [List.eq_of_mem_replicate h]; simp [backF, Mfn.cs, below, belowL]
  · rw [List.eq_of_mem_replicate h]; simp [zMfn, below, belowL]
theorem o_Repeat (o : AO) (ho : okO 0 o) (e : Nat) (he : e ≤ 5) : AC Tryd.prog G n_slices_Repeat_impl_Mfn [.p (.lst 3 [backF.cs]), .p (.int .i64 e)] [o] fun r h => r = .ret (.sl 1 3 0 e) ∧ h = [o, .row 3 (List.replicate e (backF.cs.map .p))] := by
  refine AC.go k_slices_Repeat_impl_Mfn ?_
  have w1' : IntKind.u64.wrap 1 = 1 := rfl
  have we : IntKind.u64.wrap (e : Int) = e := by simp [IntKind.wrap, IntKind.bits, IntKind.signed]; omega
  have wi : IntKind.i64.wrap (e : Int) = e := i64_small (by omega) (by omega)
  simp -implicitDefEqProofs [F_slices_Repeat_impl_Mfn, w1', we]
  refine (i_Mul G e he).use ?_
  have hng : ¬ (9223372036854775807 : Int) < e := by omega
  simp -implicitDefEqProofs [hng, wi]
  refine ⟨by omega, ?_⟩
  refine loopA (fun n : Nat => tsOf 48 [(7, .sl 1 3 0 e), (8, .p (.int .i64 n))]) (fun n => [o, .row 3 (repR n e)]) (fun n => n ≤ e ∧ (e = 0 ∨ 0 < n)) (fun n => e - n) (min 1 e) (by omega) ?_ ?_
  · have : (List.take e [List.map AV.p backF.cs] ++ List.replicate (e - min 1 e) [AV.p (PV.int IntKind.i64 0), AV.p (PV.int IntKind.i64 0), AV.nils]) = repR (min 1 e) e := by
      rcases Nat.eq_zero_or_pos e with rfl | h
      · rfl
      · rw [show min 1 e = 1 by omega, repR, List.take_of_length_le (by simp; omega)]; rfl
    rw [this]
    exact wkt_ren [0, 1] (by simp) (by decide) (by decide) (hw_ok rfl ho (hw_row rfl (repR_b _ _) hw_nil)) (by simp [below, ren])
  · intro n ⟨hn, hp⟩
    have hl := repR_len hn
    simp -implicitDefEqProofs []
    refine cndb (fun h1 => ?_) (fun h1 => ?_)
    · simp at h1
      simp -implicitDefEqProofs [hl]
      refine ⟨by omega, ?_⟩
      have hne : n + (e - n) ≤ e := by omega
      have hrs := repR_step hn
      rw [List.append_assoc] at hrs
      have w2 : IntKind.i64.wrap ((n : Int) + (min n (e - n) : Nat)) = ((n + min n (e - n) : Nat) : Int) := by rw [i64_small (by omega) (by omega)]; omega
      simp -implicitDefEqProofs [hn, hne, hl, hrs, Nat.min_eq_left hn, w2]
      exact ⟨n + min n (e - n), ⟨by omega, by omega⟩, by omega, wkt_ren [0, 1] (by simp) (by decide) (by decide) (hw_ok rfl ho (hw_row rfl (repR_b _ _) hw_nil)) (by simp [below, ren])⟩
    · simp at h1
      have : n = e := by omega
      subst this
      simp -implicitDefEqProofs [repR]
end Go.Proofs.YtbbobekgnclkfaaDoor
namespace Go.Proofs.YtbbobekgnclkfaaDoor
open Go Go.Aw
set_option maxRecDepth 100000
set_option maxHeartbeats 4000000
variable (G : Glob)
structure LS where
  again : Bool
  first : Bool
  L : List Bool
  sz : Int
  o3 : AO
  o4 : AO
structure IS where
  fst : Nat
  snd : Bool
def LS.row (f : Mfn) (a : LS) : AO := .row 7 [layC f (.sl 1 1 0 f.ins.length) (if a.first then .nils else .sl 3 1 0 f.ins.length) (if a.first then .nils else .sl 4 1 0 f.ins.length) a.sz]
def LS.inv (f : Mfn) (a : LS) : Prop := a.L.length = f.ins.length ∧ okO 0 a.o3 ∧ okO 0 a.o4 ∧
  (if a.again then fixL f.ins a.L = longs f.ins else a.first = false ∧ a.L = longs f.ins ∧ a.sz = plc f.ins a.L f.ins.length ∧ a.o3 = intsO (szl f.ins a.L f.ins.length) ∧ a.o4 = intsO (plcs f.ins a.L f.ins.length))
theorem pos_of_alone {e : Nat} {f : Mfn} (h : machOk (aloneF e f) = true) : 0 < f.ins.length := by
  simp only [machOk, Bool.and_eq_true] at h
  have := fnsOk_get h.2 (i := e) (f := f) (by simp [aloneF])
  simp only [fnOk, Bool.and_eq_true] at this
  have h1 := this.1.2
  rcases Nat.eq_zero_or_pos f.ins.length with h0 | h0
  · rw [List.length_eq_zero_iff] at h0
    rw [h0] at h1; simp [lastOk] at h1
  · exact h0
variable (hG : G g_forms = some pvForms)
include hG
theorem o_layoutOf0 (f : Mfn) (hn : f.ins.length ≤ 1000000) (hlo : ∀ x ∈ f.ins, x.op = 14 → -9223372036854775808 ≤ x.n) : AC Tryd.prog G n_impl_layoutOf [.agg (f.cs.map .p)] [] fun r h =>
    if codeOk f then r = .ret (.ptr 2 7 0 0) ∧ h = [.row 3 [f.cs.map .p], boolO (longs f.ins), .row 7 [layC f (.sl 1 1 0 f.ins.length) (.sl 3 1 0 f.ins.length) (.sl 4 1 0 f.ins.length) (plc f.ins (longs f.ins) f.ins.length)], intsO (szl f.ins (longs f.ins) f.ins.length), intsO (plcs f.ins (longs f.ins) f.ins.length)]
    else r = .ret .nilp := by
  refine AC.go k_impl_layoutOf ?_
  simp -implicitDefEqProofs [F_impl_layoutOf]
  simp -implicitDefEqProofs [Mfn.cs]
  refine loopA (fun i : Nat => tsOf 92 [(1, .ptr 0 3 0 0), (3, .p (.int .i64 (earT f.ins i))), (12, .p (insL f.ins)), (13, .p (.int .i64 f.ins.length)), (14, .p (.int .i64 i))]) (fun _ => [.row 3 [f.cs.map .p]])
    (fun i => i ≤ f.ins.length) (fun i => f.ins.length - i) 0 (by simp) ?_ ?_
  · refine wkt_same (by simp) (by simp [okO, Mfn.cs]) ?_
    simp [below, earT, insL, Mfn.cs]
  · intro i hi
    have hin : insL f.ins = .lst 5 (f.ins.map Mins.cs) := rfl
    have hle := earT_le f.ins i
    simp -implicitDefEqProofs [hin]
    refine cndb (fun h1 => ?_) (fun h1 => ?_)
    · simp at h1
      have hg1 := List.getElem?_eq_getElem h1
      simp -implicitDefEqProofs [hg1]
      by_cases h14 : f.ins[i].op = 14
      · have hw : IntKind.i64.wrap ((if 4 < f.ins[i].n then 4 else f.ins[i].n) + 1) = (if 4 < f.ins[i].n then 4 else f.ins[i].n) + 1 := by
          have := hlo _ (List.getElem_mem h1) h14
          split <;> exact i64_small (by omega) (by omega)
        have he : (if (earT f.ins i : Int) < (if 4 < f.ins[i].n then 4 else f.ins[i].n) + 1 then (if 4 < f.ins[i].n then 4 else f.ins[i].n) + 1 else (earT f.ins i : Int)) = ((earT f.ins (i + 1) : Nat) : Int) := by
          rw [earT_succ h1, earStep, if_pos h14]
          by_cases h4 : 4 < f.ins[i].n
          · simp only [if_pos h4]; omega
          · simp only [if_neg h4]; omega
        simp -implicitDefEqProofs [hg1, Mins.cs, h14, hw, he]
        refine ⟨i + 1, h1, by omega, wkt_pick [0] rfl (by decide) (hw_row rfl (by simp [belowL, Mfn.cs]) hw_nil) ?_⟩
        simp [below, ren, w1 (i := i) (by omega)]
      · have hw : earT f.ins (i + 1) = earT f.ins i := by rw [earT_succ h1, earStep, if_neg h14]
        simp -implicitDefEqProofs [hg1, Mins.cs, h14]
        refine ⟨i + 1, h1, by omega, wkt_pick [0] rfl (by decide) (hw_row rfl (by simp [belowL, Mfn.cs]) hw_nil) ?_⟩
        simp [below, ren, w1 (i := i) (by omega), hw]
    · simp at h1
      have : i = f.ins.length := by omega
      subst this
      simp -implicitDefEqProofs []
      have hbc : backF.cs = [.int .i64 0, .int .i64 0, .lst 5 [[.int .i64 22, .int .i64 0, .int .i64 0, .int .i64 0, .int .i64 0]]] := rfl
      generalize hee : earT f.ins f.ins.length = e at *
      refine (o_Repeat G (.row 3 [f.cs.map .p]) (by simp [okO, Mfn.cs]) e hle).mono ?_
      rintro r h ⟨rfl, rfl⟩
      simp -implicitDefEqProofs [callR, callR_nxt]
      refine ⟨⟨by omega, by omega⟩, ?_⟩
      have hv : View [AO.row 3 [List.map AV.p f.cs], AO.dead, AO.row 3 (List.replicate e (List.map AV.p backF.cs) ++ [[AV.p (PV.int IntKind.i64 f.params), AV.p (PV.int IntKind.i64 f.slots), AV.p (PV.lst 5 (List.map Mins.cs f.ins))]]), AO.row 1 [[AV.sl 2 3 0 (e + 1)]]] (.sl 2 3 0 (e + 1)) (fnsL (aloneF e f)) :=
        view_row (ls := (aloneF e f).map Mfn.cs) (by simp [aloneF, Mfn.cs]) (by simp [aloneF]) (fun l hl => by obtain ⟨x, _, rfl⟩ := List.mem_map.1 hl; rfl)
      refine (VF.lend (i_MachValid G hG (aloneF e f) (by rw [szF_alone]; omega)) (.agg (.one hv .nil) .nil) rfl).mono ?_
      rintro r h ⟨rfl, rfl⟩
      have hae : machOk (aloneF e f) = machOk (aloneF (mostS f.ins) f) := by rw [← hee]; exact alone_eq f
      simp -implicitDefEqProofs [hae]
      refine cndb (fun h2 => ?_) (fun h2 => ?_)
      · simp at h2
        have hc : codeOk f = false := by simp [codeOk, h2]
        simp -implicitDefEqProofs [hc]
      · simp at h2
        have hf := fine_of_alone h2
        have hmn : f.ins.length ≤ 2000 := hf.1
        simp -implicitDefEqProofs [Mfn.cs, insL]
        refine ⟨by omega, ?_⟩
        have hpos := pos_of_alone h2
        refine loopA (fun a : LS => tsOf 92 [(1, .ptr 0 3 0 0), (7, .ptr 2 7 0 0), (8, .p (.bool a.again))]) (fun a => [.row 3 [f.cs.map .p], boolO a.L, a.row f, a.o3, a.o4])
          (fun a => a.inv f) (fun a => 2 * countF a.L + (if a.again then 1 else 0)) ⟨true, true, List.replicate f.ins.length false, 0, .dead, .dead⟩ (by simp [LS.inv, longs, okO]) ?_ ?_
        · refine wkt_pick [0, 4, 5, 1, 3] rfl (by decide) (hw_row rfl (by simp [belowL, Mfn.cs]) (hw_ok (by simp [boolO]) (by simp [-Bool.exists_bool, -Bool.forall_bool, okO, boolO]) (hw_rowr (by simp [layC, below]) (by simp [layC, ren, renL]; exact hin.symm) (hw_dead (by simp) (hw_dead (by simp) hw_nil))))) ?_
          simp [below, ren]
        · rintro ⟨again, first, L, sz, o3, o4⟩ ⟨hL, ho3, ho4, hfix⟩
          simp only at hL ho3 ho4 hfix
          simp -implicitDefEqProofs []
          refine cndb (fun h3 => ?_) (fun h3 => ?_)
          · subst h3
            simp only [if_true] at hfix
            simp -implicitDefEqProofs []
            refine AC.mono (o_settle G f L hL hf hpos _ _ sz o3 o4 ho3 ho4) ?_
            rintro r h ⟨rfl, rfl⟩
            have hbo : ∀ l, boolO l = .row 1 (l.map fun b => [.p (.bool b)]) := fun _ => rfl
            simp -implicitDefEqProofs [callR_nxt]
            simp -implicitDefEqProofs [Mfn.cs, hin]
            have hrl := roundL_len f.ins L
            have hn0 : L = nextAt f.ins L 0 := by simp [nextAt]
            refine loopA (fun a : IS => tsOf 92 [(1, .ptr 0 3 0 0), (7, .ptr 2 7 0 0), (8, .p (.bool a.snd)), (52, .p (insL f.ins)), (53, .p (.int .i64 f.ins.length)), (54, .p (.int .i64 a.fst))])
              (fun a => [.row 3 [f.cs.map .p], boolO (nextAt f.ins L a.fst), .row 7 [layC f (.sl 1 1 0 f.ins.length) (.sl 5 1 0 f.ins.length) (.sl 6 1 0 f.ins.length) (plc f.ins L f.ins.length)], o3, o4, intsO (szl f.ins L f.ins.length), intsO (plcs f.ins L f.ins.length)])
              (fun a => a.fst ≤ f.ins.length ∧ (a.snd = false → (roundL f.ins L).take a.fst = L.take a.fst) ∧ (a.snd = true → roundL f.ins L ≠ L)) (fun a => f.ins.length - a.fst) ⟨0, false⟩ (by simp) ?_ ?_
            · rw [← hn0]
              refine wkt_pick [0, 1, 2, 3, 4, 5, 6] rfl (by decide) (hw_row rfl (by simp [belowL, Mfn.cs]) (hw_ok rfl (by simp [-Bool.exists_bool, -Bool.forall_bool, okO, boolO]) (hw_rowr (by simp [layC, below]) (by simp [layC, ren, renL]) (hw_ok rfl ho3 (hw_ok rfl ho4 (hw_ok rfl (by simp [okO, intsO]) (hw_ok rfl (by simp [okO, intsO]) hw_nil))))))) ?_
              simp [below, ren, hin]
            · rintro ⟨i, c⟩ ⟨hi, hc0, hc1⟩
              simp only at hi hc0 hc1
              simp -implicitDefEqProofs [hin]
              refine cndb (fun h3 => ?_) (fun h3 => ?_)
              · simp at h3
                have h4 : i < L.length := by omega
                obtain ⟨q1, q2, q3, q4⟩ := hf.2 _ (List.getElem_mem h3)
                have hg1 := List.getElem?_eq_getElem h3
                have hg2 := List.getElem?_eq_getElem h4
                have hng := nextAt_get (ins := f.ins) h4
                have hrg := roundL_get (ins := f.ins) h4
                have hnl := nextAt_len (ins := f.ins) (L := L) (i := i) (by omega)
                have hstay : (L[i] || need f.ins L i) = L[i] → ((⟨i + 1, c⟩ : IS).fst ≤ f.ins.length ∧ ((⟨i + 1, c⟩ : IS).snd = false → (roundL f.ins L).take (⟨i + 1, c⟩ : IS).fst = L.take (⟨i + 1, c⟩ : IS).fst) ∧ ((⟨i + 1, c⟩ : IS).snd = true → roundL f.ins L ≠ L)) := fun hs => by
                  refine ⟨h3, fun hc => ?_, hc1⟩
                  show (roundL f.ins L).take (i + 1) = L.take (i + 1)
                  rw [take_succ' (by rw [hrl]; exact h4), take_succ' h4, hc0 hc, hrg, hs]
                simp -implicitDefEqProofs [hg1]
                simp -implicitDefEqProofs [Mins.cs]
                refine (i_jumpOp G _).use ?_
                by_cases hj : jmp f.ins[i] = true
                · have hjo : (f.ins[i].op == 20 || f.ins[i].op == 21) = true := by simpa [jmp] using hj
                  simp -implicitDefEqProofs [hjo, layC, hbo, h3, hng]
                  cases hLi : L[i] with
                  | true =>
                    have hs : (L[i] || need f.ins L i) = L[i] := by simp [hLi]
                    simp -implicitDefEqProofs [hLi]
                    refine ⟨⟨i + 1, c⟩, hstay hs, (by show f.ins.length - (i + 1) < f.ins.length - i; omega), ?_⟩
                    rw [nextAt_same h4 hs]
                    refine wkt_pick [0, 1, 2, 3, 4, 5, 6] rfl (by decide) (hw_row rfl (by simp [belowL, Mfn.cs]) (hw_ok rfl (by simp [-Bool.exists_bool, -Bool.forall_bool, okO, boolO]) (hw_rowr (by simp [layC, below]) (by simp [layC, ren, renL]) (hw_ok rfl ho3 (hw_ok rfl ho4 (hw_ok rfl (by simp [okO, intsO]) (hw_ok rfl (by simp [okO, intsO]) hw_nil))))))) ?_
                    simp [below, ren, w1 (i := i) (by omega)]
                  | false =>
                    simp -implicitDefEqProofs [hLi]
                    refine AC.mono (i_offset G (L := L) hL hf h3 hj rfl rfl rfl) ?_
                    rintro r h ⟨rfl, rfl⟩
                    simp -implicitDefEqProofs [callR_nxt, hLi]
                    refine (i_within G _ _ _).use ?_
                    simp -implicitDefEqProofs []
                    have hneed : need f.ins L i = !inR ((plc f.ins L f.ins[i].n.toNat : Int) - (plc f.ins L i : Int) - (sizeB f.ins[i] false : Int)) (-128) 127 := by simp [need, hg1, hj]
                    refine cndb (fun h5 => ?_) (fun h5 => ?_)
                    · simp at h5
                      have hnt : need f.ins L i = true := by rw [hneed, h5]; rfl
                      have hset := nextAt_set (ins := f.ins) h4
                      rw [hLi, hnt] at hset
                      simp only [Bool.false_or] at hset
                      have hset2 : ((nextAt f.ins L i).map fun b => [AV.p (.bool b)]).set i [AV.p (.bool true)] = (nextAt f.ins L (i + 1)).map fun b => [AV.p (.bool b)] := by rw [← hset, List.map_set]
                      simp -implicitDefEqProofs [h3, hng, hset2]
                      refine ⟨⟨i + 1, true⟩, ⟨h3, by simp, fun _ he => ?_⟩, (by show f.ins.length - (i + 1) < f.ins.length - i; omega), ?_⟩
                      · have h6 : (roundL f.ins L)[i]? = some true := by rw [List.getElem?_eq_getElem (by rw [hrl]; exact h4), hrg, hnt]; simp
                        rw [he, hg2, hLi] at h6; cases h6
                      · refine wkt_pick [0, 1, 2, 3, 4, 5, 6] rfl (by decide) (hw_row rfl (by simp [belowL, Mfn.cs]) (hw_ok rfl (by simp [-Bool.exists_bool, -Bool.forall_bool, okO, boolO]) (hw_rowr (by simp [layC, below]) (by simp [layC, ren, renL]) (hw_ok rfl ho3 (hw_ok rfl ho4 (hw_ok rfl (by simp [okO, intsO]) (hw_ok rfl (by simp [okO, intsO]) hw_nil))))))) ?_
                        simp [below, ren, w1 (i := i) (by omega)]
                    · simp at h5
                      have hnt : need f.ins L i = false := by rw [hneed, h5]; rfl
                      have hs : (L[i] || need f.ins L i) = L[i] := by simp [hnt]
                      simp -implicitDefEqProofs []
                      refine ⟨⟨i + 1, c⟩, hstay hs, (by show f.ins.length - (i + 1) < f.ins.length - i; omega), ?_⟩
                      rw [nextAt_same h4 hs]
                      refine wkt_pick [0, 1, 2, 3, 4, 5, 6] rfl (by decide) (hw_row rfl (by simp [belowL, Mfn.cs]) (hw_ok rfl (by simp [-Bool.exists_bool, -Bool.forall_bool, okO, boolO]) (hw_rowr (by simp [layC, below]) (by simp [layC, ren, renL]) (hw_ok rfl ho3 (hw_ok rfl ho4 (hw_ok rfl (by simp [okO, intsO]) (hw_ok rfl (by simp [okO, intsO]) hw_nil))))))) ?_
                      simp [below, ren, w1 (i := i) (by omega)]
                · have hjo : (f.ins[i].op == 20 || f.ins[i].op == 21) = false := by simpa [jmp] using hj
                  simp -implicitDefEqProofs [hjo]
                  have hs : (L[i] || need f.ins L i) = L[i] := by simp [need, hg1, hj]
                  refine ⟨⟨i + 1, c⟩, hstay hs, (by show f.ins.length - (i + 1) < f.ins.length - i; omega), ?_⟩
                  rw [nextAt_same h4 hs]
                  refine wkt_pick [0, 1, 2, 3, 4, 5, 6] rfl (by decide) (hw_row rfl (by simp [belowL, Mfn.cs]) (hw_ok rfl (by simp [-Bool.exists_bool, -Bool.forall_bool, okO, boolO]) (hw_rowr (by simp [layC, below]) (by simp [layC, ren, renL]) (hw_ok rfl ho3 (hw_ok rfl ho4 (hw_ok rfl (by simp [okO, intsO]) (hw_ok rfl (by simp [okO, intsO]) hw_nil))))))) ?_
                  simp [below, ren, w1 (i := i) (by omega)]
              · simp at h3
                have hie : i = f.ins.length := by omega
                subst hie
                have hnx : nextAt f.ins L f.ins.length = roundL f.ins L := by rw [nextAt, List.take_of_length_le (by rw [hrl]; omega), List.drop_of_length_le (by omega), List.append_nil]
                rw [List.take_of_length_le (by rw [hrl]; omega), List.take_of_length_le (by omega)] at hc0
                rw [hnx]
                simp -implicitDefEqProofs []
                refine ⟨⟨c, false, roundL f.ins L, plc f.ins L f.ins.length, intsO (szl f.ins L f.ins.length), intsO (plcs f.ins L f.ins.length)⟩, ⟨by rw [hrl]; exact hL, by simp [okO, intsO], by simp [okO, intsO], ?_⟩, ?_, wkt_pick [0, 1, 2, 5, 6] rfl (by simp) (hw_row rfl (by simp [belowL]) (hw_ok rfl (by simp [-Bool.exists_bool, -Bool.forall_bool, okO, boolO]) (hw_rowr (by simp [layC, below]) (by simp [layC, ren, renL]) (hw_ok rfl (by simp [okO, intsO]) (hw_ok rfl (by simp [okO, intsO]) hw_nil))))) ?_⟩
                · cases c with
                  | false =>
                    have hh := hc0 rfl
                    simp only [Bool.false_eq_true, if_false]
                    refine ⟨trivial, ?_, ?_, ?_, ?_⟩
                    · rw [← hfix, fixL_same hh, hh]
                    · rw [hh]
                    · rw [hh]
                    · rw [hh]
                  | true => simp only [if_true]; rw [← hfix, fixL_next (hc1 rfl)]
                · cases c with
                  | false => have := hc0 rfl; rw [this]; simp
                  | true => have := countF_round _ _ (hc1 rfl); simp; omega
                · simp [below, ren]
          · subst h3
            simp at hfix
            obtain ⟨hf1, hf2, hf3, hf4, hf5⟩ := hfix
            subst hf1 hf2 hf3 hf4 hf5
            simp -implicitDefEqProofs [LS.row, layC]
            refine cndb (fun h4 => ?_) (fun h4 => ?_)
            · simp at h4
              have hc : codeOk f = false := by simp [codeOk]; intro _; omega
              simp -implicitDefEqProofs [hc]
            · simp at h4
              have hc : codeOk f = true := by simp [codeOk, h2]; omega
              simp -implicitDefEqProofs [hc, Mfn.cs, hin]
end Go.Proofs.YtbbobekgnclkfaaDoor
namespace Go.Proofs.YtbbobekgnclkfaaDoor
open Go Go.Aw
set_option maxRecDepth 100000
set_option maxHeartbeats 4000000
/-- Where the instructions begin, from a byte on. -/
def decFrom (code : List Int) (a : Nat) : Option (List Nat) :=
  if a < code.length then (if decGood code a then (decFrom code (a + decSz code a)).map (a :: ·) else none) else some []
termination_by code.length - a
decreasing_by have := (decSz_two code a).1; omega
theorem decFrom_end {code : List Int} {a : Nat} (h : code.length ≤ a) : decFrom code a = some [] := by rw [decFrom, if_neg (by omega)]
theorem decFrom_bad {code : List Int} {a : Nat} (h : a < code.length) (hg : ¬ decGood code a = true) : decFrom code a = none := by rw [decFrom, if_pos h, if_neg hg]
theorem decFrom_step {code : List Int} {a : Nat} (h : a < code.length) (hg : decGood code a = true) : decFrom code a = (decFrom code (a + decSz code a)).map (a :: ·) := by
  conv => lhs; rw [decFrom, if_pos h, if_pos hg]
theorem decGood_le {code : List Int} {a : Nat} (hg : decGood code a = true) : a + decSz code a ≤ code.length := by
  simp only [decGood, Bool.and_eq_true, decide_eq_true_eq] at hg; exact hg.2
def atOf (ps : List Nat) (n : Int) : Int := match ps.findIdx? (fun (p : Nat) => (p : Int) == n) with | some i => i | none => -1
def linkX (ps : List Nat) (x : Mins) : Mins := if jmp x then { x with n := atOf ps x.n } else x
def rawX (code : List Int) (ps : List Nat) : List Mins := ps.map (decI code)
def linked (code : List Int) (ps : List Nat) : List Mins := (rawX code ps).map (linkX ps)
def linkAt (code : List Int) (ps : List Nat) (i : Nat) : List Mins := (linked code ps).take i ++ (rawX code ps).drop i
def decFn (p s : Int) (code : List Int) (ps : List Nat) : Mfn := ⟨p, s, linked code ps⟩
def decOkF (code : List Int) (f : Mfn) : Bool := codeOk f && decide (encB f = code)
/-- The function of bytes. -/
def decF (p s : Int) (code : List Int) : Option Mfn := (decFrom code 0).bind fun ps => if decOkF code (decFn p s code ps) then some (decFn p s code ps) else none
theorem raw_len (code : List Int) (ps : List Nat) : (rawX code ps).length = ps.length := by simp [rawX]
theorem linked_len (code : List Int) (ps : List Nat) : (linked code ps).length = ps.length := by simp [linked, rawX]
theorem linkAt_len {code : List Int} {ps : List Nat} {i : Nat} (h : i ≤ ps.length) : (linkAt code ps i).length = ps.length := by simp [linkAt, linked_len, raw_len]; omega
theorem linkAt_zero (code : List Int) (ps : List Nat) : linkAt code ps 0 = rawX code ps := by simp [linkAt]
theorem linkAt_all (code : List Int) (ps : List Nat) : linkAt code ps ps.length = linked code ps := by
  rw [linkAt, List.take_of_length_le (by rw [linked_len]; omega), List.drop_of_length_le (by rw [raw_len]; omega), List.append_nil]
theorem linkAt_get {code : List Int} {ps : List Nat} {i : Nat} (h : i < ps.length) : (linkAt code ps i)[i]? = some (decI code ps[i]) := by
  rw [linkAt, List.getElem?_append_right (by simp [linked_len]; omega)]
  simp [linked_len, Nat.min_eq_left (Nat.le_of_lt h), rawX, h]
theorem linkAt_set {code : List Int} {ps : List Nat} {i : Nat} (h : i < ps.length) : (linkAt code ps i).set i (linkX ps (decI code ps[i])) = linkAt code ps (i + 1) := by
  have hl : ((linked code ps).take i).length = i := by simp [linked_len]; omega
  rw [linkAt, List.set_append_right _ _ (by omega), hl, Nat.sub_self, List.drop_eq_getElem_cons (by rw [raw_len]; exact h), List.set_cons_zero, linkAt, take_succ' (by rw [linked_len]; exact h)]
  simp [linked, rawX]
theorem linkAt_next {code : List Int} {ps : List Nat} {i : Nat} (h : i < ps.length) (hj : jmp (decI code ps[i]) = false) : linkAt code ps i = linkAt code ps (i + 1) := by
  rw [← linkAt_set h, linkX, hj]
  refine List.ext_getElem? fun j => ?_
  rw [List.getElem?_set]
  split
  · rename_i e; subst e
    rw [linkAt_get h]; simp [linkAt_len (Nat.le_of_lt h), h]
  · rfl
def str8 (l : List Int) : List UInt8 := l.map fun n => UInt8.ofNat n.toNat
theorem bytesA_bys : ∀ l : List Int, bytesA (l.map fun n => [AV.p (.int .u8 n)]) = some (str8 l)
  | [] => rfl
  | n :: r => by simp [bytesA, bytesA_bys r, str8]
theorem str8_inj : ∀ {a b : List Int}, BytesOk a → BytesOk b → (str8 a = str8 b ↔ a = b)
  | [], [], _, _ => by simp [str8]
  | [], _ :: _, _, _ => by simp [str8]
  | _ :: _, [], _, _ => by simp [str8]
  | x :: a, y :: b, ha, hb => by
    have ih := str8_inj (a := a) (b := b) (fun n hn => ha n (by simp [hn])) (fun n hn => hb n (by simp [hn]))
    have h1 := ha x (by simp)
    have h2 := hb y (by simp)
    have hxy : UInt8.ofNat x.toNat = UInt8.ofNat y.toNat ↔ x = y := by
      constructor
      · intro e
        have := congrArg UInt8.toNat e
        simp at this
        omega
      · rintro rfl; rfl
    simp only [str8, List.map_cons, List.cons.injEq] at ih ⊢
    rw [hxy, ih]
theorem u8_ok (n : Int) : 0 ≤ u8 n ∧ u8 n ≤ 255 := by rw [u8_eq_mod]; omega
theorem plainB_ok (x : Mins) : BytesOk (plainB x) := by
  unfold plainB
  intro n hn
  repeat' split at hn
  all_goals
    simp only [List.mem_cons, List.not_mem_nil, or_false] at hn
    rcases hn with rfl | rfl | rfl <;> exact u8_ok _
theorem encI_ok (ins : List Mins) (L : List Bool) (i : Nat) : BytesOk (encI ins L i) := by
  unfold encI
  intro n hn
  split at hn
  · split at hn
    · exact plainB_ok _ n hn
    · simp only [List.mem_append, List.mem_singleton] at hn
      rcases hn with (rfl | hn) | hn
      · exact u8_ok _
      · split at hn <;> simp at hn
        subst hn; exact u8_ok _
      · split at hn <;> simp at hn
        · rcases hn with rfl | rfl <;> exact u8_ok _
        · subst hn; exact u8_ok _
  · simp at hn
theorem encB_ok (f : Mfn) : BytesOk (encB f) := by
  intro n hn
  simp only [encB, encT, List.mem_flatten, List.mem_map] at hn
  obtain ⟨l, ⟨i, _, rfl⟩, h⟩ := hn
  exact encI_ok _ _ _ n h
theorem encI_size {ins : List Mins} {L : List Bool} {i : Nat} (h1 : i < ins.length) (h2 : i < L.length) : (encI ins L i).length = sizeB ins[i] L[i] := by
  simp only [encI, List.getElem?_eq_getElem h1, List.getElem?_eq_getElem h2, sizeB]
  cases jmp ins[i] <;> cases L[i] <;> by_cases e : ins[i].op = 21 <;> simp [e]
theorem encT_size {ins : List Mins} {L : List Bool} (hl : L.length = ins.length) : ∀ i, i ≤ ins.length → (encT ins L i).length = plc ins L i
  | 0, _ => by simp [encT, plc]
  | i + 1, h => by rw [encT_succ, List.length_append, encT_size hl i (by omega), encI_size (by omega) (by omega), plc_succ (by omega) (by omega)]
theorem codeOk_pos {f : Mfn} (h : codeOk f = true) : 0 < f.ins.length := by
  simp only [codeOk, Bool.and_eq_true] at h
  exact pos_of_alone h.1
variable (G : Glob)
theorem atOf_hit {ps : List Nat} {n : Int} {i : Nat} (h : i < ps.length) (hn : ∀ p ∈ ps.take i, (p : Int) ≠ n) (he : (ps[i] : Int) = n) : atOf ps n = i := by
  have : ps.findIdx? (fun (p : Nat) => (p : Int) == n) = some i := by
    rw [List.findIdx?_eq_some_iff_getElem]
    refine ⟨h, by simpa using he, fun j hj => ?_⟩
    have := hn ps[j] (List.mem_take_iff_getElem.2 ⟨j, by omega, rfl⟩)
    simpa using this
  rw [atOf, this]
theorem insV {h : List AO} {id : Nat} {ins : List Mins} (e : h[id]? = some (rowE 5 (ins.map Mins.av))) : View h (slE id 5 (ins.map Mins.av)) (insL ins) := by
  have hm : ins.map Mins.av = (ins.map Mins.cs).map (·.map .p) := by simp [Mins.av]
  rw [hm] at e ⊢
  exact view_E e (by intro l hl; obtain ⟨m, _, rfl⟩ := List.mem_map.1 hl; rfl)
end Go.Proofs.YtbbobekgnclkfaaDoor
namespace Go.Proofs.YtbbobekgnclkfaaDoor
open Go Go.Aw
set_option maxRecDepth 100000
set_option maxHeartbeats 4000000
def isLet (c : UInt8) : Bool := decide (97 ≤ c.toNat) && decide (c.toNat ≤ 122)
def keyW : List (List UInt8) := [[102, 110], [108, 101, 116], [115, 97, 121], [112, 117, 116], [105, 102], [101, 108, 115, 101], [108, 111, 111, 112], [98, 97, 99, 107], [100, 111]]
def isName (s : List UInt8) : Bool := s.all isLet && decide (0 < s.length) && decide (s.length ≤ 4) && !keyW.contains s
def signW : List UInt8 := [40, 41, 123, 125, 59, 44, 43, 45, 42, 47, 37, 60, 61, 38, 33, 64]
def findB (s : List UInt8) (c : Int) : Int := match s.findIdx? (fun x => (x.toNat : Int) == c) with | some i => i | none => -1
def clsOf (c : Int) : Int := if 97 ≤ c ∧ c ≤ 122 then 1 else if 48 ≤ c ∧ c ≤ 57 then 2 else if 0 ≤ findB signW c then 3 else if c = 32 ∨ c = 10 then 4 else 0
theorem cls_let (x : UInt8) : (clsOf (x.toNat : Int) = 1) ↔ isLet x = true := by
  have h : (97 ≤ (x.toNat : Int) ∧ (x.toNat : Int) ≤ 122) ↔ isLet x = true := by simp [isLet]; omega
  unfold clsOf
  constructor
  · intro e
    split at e
    · rename_i h1; exact h.1 h1
    · repeat' split at e
      all_goals omega
  · intro e; rw [if_pos (h.2 e)]
def strL (l : List (List UInt8)) : PV := .lst 1 (l.map fun w => [.str w])
def idxN (s : List UInt8) : Int := match s.findIdx? (fun x => !isLet x) with | some i => i | none => -1
theorem idxN_neg (s : List UInt8) : decide (idxN s < 0) = s.all isLet := by
  unfold idxN
  cases h : s.findIdx? (fun x => !isLet x) with
  | none =>
    rw [List.findIdx?_eq_none_iff] at h
    have : s.all isLet = true := List.all_eq_true.2 fun x hx => by have := h x hx; simpa using this
    simp [this]
  | some i =>
    rw [List.findIdx?_eq_some_iff_getElem] at h
    obtain ⟨h1, h2, _⟩ := h
    have : s.all isLet = false := List.all_eq_false.2 ⟨_, List.getElem_mem h1, by simpa using h2⟩
    rw [this]; simp
def idxS (l : List (List UInt8)) (s : List UInt8) : Int := match l.findIdx? (fun w => w == s) with | some i => i | none => -1
theorem idxS_pos (l : List (List UInt8)) (s : List UInt8) : decide (0 ≤ idxS l s) = l.contains s := by
  unfold idxS
  cases h : l.findIdx? (fun w => w == s) with
  | none =>
    rw [List.findIdx?_eq_none_iff] at h
    have : l.contains s = false := by
      cases hc : l.contains s with
      | false => rfl
      | true =>
        have hm : s ∈ l := by simpa using hc
        have := h s hm
        simp at this
    rw [this]; simp
  | some i =>
    rw [List.findIdx?_eq_some_iff_getElem] at h
    obtain ⟨h1, h2, _⟩ := h
    have : l.contains s = true := by
      simp only [beq_iff_eq] at h2
      rw [List.contains_iff_mem, ← h2]; exact List.getElem_mem h1
    rw [this]; simp
variable (G : Glob)
theorem s_l30Find (s : List UInt8) (c : Int) (hb : s.length ≤ 1048576) : VF Tryd.prog G n_spec_l30Find [.p (.str s), .p (.int .u8 c)] (.p (.int .i64 (findB s c))) := by
  refine AC.go k_spec_l30Find ?_
  simp -implicitDefEqProofs [F_spec_l30Find]
  refine loopA (fun i : Nat => tsOf 18 [(0, .p (.str s)), (1, .p (.int .u8 c)), (5, .p (.int .i64 i))]) (fun _ => []) (fun i => i ≤ s.length ∧ ∀ x ∈ s.take i, (x.toNat : Int) ≠ c) (fun i => s.length - i) 0 (by simp) ?_ ?_
  · exact wkt_nil rfl (by simp [below])
  · intro i ⟨hi, hn⟩
    simp -implicitDefEqProofs []
    refine cndb (fun h1 => ?_) (fun h1 => ?_)
    · simp at h1
      have hg := List.getElem?_eq_getElem h1
      by_cases he : (s[i].toNat : Int) = c
      · have hf : findB s c = i := by
          have : s.findIdx? (fun x => (x.toNat : Int) == c) = some i := by
            rw [List.findIdx?_eq_some_iff_getElem]
            exact ⟨h1, by simpa using he, fun j hj => by have := hn s[j] (List.mem_take_iff_getElem.2 ⟨j, by omega, rfl⟩); simpa using this⟩
          rw [findB, this]
        simp -implicitDefEqProofs [hg, he, hf]
      · simp -implicitDefEqProofs [hg, he]
        refine ⟨i + 1, ⟨h1, fun p hp => ?_⟩, by omega, wkt_nil rfl ?_⟩
        · rw [take_succ' h1] at hp
          rcases List.mem_append.1 hp with hp | hp
          · exact hn p hp
          · rw [List.mem_singleton.1 hp]; exact he
        · simp [below, w1 (i := i) (by omega)]
    · simp at h1
      rw [List.take_of_length_le h1] at hn
      have hf : findB s c = -1 := by
        have : s.findIdx? (fun x => (x.toNat : Int) == c) = none := by
          rw [List.findIdx?_eq_none_iff]; intro x hx; simpa using hn x hx
        rw [findB, this]
      simp -implicitDefEqProofs [hf]
theorem s_l1Class (c : Int) : VF Tryd.prog G n_spec_l1Class [.p (.int .u8 c)] (.p (.int .i64 (clsOf c))) := by
  refine AC.go k_spec_l1Class ?_
  simp -implicitDefEqProofs [F_spec_l1Class]
  unfold clsOf
  by_cases h1 : 97 ≤ c
  · by_cases h2 : c ≤ 122
    · simp -implicitDefEqProofs [h1, h2]
    · have h3 : ¬ c ≤ 57 := by omega
      have h4 : ¬ c = 32 := by omega
      have h5 : ¬ c = 10 := by omega
      have h6 : 48 ≤ c := by omega
      simp -implicitDefEqProofs [h1, h2, h3, h6]
      refine (s_l30Find G signW c (by decide)).use ?_
      generalize findB signW c = w
      by_cases hf : 0 ≤ w
      · simp -implicitDefEqProofs [hf]
      · simp -implicitDefEqProofs [hf, h4, h5]
  · simp -implicitDefEqProofs [h1]
    by_cases h2 : 48 ≤ c
    · by_cases h3 : c ≤ 57
      · simp -implicitDefEqProofs [h2, h3]
      · have h4 : ¬ c = 32 := by omega
        have h5 : ¬ c = 10 := by omega
        simp -implicitDefEqProofs [h2, h3]
        refine (s_l30Find G signW c (by decide)).use ?_
        generalize findB signW c = w
        by_cases hf : 0 ≤ w
        · simp -implicitDefEqProofs [hf]
        · simp -implicitDefEqProofs [hf, h4, h5]
    · simp -implicitDefEqProofs [h2]
      refine (s_l30Find G signW c (by decide)).use ?_
      generalize findB signW c = w
      by_cases hf : 0 ≤ w
      · simp -implicitDefEqProofs [hf]
      · by_cases h4 : c = 32
        · simp -implicitDefEqProofs [hf, h4]
        · by_cases h5 : c = 10
          · simp -implicitDefEqProofs [hf, h4, h5]
          · simp -implicitDefEqProofs [hf, h4, h5]
theorem s_l1All (s : List UInt8) (hb : s.length ≤ 140737488355328) : VF Tryd.prog G n_spec_l1All [.p (.str s), .p (.int .i64 1)] (.p (.bool (s.all isLet && decide (0 < s.length)))) := by
  refine AC.go k_spec_l1All ?_
  simp -implicitDefEqProofs [F_spec_l1All]
  refine loopA (fun i : Nat => tsOf 21 [(0, .p (.str s)), (1, .p (.int .i64 1)), (5, .p (.int .i64 i))]) (fun _ => []) (fun i => i ≤ s.length ∧ ∀ x ∈ s.take i, isLet x = true) (fun i => s.length - i) 0 (by simp) ?_ ?_
  · exact wkt_nil rfl (by simp [below])
  · intro i ⟨hi, hn⟩
    simp -implicitDefEqProofs []
    refine cndb (fun h1 => ?_) (fun h1 => ?_)
    · simp at h1
      have hg := List.getElem?_eq_getElem h1
      simp -implicitDefEqProofs [hg]
      refine (s_l1Class G _).use ?_
      have hcl := cls_let s[i]
      by_cases he : isLet s[i] = true
      · have hc := hcl.2 he
        simp -implicitDefEqProofs [hc]
        refine ⟨i + 1, ⟨h1, fun p hp => ?_⟩, by omega, wkt_nil rfl ?_⟩
        · rw [take_succ' h1] at hp
          rcases List.mem_append.1 hp with hp | hp
          · exact hn p hp
          · rw [List.mem_singleton.1 hp]; exact he
        · simp [below, w1 (i := i) (by omega)]
      · have hc : ¬ clsOf (s[i].toNat : Int) = 1 := fun e => he (hcl.1 e)
        have ha : s.all isLet = false := List.all_eq_false.2 ⟨_, List.getElem_mem h1, by simpa using he⟩
        simp -implicitDefEqProofs [hc, ha]
    · simp at h1
      rw [List.take_of_length_le h1] at hn
      have ha : s.all isLet = true := List.all_eq_true.2 hn
      simp -implicitDefEqProofs [ha]
theorem s_KeyWords : VF Tryd.prog G n_spec_KeyWords [] (.p (strL keyW)) := by
  have key : AC Tryd.prog G n_spec_KeyWords [] [] fun x h => x = .ret (.sl 0 1 0 9) ∧ h = [.row 1 (keyW.map fun w => [.p (.str w)])] := by
    refine AC.go k_spec_KeyWords ?_
    simp -implicitDefEqProofs [F_spec_KeyWords, keyW]
  exact AC.freeze key (.one (view_row (ls := keyW.map fun w => [.str w]) (by simp) (by simp [keyW]) (by simp)) .nil)
theorem s_l1Key (s : List UInt8) : VF Tryd.prog G n_spec_l1Key [.p (.str s)] (.p (.bool (keyW.contains s))) := by
  refine AC.go k_spec_l1Key ?_
  have hsl : strL keyW = .lst 1 (keyW.map fun w => [.str w]) := rfl
  have hkl : keyW.length = 9 := rfl
  simp -implicitDefEqProofs [F_spec_l1Key]
  refine (s_KeyWords G).use ?_
  simp -implicitDefEqProofs []
  refine loopA (fun i : Nat => tsOf 18 [(0, .p (.str s)), (3, .p (strL keyW)), (4, .p (.int .i64 i))]) (fun _ => []) (fun i => i ≤ keyW.length ∧ ∀ w ∈ keyW.take i, w ≠ s) (fun i => keyW.length - i) 0 (by simp) ?_ ?_
  · exact wkt_nil rfl (by simp [below, strL])
  · intro i ⟨hi, hn⟩
    generalize keyW = L at *
    simp -implicitDefEqProofs [hsl]
    refine cndb (fun h1 => ?_) (fun h1 => ?_)
    · simp at h1
      have hg := List.getElem?_eq_getElem h1
      by_cases he : L[i] = s
      · have hm : s ∈ L := by rw [← he]; exact List.getElem_mem h1
        simp -implicitDefEqProofs [hg, he, hm]
      · simp -implicitDefEqProofs [hg, he]
        refine ⟨i + 1, ⟨h1, fun p hp => ?_⟩, by omega, wkt_nil rfl ?_⟩
        · rw [take_succ' h1] at hp
          rcases List.mem_append.1 hp with hp | hp
          · exact hn p hp
          · rw [List.mem_singleton.1 hp]; exact he
        · simp [below, w1 (i := i) (by omega)]
    · simp at h1
      rw [List.take_of_length_le h1] at hn
      have hm : ¬ s ∈ L := fun hm => hn s hm rfl
      simp -implicitDefEqProofs [hm]
theorem s_IsName (s : List UInt8) (hb : s.length ≤ 140737488355328) : VF Tryd.prog G n_spec_IsName [.p (.str s)] (.p (.bool (isName s))) := by
  refine AC.go k_spec_IsName ?_
  simp -implicitDefEqProofs [F_spec_IsName]
  refine (s_l1All G s hb).use ?_
  cases h1 : (s.all isLet && decide (0 < s.length)) with
  | false =>
    have hi : isName s = false := by rw [isName, h1]; rfl
    simp -implicitDefEqProofs [hi]
  | true =>
    by_cases h4 : s.length ≤ 4
    · have h4i : (s.length : Int) ≤ 4 := by omega
      have hi : isName s = !keyW.contains s := by rw [isName, h1]; simp [h4]
      simp -implicitDefEqProofs [h4i]
      refine (s_l1Key G s).use ?_
      rw [hi]
      simp -implicitDefEqProofs []
    · have h4i : ¬ (s.length : Int) ≤ 4 := by omega
      have hi : isName s = false := by rw [isName, h1]; simp [h4]
      simp -implicitDefEqProofs [h4i, hi]
end Go.Proofs.YtbbobekgnclkfaaDoor
namespace Go.Proofs.YtbbobekgnclkfaaDoor
open Go Go.Aw
set_option maxRecDepth 100000
set_option maxHeartbeats 4000000
variable (G : Glob)
def numL (l : List Int) : PV := .lst 1 (l.map fun n => [.int .i64 n])
structure Obj where (name : List UInt8) (params slots : Int) (code calls : List Int) (names : List (List UInt8))
deriving DecidableEq
def Obj.cs (o : Obj) : List PV := [.str o.name, .int .i64 o.params, .int .i64 o.slots, bysL o.code, numL o.calls, strL o.names]
theorem take_done' {α : Type} {xs ys : List α} {i : Nat} (h : xs.length = ys.length) (h1 : ys.length ≤ i) (he : xs.take i = ys.take i) : xs = ys := by
  rwa [List.take_of_length_le (by omega), List.take_of_length_le h1] at he
@[simp] theorem Obj.cs_len (o : Obj) : o.cs.length = 6 := rfl
@[simp] theorem Obj.cs_take (o : Obj) : List.take 6 (o.cs.map AV.p) = o.cs.map AV.p := rfl
theorem t_eqIntS (xs ys : List Int) (hb : xs.length ≤ 1048576) : VF Tryd.prog G n_laws_eqIntS [.p (numL xs), .p (numL ys)] (.p (.bool (decide (xs = ys)))) := by
  refine AC.go k_laws_eqIntS ?_
  simp -implicitDefEqProofs [F_laws_eqIntS, numL]
  refine cndb (fun h => ?_) (fun h => ?_)
  · have h' : xs ≠ ys := by rintro rfl; simp at h
    simp -implicitDefEqProofs [h']
  have h : xs.length = ys.length := by simp at h; omega
  simp -implicitDefEqProofs []
  refine loopA (fun i : Nat => tsOf 26 [(0, .p (numL xs)), (1, .p (numL ys)), (5, .p (.int .i64 i))]) (fun _ => []) (fun i => i ≤ xs.length ∧ xs.take i = ys.take i) (fun i => xs.length - i) 0 (by simp) ?_ ?_
  · exact wkt_nil rfl (by simp [below, numL, h])
  intro i ⟨hi, he⟩
  simp -implicitDefEqProofs [numL]
  refine cndb (fun h1 => ?_) (fun h1 => ?_)
  · simp at h1
    have h1 : i < ys.length := by omega
    have h1' : i < xs.length := by omega
    have hx := List.getElem?_eq_getElem h1'
    have hy := List.getElem?_eq_getElem h1
    by_cases h3 : xs[i] = ys[i]
    · simp -implicitDefEqProofs [hx, hy, h3]
      exact ⟨i + 1, ⟨h1', take_succ_eq h1' h1 h3 he⟩, by omega, wkt_nil rfl (by simp [below, numL, w1 (i := i) (by omega)])⟩
    · have h' : xs ≠ ys := by rintro rfl; exact h3 rfl
      simp -implicitDefEqProofs [hx, hy, h3, h']
  · simp at h1
    have h1 : ys.length ≤ i := by omega
    have h' : xs = ys := take_done' h h1 he
    simp -implicitDefEqProofs [h']
theorem t_EqualInt (xs ys : List Int) (hb : xs.length ≤ 1048576) : VF Tryd.prog G n_slices_Equal_int [.p (numL xs), .p (numL ys)] (.p (.bool (decide (xs = ys)))) := by
  refine AC.go k_slices_Equal_int ?_
  simp -implicitDefEqProofs [F_slices_Equal_int, numL]
  refine cndb (fun h => ?_) (fun h => ?_)
  · have h' : xs ≠ ys := by rintro rfl; simp at h
    simp -implicitDefEqProofs [h']
  have h : xs.length = ys.length := by simp at h; omega
  simp -implicitDefEqProofs []
  refine loopA (fun i : Nat => tsOf 26 [(0, .p (numL xs)), (1, .p (numL ys)), (11, .p (numL xs)), (12, .p (.int .i64 xs.length)), (13, .p (.int .i64 i))]) (fun _ => []) (fun i => i ≤ xs.length ∧ xs.take i = ys.take i) (fun i => xs.length - i) 0 (by simp) ?_ ?_
  · exact wkt_nil rfl (by simp [below, numL, h])
  intro i ⟨hi, he⟩
  simp -implicitDefEqProofs [numL]
  refine cndb (fun h1 => ?_) (fun h1 => ?_)
  · simp at h1
    have h1 : i < ys.length := by omega
    have h1' : i < xs.length := by omega
    have hx := List.getElem?_eq_getElem h1'
    have hy := List.getElem?_eq_getElem h1
    by_cases h3 : xs[i] = ys[i]
    · simp -implicitDefEqProofs [hx, hy, h3]
      exact ⟨i + 1, ⟨h1', take_succ_eq h1' h1 h3 he⟩, by omega, wkt_nil rfl (by simp [below, numL, w1 (i := i) (by omega)])⟩
    · have h' : xs ≠ ys := by rintro rfl; exact h3 rfl
      simp -implicitDefEqProofs [hx, hy, h3, h']
  · simp at h1
    have h1 : ys.length ≤ i := by omega
    have h' : xs = ys := take_done' h h1 he
    simp -implicitDefEqProofs [h']
end Go.Proofs.YtbbobekgnclkfaaDoor
namespace Go.Proofs.YtbbobekgnclkfaaDoor
open Go Go.Aw
set_option maxRecDepth 100000
set_option maxHeartbeats 4000000
theorem shiftL_pure0 (n : Nat) (l : List PV) : shiftL n (l.map .p) = l.map .p := by
  rw [shiftL_map, List.map_map]; rfl
theorem shiftO_bool (n : Nat) (L : List Bool) : shiftO n (boolO L) = boolO L := by
  simp only [shiftO, boolO, List.map_map]; rfl
theorem shiftO_ints (n : Nat) (L : List Nat) : shiftO n (intsO L) = intsO L := by
  simp only [shiftO, intsO, List.map_map]; rfl
theorem shiftO_bys (n : Nat) (L : List Int) : shiftO n (bysO L) = bysO L := by
  simp only [shiftO, bysO, List.map_map]; rfl
theorem shiftO_fn (n : Nat) (f : Mfn) : shiftO n (.row 3 [f.cs.map .p]) = .row 3 [f.cs.map .p] := by
  simp only [shiftO, List.map_cons, List.map_nil, shiftL_pure0]
theorem shiftO_lay (n : Nat) (f : Mfn) (a b c la lb lc : Nat) (z : Int) : shiftO n (.row 7 [layC f (.sl a 1 0 la) (.sl b 1 0 lb) (.sl c 1 0 lc) z]) = .row 7 [layC f (.sl (n + a) 1 0 la) (.sl (n + b) 1 0 lb) (.sl (n + c) 1 0 lc) z] := rfl
theorem nofnL_pure (l : List PV) : nofnL (l.map .p) = true := by
  induction l with
  | nil => rfl
  | cons a r ih => simp [nofnL, nofn, ih]
theorem nofnO_bool (L : List Bool) : nofnO (boolO L) = true := by simp [nofnO, boolO, nofnL, nofn]
theorem nofnO_ints (L : List Nat) : nofnO (intsO L) = true := by simp [nofnO, intsO, nofnL, nofn]
variable (G : Glob) (hG : G g_forms = some pvForms)
include hG
theorem i_layoutOf1 (f : Mfn) (hn : f.ins.length ≤ 1000000) (hlo : ∀ x ∈ f.ins, x.op = 14 → -9223372036854775808 ≤ x.n) (hc : codeOk f = true) : AC Tryd.prog G n_impl_layoutOf [.agg (f.cs.map .p)] [] fun r h =>
    r = .ret (.ptr 2 7 0 0) ∧ h = [.row 3 [f.cs.map .p], boolO (longs f.ins), .row 7 [layC f (.sl 1 1 0 f.ins.length) (.sl 3 1 0 f.ins.length) (.sl 4 1 0 f.ins.length) (plc f.ins (longs f.ins) f.ins.length)], intsO (szl f.ins (longs f.ins) f.ins.length), intsO (plcs f.ins (longs f.ins) f.ins.length)] :=
  (o_layoutOf0 G hG f hn hlo).mono fun r h e => by rw [if_pos hc] at e; exact e
theorem i_layoutOf2 (f : Mfn) (hn : f.ins.length ≤ 1000000) (hlo : ∀ x ∈ f.ins, x.op = 14 → -9223372036854775808 ≤ x.n) (hc : ¬ codeOk f = true) : VF Tryd.prog G n_impl_layoutOf [.agg (f.cs.map .p)] .nilp :=
  AC.freezeR ((o_layoutOf0 G hG f hn hlo).mono (R' := fun r _ => r = .ret .nilp) fun r h e => by rw [if_neg hc] at e; exact e) (fun t v h e => by cases e) fun v h e => by cases e; exact .keep (by simp [below]) .nil
def encHp (f : Mfn) (L : List Bool) : List AO := [.row 3 [f.cs.map .p], .dead, boolO L, .row 7 [layC f (.sl 2 1 0 f.ins.length) (.sl 4 1 0 f.ins.length) (.sl 5 1 0 f.ins.length) (plc f.ins L f.ins.length)], intsO (szl f.ins L f.ins.length), intsO (plcs f.ins L f.ins.length)]
theorem o_EncodeFn1 (f : Mfn) (hn : f.ins.length ≤ 1000000) (hlo : ∀ x ∈ f.ins, x.op = 14 → -9223372036854775808 ≤ x.n) (hc : codeOk f = true) : AC Tryd.prog G n_impl_EncodeFn [.agg (f.cs.map .p)] [] fun r h =>
    r = .ret (.tup [.sl 6 1 0 (encB f).length, .p (.bool true)]) ∧ ∃ h0, h = h0 ++ [bysO (encB f)] ∧ h0.length = 6 := by
  refine AC.go k_impl_EncodeFn ?_
  have hal : machOk (aloneF (mostS f.ins) f) = true := by simp [codeOk] at hc; exact hc.1
  have hf := fine_of_alone hal
  have hpos := pos_of_alone hal
  obtain ⟨hn2, hfi⟩ := id hf
  simp -implicitDefEqProofs [F_impl_EncodeFn]
  refine (AC.lift (i_layoutOf1 G hG f hn hlo hc) (by simp [belowL, below]) rfl ?_).mono ?_
  · simp only [List.all_cons, List.all_nil, nofnO_bool, nofnO_ints]; rfl
  rintro r h ⟨rfl, rfl⟩
  simp -implicitDefEqProofs [callR_nxt, shiftO_bool, shiftO_ints, shiftO_fn, shiftO_lay, shiftV, shiftL]
  simp -implicitDefEqProofs [Mfn.cs]
  have hL := longs_len f.ins
  simp only [encB]
  generalize longs f.ins = L at hL ⊢
  have hin : insL f.ins = .lst 5 (f.ins.map Mins.cs) := rfl
  refine loopA (fun i : Nat => tsOf 88 [(1, .ptr 0 3 0 0), (4, .ptr 3 7 0 0), (5, if i = 0 then .nils else .sl 6 1 0 (encT f.ins L i).length), (15, .p (insL f.ins)), (16, .p (.int .i64 f.ins.length)), (17, .p (.int .i64 i))]) (fun i => if i = 0 then encHp f L else encHp f L ++ [bysO (encT f.ins L i)])
    (fun i => i ≤ f.ins.length) (fun i => f.ins.length - i) 0 (by simp) ?_ ?_
  · rw [if_pos rfl, if_pos rfl]
    refine wkt_pick [0, 1, 2, 3, 4, 5] rfl (by decide) (hw_row rfl (by simp [belowL, Mfn.cs]) (hw_dead (by simp) (hw_ok rfl (by simp [-Bool.exists_bool, -Bool.forall_bool, okO, boolO]) (hw_rowr (by simp [layC, below]) (by simp [layC, ren, renL]) (hw_ok rfl (by simp [okO, intsO]) (hw_ok rfl (by simp [okO, intsO]) hw_nil)))))) ?_
    simp [below, ren, hin]
  · intro i hi
    simp -implicitDefEqProofs [hin]
    refine cndb (fun h1 => ?_) (fun h1 => ?_)
    · simp at h1
      have h2 : i < L.length := by omega
      obtain ⟨q1, q2, q3, q4⟩ := hfi _ (List.getElem_mem h1)
      have hg1 := List.getElem?_eq_getElem h1
      have hg2 := List.getElem?_eq_getElem h2
      have hbo : ∀ l, bysO l = .row 1 (l.map fun n => [.p (.int .u8 n)]) := fun _ => rfl
      have hbl : ∀ l, bysL l = .lst 1 (l.map fun n => [.int .u8 n]) := fun _ => rfl
      have hoo : boolO L = .row 1 (L.map fun b => [.p (.bool b)]) := rfl
      have hii : ∀ l, intsO l = .row 1 (l.map fun (n : Nat) => [.p (.int .i64 (n : Int))]) := fun _ => rfl
      have htk : ∀ l : List Int, List.take l.length (l.map fun n => [AV.p (.int .u8 n)]) = l.map fun n => [AV.p (.int .u8 n)] := fun l => List.take_of_length_le (by simp)
      have henc := encT_succ f.ins L i
      have hel := encT_len f.ins L i
      have he0 : encT f.ins L 0 = [] := by simp [encT]
      by_cases hj : jmp f.ins[i] = true
      rotate_left
      · have hjo : (f.ins[i].op == 20 || f.ins[i].op == 21) = false := by simpa [jmp] using hj
        have he : encI f.ins L i = plainB f.ins[i] := by simp [encI, hg1, hg2, hj]
        have hl1 := plainB_len f.ins[i]
        have hp0 : ¬ plainB f.ins[i] = [] := fun e => by rw [e] at hl1; simp at hl1
        rcases Nat.eq_zero_or_pos i with rfl | hz
        · simp -implicitDefEqProofs [hg1, encHp]
          simp -implicitDefEqProofs [Mins.cs]
          refine (i_jumpOp G _).use ?_
          simp -implicitDefEqProofs [hjo]
          refine (i_encoded G f.ins[0] q3 (by simpa using hj) q1 q2).use ?_
          simp -implicitDefEqProofs [hbl, hbo, hp0, htk]
          refine ⟨by omega, 1, h1, by omega, ?_⟩
          rw [if_neg (by omega), if_neg (by omega)]
          refine wkt_pick [0, 1, 2, 3, 4, 5, 7] rfl (by decide) (hw_row rfl (by simp [belowL, Mfn.cs]) (hw_dead (by simp) (hw_ok rfl (by simp [-Bool.exists_bool, -Bool.forall_bool, okO, boolO]) (hw_rowr (by simp [layC, below]) (by simp [layC, ren, renL]) (hw_ok rfl (by simp [okO, intsO]) (hw_ok rfl (by simp [okO, intsO]) (hw_row (by simp [henc, he, he0, Function.comp_def]) (by simp) hw_nil))))))) ?_
          simp [below, ren, henc, he, he0, IntKind.wrap, IntKind.bits, IntKind.signed]
        · have hz1 : ¬ i = 0 := by omega
          simp -implicitDefEqProofs [hz1, hg1, encHp]
          simp -implicitDefEqProofs [Mins.cs]
          refine (i_jumpOp G _).use ?_
          simp -implicitDefEqProofs [hjo]
          refine (i_encoded G f.ins[i] q3 (by simpa using hj) q1 q2).use ?_
          simp -implicitDefEqProofs [hbl, hbo, hp0, htk]
          refine ⟨by omega, i + 1, h1, by omega, ?_⟩
          rw [if_neg (by omega), if_neg (by omega)]
          refine wkt_pick [0, 1, 2, 3, 4, 5, 8] rfl (by decide) (hw_row rfl (by simp [belowL, Mfn.cs]) (hw_dead (by simp) (hw_ok rfl (by simp [-Bool.exists_bool, -Bool.forall_bool, okO, boolO]) (hw_rowr (by simp [layC, below]) (by simp [layC, ren, renL]) (hw_ok rfl (by simp [okO, intsO]) (hw_ok rfl (by simp [okO, intsO]) (hw_row (by simp [henc, he, Function.comp_def]) (by simp) hw_nil))))))) ?_
          simp [below, ren, henc, he, w1 (i := i) (by omega)]
      · have hjo : (f.ins[i].op == 20 || f.ins[i].op == 21) = true := by simpa [jmp] using hj
        have q5 := q4 hj
        simp [inR] at q5
        have hnl : f.ins[i].n.toNat < f.ins.length := by omega
        have hp1 := plcs_get (ins := f.ins) (L := L) hnl
        have hle2 := plc_le (ins := f.ins) (L := L) hL (i := f.ins[i].n.toNat)
        have hoff := fun (h : List AO) e0 e1 e2 => i_offset G (h := h) (id := 3) (sid := 4) (pid := 5) (f := f) (lv := .sl 2 1 0 f.ins.length) (sz := plc f.ins L f.ins.length) (L := L) (i := i) hL hf h1 hj e0 e1 e2
        generalize hp : plc f.ins L f.ins[i].n.toNat = p at hp1 hle2 hoff
        have htm : (p : Int).tmod 256 = (p : Int) % 256 := by rw [show (p : Int).tmod 256 = ((p % 256 : Nat) : Int) from rfl]; omega
        have htd : IntKind.i64.wrap ((p : Int) / 256) = (p : Int) / 256 := i64_small (by omega) (by omega)
        have w148 : IntKind.u8.wrap 148 = 148 := rfl
        have w149 : IntKind.u8.wrap 149 = 149 := rfl
        have w20 : IntKind.u8.wrap 20 = 20 := rfl
        have w21 : IntKind.u8.wrap 21 = 21 := rfl
        have hc2 : f.ins[i].op = 20 ∨ f.ins[i].op = 21 := by simpa [jmp] using hj
        cases hLi : L[i] with
        | true =>
          have he : encI f.ins L i = [u8 (f.ins[i].op + 128)] ++ (if f.ins[i].op = 21 then [u8 f.ins[i].a] else []) ++ [u8 (p % 256 : Nat), u8 (p / 256 : Nat)] := by simp [encI, hg1, hg2, hj, hLi, hp]
          clear hoff
          rcases hc2 with e | e
          · have hjt : (f.ins[i].op == 20 || f.ins[i].op == 21) = true := hjo
            rcases Nat.eq_zero_or_pos i with rfl | hz
            · simp -implicitDefEqProofs [hg1, encHp]
              simp -implicitDefEqProofs [Mins.cs]
              refine (i_jumpOp G _).use ?_
              simp -implicitDefEqProofs [hjo, layC, hbo, hoo, hii, h1, hg2, hLi, hL, hnl, hp1, e, w20, w21, w148, w149, htm, htd, htk]
              refine ⟨⟨by omega, by omega⟩, 1, h1, by omega, ?_⟩
              rw [if_neg (by omega), if_neg (by omega)]
              refine wkt_pick [0, 1, 2, 3, 4, 5, 10] rfl (by decide) (hw_row rfl (by simp [belowL, Mfn.cs]) (hw_dead (by simp) (hw_ok rfl (by simp [-Bool.exists_bool, -Bool.forall_bool, okO, boolO]) (hw_rowr (by simp [layC, below]) (by simp [layC, ren, renL]) (hw_ok rfl (by simp [okO, intsO]) (hw_ok rfl (by simp [okO, intsO]) (hw_row (by simp [w20, w21, w148, w149, henc, he, e, u8, htm, htd, List.take_of_length_le, he0]) (by simp) hw_nil))))))) ?_
              simp [below, ren, henc, he, e, he0, IntKind.wrap, IntKind.bits, IntKind.signed]
            · have hz1 : ¬ i = 0 := by omega
              simp -implicitDefEqProofs [hz1, hg1, encHp]
              simp -implicitDefEqProofs [Mins.cs]
              refine (i_jumpOp G _).use ?_
              simp -implicitDefEqProofs [hjo, layC, hbo, hoo, hii, h1, hg2, hLi, hL, hnl, hp1, e, w20, w21, w148, w149, htm, htd, htk]
              refine ⟨by omega, ⟨by omega, by omega⟩, by omega, i + 1, h1, by omega, ?_⟩
              rw [if_neg (by omega), if_neg (by omega)]
              refine wkt_pick [0, 1, 2, 3, 4, 5, 11] rfl (by decide) (hw_row rfl (by simp [belowL, Mfn.cs]) (hw_dead (by simp) (hw_ok rfl (by simp [-Bool.exists_bool, -Bool.forall_bool, okO, boolO]) (hw_rowr (by simp [layC, below]) (by simp [layC, ren, renL]) (hw_ok rfl (by simp [okO, intsO]) (hw_ok rfl (by simp [okO, intsO]) (hw_row (by simp [w20, w21, w148, w149, henc, he, e, u8, htm, htd, List.take_of_length_le]) (by simp) hw_nil))))))) ?_
              simp [below, ren, henc, he, e, w1 (i := i) (by omega)]
          · have hjt : (f.ins[i].op == 20 || f.ins[i].op == 21) = true := hjo
            rcases Nat.eq_zero_or_pos i with rfl | hz
            · simp -implicitDefEqProofs [hg1, encHp]
              simp -implicitDefEqProofs [Mins.cs]
              refine (i_jumpOp G _).use ?_
              simp -implicitDefEqProofs [hjo, layC, hbo, hoo, hii, h1, hg2, hLi, hL, hnl, hp1, e, w20, w21, w148, w149, htm, htd, htk]
              refine ⟨⟨by omega, by omega⟩, 1, h1, by omega, ?_⟩
              rw [if_neg (by omega), if_neg (by omega)]
              refine wkt_pick [0, 1, 2, 3, 4, 5, 12] rfl (by decide) (hw_row rfl (by simp [belowL, Mfn.cs]) (hw_dead (by simp) (hw_ok rfl (by simp [-Bool.exists_bool, -Bool.forall_bool, okO, boolO]) (hw_rowr (by simp [layC, below]) (by simp [layC, ren, renL]) (hw_ok rfl (by simp [okO, intsO]) (hw_ok rfl (by simp [okO, intsO]) (hw_row (by simp [w20, w21, w148, w149, henc, he, e, u8, htm, htd, List.take_of_length_le, he0]) (by simp) hw_nil))))))) ?_
              simp [below, ren, henc, he, e, he0, IntKind.wrap, IntKind.bits, IntKind.signed]
            · have hz1 : ¬ i = 0 := by omega
              simp -implicitDefEqProofs [hz1, hg1, encHp]
              simp -implicitDefEqProofs [Mins.cs]
              refine (i_jumpOp G _).use ?_
              simp -implicitDefEqProofs [hjo, layC, hbo, hoo, hii, h1, hg2, hLi, hL, hnl, hp1, e, w20, w21, w148, w149, htm, htd, htk]
              refine ⟨by omega, by omega, ⟨by omega, by omega⟩, by omega, i + 1, h1, by omega, ?_⟩
              rw [if_neg (by omega), if_neg (by omega)]
              refine wkt_pick [0, 1, 2, 3, 4, 5, 13] rfl (by decide) (hw_row rfl (by simp [belowL, Mfn.cs]) (hw_dead (by simp) (hw_ok rfl (by simp [-Bool.exists_bool, -Bool.forall_bool, okO, boolO]) (hw_rowr (by simp [layC, below]) (by simp [layC, ren, renL]) (hw_ok rfl (by simp [okO, intsO]) (hw_ok rfl (by simp [okO, intsO]) (hw_row (by simp [w20, w21, w148, w149, henc, he, e, u8, htm, htd, List.take_of_length_le]) (by simp) hw_nil))))))) ?_
              simp [below, ren, henc, he, e, w1 (i := i) (by omega)]
        | false =>
          have he : encI f.ins L i = [u8 f.ins[i].op] ++ (if f.ins[i].op = 21 then [u8 f.ins[i].a] else []) ++ [u8 ((p : Int) - plc f.ins L i - sizeB f.ins[i] false)] := by simp [encI, hg1, hg2, hj, hLi, hp]
          rw [hLi] at hoff
          rcases hc2 with e | e
          · have hjt : (f.ins[i].op == 20 || f.ins[i].op == 21) = true := hjo
            rcases Nat.eq_zero_or_pos i with rfl | hz
            · simp -implicitDefEqProofs [hg1, encHp]
              simp -implicitDefEqProofs [Mins.cs]
              refine (i_jumpOp G _).use ?_
              simp -implicitDefEqProofs [hjo, layC, hbo, hoo, hii, h1, hg2, hLi, hL, hnl, hp1, e, w20, w21, w148, w149, htm, htd, htk]
              refine ⟨⟨by omega, by omega⟩, ?_⟩
              refine AC.mono (hoff _ rfl rfl rfl) ?_
              rintro r h ⟨rfl, rfl⟩
              simp -implicitDefEqProofs [callR_nxt, hbo, htk]
              refine ⟨1, h1, by omega, ?_⟩
              rw [if_neg (by omega), if_neg (by omega)]
              refine wkt_pick [0, 1, 2, 3, 4, 5, 10] rfl (by decide) (hw_row rfl (by simp [belowL, Mfn.cs]) (hw_dead (by simp) (hw_ok rfl (by simp [-Bool.exists_bool, -Bool.forall_bool, okO, boolO]) (hw_rowr (by simp [layC, below]) (by simp [layC, ren, renL]) (hw_ok rfl (by simp [okO, intsO]) (hw_ok rfl (by simp [okO, intsO]) (hw_row (by simp [w20, w21, w148, w149, henc, he, e, u8, htm, htd, List.take_of_length_le, he0]) (by simp) hw_nil))))))) ?_
              simp [below, ren, henc, he, e, he0, IntKind.wrap, IntKind.bits, IntKind.signed]
            · have hz1 : ¬ i = 0 := by omega
              simp -implicitDefEqProofs [hz1, hg1, encHp]
              simp -implicitDefEqProofs [Mins.cs]
              refine (i_jumpOp G _).use ?_
              simp -implicitDefEqProofs [hjo, layC, hbo, hoo, hii, h1, hg2, hLi, hL, hnl, hp1, e, w20, w21, w148, w149, htm, htd, htk]
              refine ⟨by omega, ⟨by omega, by omega⟩, ?_⟩
              refine AC.mono (hoff _ rfl rfl rfl) ?_
              rintro r h ⟨rfl, rfl⟩
              simp -implicitDefEqProofs [callR_nxt, hbo, htk]
              refine ⟨by omega, i + 1, h1, by omega, ?_⟩
              rw [if_neg (by omega), if_neg (by omega)]
              refine wkt_pick [0, 1, 2, 3, 4, 5, 11] rfl (by decide) (hw_row rfl (by simp [belowL, Mfn.cs]) (hw_dead (by simp) (hw_ok rfl (by simp [-Bool.exists_bool, -Bool.forall_bool, okO, boolO]) (hw_rowr (by simp [layC, below]) (by simp [layC, ren, renL]) (hw_ok rfl (by simp [okO, intsO]) (hw_ok rfl (by simp [okO, intsO]) (hw_row (by simp [w20, w21, w148, w149, henc, he, e, u8, htm, htd, List.take_of_length_le]) (by simp) hw_nil))))))) ?_
              simp [below, ren, henc, he, e, w1 (i := i) (by omega)]
          · have hjt : (f.ins[i].op == 20 || f.ins[i].op == 21) = true := hjo
            rcases Nat.eq_zero_or_pos i with rfl | hz
            · simp -implicitDefEqProofs [hg1, encHp]
              simp -implicitDefEqProofs [Mins.cs]
              refine (i_jumpOp G _).use ?_
              simp -implicitDefEqProofs [hjo, layC, hbo, hoo, hii, h1, hg2, hLi, hL, hnl, hp1, e, w20, w21, w148, w149, htm, htd, htk]
              refine ⟨⟨by omega, by omega⟩, ?_⟩
              refine AC.mono (hoff _ rfl rfl rfl) ?_
              rintro r h ⟨rfl, rfl⟩
              simp -implicitDefEqProofs [callR_nxt, hbo, htk]
              refine ⟨1, h1, by omega, ?_⟩
              rw [if_neg (by omega), if_neg (by omega)]
              refine wkt_pick [0, 1, 2, 3, 4, 5, 12] rfl (by decide) (hw_row rfl (by simp [belowL, Mfn.cs]) (hw_dead (by simp) (hw_ok rfl (by simp [-Bool.exists_bool, -Bool.forall_bool, okO, boolO]) (hw_rowr (by simp [layC, below]) (by simp [layC, ren, renL]) (hw_ok rfl (by simp [okO, intsO]) (hw_ok rfl (by simp [okO, intsO]) (hw_row (by simp [w20, w21, w148, w149, henc, he, e, u8, htm, htd, List.take_of_length_le, he0]) (by simp) hw_nil))))))) ?_
              simp [below, ren, henc, he, e, he0, IntKind.wrap, IntKind.bits, IntKind.signed]
            · have hz1 : ¬ i = 0 := by omega
              simp -implicitDefEqProofs [hz1, hg1, encHp]
              simp -implicitDefEqProofs [Mins.cs]
              refine (i_jumpOp G _).use ?_
              simp -implicitDefEqProofs [hjo, layC, hbo, hoo, hii, h1, hg2, hLi, hL, hnl, hp1, e, w20, w21, w148, w149, htm, htd, htk]
              refine ⟨by omega, by omega, ⟨by omega, by omega⟩, ?_⟩
              refine AC.mono (hoff _ rfl rfl rfl) ?_
              rintro r h ⟨rfl, rfl⟩
              simp -implicitDefEqProofs [callR_nxt, hbo, htk]
              refine ⟨by omega, i + 1, h1, by omega, ?_⟩
              rw [if_neg (by omega), if_neg (by omega)]
              refine wkt_pick [0, 1, 2, 3, 4, 5, 13] rfl (by decide) (hw_row rfl (by simp [belowL, Mfn.cs]) (hw_dead (by simp) (hw_ok rfl (by simp [-Bool.exists_bool, -Bool.forall_bool, okO, boolO]) (hw_rowr (by simp [layC, below]) (by simp [layC, ren, renL]) (hw_ok rfl (by simp [okO, intsO]) (hw_ok rfl (by simp [okO, intsO]) (hw_row (by simp [w20, w21, w148, w149, henc, he, e, u8, htm, htd, List.take_of_length_le]) (by simp) hw_nil))))))) ?_
              simp [below, ren, henc, he, e, w1 (i := i) (by omega)]
    · simp at h1
      have hie : i = f.ins.length := by omega
      subst hie
      have hz1 : ¬ f.ins.length = 0 := by omega
      simp -implicitDefEqProofs [hz1]
      simp [encHp]
end Go.Proofs.YtbbobekgnclkfaaDoor
namespace Go.Proofs.YtbbobekgnclkfaaDoor
open Go Go.Aw
set_option maxRecDepth 100000
set_option maxHeartbeats 4000000
variable (G : Glob) (hG : G g_forms = some pvForms)
section
include hG
theorem i_EncodeFn1 (f : Mfn) (hn : f.ins.length ≤ 1000000) (hlo : ∀ x ∈ f.ins, x.op = 14 → -9223372036854775808 ≤ x.n) (hc : codeOk f = true) : AC Tryd.prog G n_impl_EncodeFn [.agg (f.cs.map .p)] [] fun r h =>
    r = .ret (.tup [.sl 0 1 0 (encB f).length, .p (.bool true)]) ∧ h = [bysO (encB f)] := by
  refine (o_EncodeFn1 G hG f hn hlo hc).gc (fun t v h ⟨e, _⟩ => by cases e) fun v h ⟨e1, h0, e2, e3⟩ => ?_
  cases e1; subst e2
  exact ⟨.tup [.sl 0 1 0 (encB f).length, .p (.bool true)], [bysO (encB f)], ⟨[6], by simp, by simp, by simp, by simp [below], by simp [ren, renL], hw_row (by rw [List.getElem?_append_right (by omega), e3]; rfl) (by simp [bysO]) hw_nil⟩, rfl, rfl⟩
theorem i_EncodeFn2 (f : Mfn) (hn : f.ins.length ≤ 1000000) (hlo : ∀ x ∈ f.ins, x.op = 14 → -9223372036854775808 ≤ x.n) (hc : ¬ codeOk f = true) : VF Tryd.prog G n_impl_EncodeFn [.agg (f.cs.map .p)] (.tup [.nils, .p (.bool false)]) := by
  refine AC.go k_impl_EncodeFn ?_
  simp -implicitDefEqProofs [F_impl_EncodeFn]
  refine (i_layoutOf2 G hG f hn hlo hc).use ?_
  simp -implicitDefEqProofs []
end
variable (hM : G g_magic = some pvMagic)
include hG hM
end Go.Proofs.YtbbobekgnclkfaaDoor
namespace Go.Proofs.YtbbobekgnclkfaaDoor
open Go Go.Aw
set_option maxRecDepth 100000
set_option maxHeartbeats 4000000
def LX (b : AO) (mid os : List AO) : List AO := b :: (mid ++ os)
theorem LX_k (b : AO) (mid os : List AO) {m : Nat} (hm : mid.length = m) (k : Nat) : (LX b mid os)[m + 1 + k]? = os[k]? := by
  subst hm
  rw [LX, show mid.length + 1 + k = (mid.length + k) + 1 by omega, List.getElem?_cons_succ, List.getElem?_append_right (by omega)]
  congr 1; omega
theorem LX_app (b : AO) (mid os l : List AO) : LX b mid os ++ l = LX b mid (os ++ l) := by simp [LX]
theorem LX_set (b : AO) (mid os : List AO) {m : Nat} (hm : mid.length = m) (k : Nat) (o : AO) : (LX b mid os).set (m + 1 + k) o = LX b mid (os.set k o) := by
  subst hm
  rw [LX, show mid.length + 1 + k = (mid.length + k) + 1 by omega, List.set_cons_succ, List.set_append_right _ _ (by omega), LX]
  congr 3; omega
section
variable {b : AO} {mid : List AO} {n : Nat} (hm : mid.length = n + 1)
include hm
@[simp high] theorem LX_k0 (o : AO) (os : List AO) : (LX b mid (o :: os))[n + 2]? = some o := LX_k b mid _ hm 0
@[simp high] theorem LX_k1 (o p : AO) (os : List AO) : (LX b mid (o :: p :: os))[n + 3]? = some p := LX_k b mid _ hm 1
@[simp high] theorem LX_k2 (o p q : AO) (os : List AO) : (LX b mid (o :: p :: q :: os))[n + 4]? = some q := LX_k b mid _ hm 2
@[simp high] theorem LX_k3 (o p q r : AO) (os : List AO) : (LX b mid (o :: p :: q :: r :: os))[n + 5]? = some r := LX_k b mid _ hm 3
@[simp high] theorem LX_s0 (o o' : AO) (os : List AO) : (LX b mid (o :: os)).set (n + 2) o' = LX b mid (o' :: os) := LX_set b mid _ hm 0 o'
@[simp high] theorem LX_s1 (o p o' : AO) (os : List AO) : (LX b mid (o :: p :: os)).set (n + 3) o' = LX b mid (o :: o' :: os) := LX_set b mid _ hm 1 o'
end
@[simp high] theorem LX_00 (b : AO) (mid os : List AO) : (LX b mid os)[0]? = some b := rfl
attribute [simp] LX_app
theorem shiftO_ins (n : Nat) (L : List Mins) : shiftO n (insO L) = insO L := by
  simp only [shiftO, insO, List.map_map]; rfl
variable (G : Glob)
end Go.Proofs.YtbbobekgnclkfaaDoor
namespace Go.Proofs.YtbbobekgnclkfaaDoor
open Go Go.Aw
set_option maxRecDepth 100000
set_option maxHeartbeats 4000000
variable (G : Glob)
def szW (xs : List (List UInt8)) : Nat := xs.length + (xs.map List.length).sum
def szO (o : Obj) : Nat := o.name.length + o.code.length + o.calls.length + szW o.names
structure ObjSm (o : Obj) : Prop where
  name : o.name.length ≤ 9223372036854775807
  code : o.code.length ≤ 9223372036854775807
  calls : o.calls.length ≤ 9223372036854775807
  names : o.names.length ≤ 9223372036854775807
  words : ∀ x ∈ o.names, x.length ≤ 9223372036854775807
  bytes : BytesOk o.code
def numO (l : List Int) : AO := .row 1 (l.map fun n => [.p (.int .i64 n)])
theorem numO_view {l : List Int} {id : Nat} {h : List AO} (e : h[id]? = some (numO l)) : View h (.sl id 1 0 l.length) (numL l) := by
  have := view_row (h := h) (id := id) (sz := 1) (n := l.length) (ls := l.map fun n => [.int .i64 n]) (by rw [e, numO]; simp) (by simp) (fun x hx => by obtain ⟨b, _, rfl⟩ := List.mem_map.1 hx; rfl)
  exact this
def strO (l : List (List UInt8)) : AO := .row 1 (l.map fun n => [.p (.str n)])
theorem strO_view {l : List (List UInt8)} {id : Nat} {h : List AO} (e : h[id]? = some (strO l)) : View h (.sl id 1 0 l.length) (strL l) := by
  have := view_row (h := h) (id := id) (sz := 1) (n := l.length) (ls := l.map fun n => [.str n]) (by rw [e, strO]; simp) (by simp) (fun x hx => by obtain ⟨b, _, rfl⟩ := List.mem_map.1 hx; rfl)
  exact this
end Go.Proofs.YtbbobekgnclkfaaDoor
