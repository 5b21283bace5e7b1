/-
  The compiled texts of functions, printed by a program.
-/
import Derived.Test.YtbbobekgnclkfaaDoorRows
import Derived.Test.YtbbobekgnclkfaaDoorL6
namespace Go.Proofs.YtbbobekgnclkfaaDoor
open Go Go.Aw
set_option maxRecDepth 100000
abbrev n_laws_szMinsS : FuncId := 118
abbrev n_laws_szMfn : FuncId := 80
abbrev n_laws_szMfnS : FuncId := 40
abbrev n_laws_szMach : FuncId := 9
abbrev n_laws_toMins : FuncId := 138
abbrev n_laws_toMinsS : FuncId := 123
abbrev n_laws_toMfn : FuncId := 89
abbrev n_laws_toMfnS : FuncId := 43
abbrev n_laws_toMach : FuncId := 11
abbrev n_spec_l1In : FuncId := 64
abbrev n_spec_l22Word : FuncId := 119
abbrev n_spec_l22Field : FuncId := 121
abbrev n_spec_l22Rest : FuncId := 120
abbrev n_spec_l22Ins : FuncId := 81
abbrev n_spec_MachValid : FuncId := 41
abbrev n_spec_l25Alone : FuncId := 122
abbrev n_spec_l24Jumps : FuncId := 85
abbrev n_spec_l25Plain : FuncId := 86
abbrev n_spec_l5Truth : FuncId := 87
abbrev n_spec_l25Size : FuncId := 88
abbrev n_spec_l25Places : FuncId := 84
abbrev n_spec_l25Long : FuncId := 83
abbrev n_spec_l25Can : FuncId := 82
abbrev n_spec_EncodeFn : FuncId := 42
abbrev n_spec_ImageOf : FuncId := 10
abbrev n_impl_within : FuncId := 58
abbrev n_slices_IndexFunc_impl_Mins : FuncId := 124
abbrev n_slices_ContainsFunc_impl_Mins : FuncId := 90
abbrev n_impl_formOf : FuncId := 125
abbrev n_impl_minsOk : FuncId := 92
abbrev n_impl_MachValid_1 : FuncId := 91
abbrev n_impl_MachValid : FuncId := 44
abbrev n_slices_Clone_byte : FuncId := 45
abbrev n_math_bits_Mul32 : FuncId := 140
abbrev n_math_bits_Mul64 : FuncId := 141
abbrev n_math_bits_Mul : FuncId := 132
abbrev n_slices_Repeat_impl_Mfn : FuncId := 107
abbrev n_impl_jumpOp : FuncId := 93
abbrev n_impl_shapeOf : FuncId := 126
abbrev n_impl_encoded : FuncId := 94
abbrev n_impl_layout_settle : FuncId := 108
abbrev n_impl_layout_offset : FuncId := 95
abbrev n_impl_layoutOf : FuncId := 61
abbrev n_impl_EncodeFn : FuncId := 46
abbrev n_impl_ImageOf : FuncId := 12
abbrev n_laws_eqByteS : FuncId := 13
abbrev n_laws_eqMins : FuncId := 139
abbrev n_laws_eqMinsS : FuncId := 127
abbrev n_laws_eqMfn : FuncId := 96
abbrev n_laws_eqMfnS : FuncId := 47
abbrev n_laws_eqMach : FuncId := 14
abbrev n_laws_markMinsS : FuncId := 97
abbrev n_laws_markMfnS : FuncId := 48
abbrev n_laws_markMach : FuncId := 15
abbrev n_laws_markByteS : FuncId := 16
abbrev n_laws_heldByteS : FuncId := 17
abbrev n_laws_FnExactImageOf : FuncId := 3
def F_laws_szMinsS : FK := ⟨12, [.t 4],
 .seq (.reg [⟨(some 4), none, .mov (.c (.p (.int .i64 0)))⟩])
 (.seq (.reg [⟨(some 5), none, .mov (.t 1)⟩,
   ⟨(some 6), none, .mov (.t 0)⟩,
   ⟨(some 7), none, .len false (.t 6)⟩,
   ⟨(some 8), none, .bin .sub (.t 5) (.t 7)⟩,
   ⟨(some 1), none, .mov (.t 8)⟩])
 (.seq (.seq (.reg [⟨(some 9), none, .mov (.t 1)⟩,
   ⟨(some 10), none, .bin .lss (.t 9) (.c (.p (.int .i64 0)))⟩])
 (.cond (.t 10)
  (.seq (.reg [⟨(some 4), none, .mov (.c (.p (.int .i64 (-1))))⟩])
  (.ret))
  (.skip)))
 (.seq (.reg [⟨(some 11), none, .mov (.t 1)⟩,
   ⟨(some 4), none, .mov (.t 11)⟩])
 (.ret))))⟩
theorem k_laws_szMinsS : compF Tryd.prog n_laws_szMinsS = some F_laws_szMinsS := by kernel_rfl

def F_laws_szMfn : FK := ⟨12, [.t 4],
 .seq (.reg [⟨(some 2), none, .box 3 (.t 0)⟩,
   ⟨(some 4), none, .mov (.c (.p (.int .i64 0)))⟩])
 (.seq (.reg [⟨(some 5), none, .fldA 2 (.t 2)⟩,
   ⟨(some 6), none, .ld none (.t 5)⟩,
   ⟨(some 7), none, .mov (.t 1)⟩,
   ⟨(some 8), none, .call n_laws_szMinsS [(.t 6), (.t 7)]⟩,
   ⟨(some 1), none, .mov (.t 8)⟩])
 (.seq (.seq (.reg [⟨(some 9), none, .mov (.t 1)⟩,
   ⟨(some 10), none, .bin .lss (.t 9) (.c (.p (.int .i64 0)))⟩])
 (.cond (.t 10)
  (.seq (.reg [⟨(some 4), none, .mov (.c (.p (.int .i64 (-1))))⟩])
  (.ret))
  (.skip)))
 (.seq (.reg [⟨(some 11), none, .mov (.t 1)⟩,
   ⟨(some 4), none, .mov (.t 11)⟩])
 (.ret))))⟩
theorem k_laws_szMfn : compF Tryd.prog n_laws_szMfn = some F_laws_szMfn := by kernel_rfl

def F_laws_szMfnS : FK := ⟨27, [.t 4],
 .seq (.reg [⟨(some 4), none, .mov (.c (.p (.int .i64 0)))⟩])
 (.seq (.reg [⟨(some 6), none, .mov (.t 1)⟩,
   ⟨(some 7), none, .mov (.t 0)⟩,
   ⟨(some 8), none, .len false (.t 7)⟩,
   ⟨(some 9), none, .bin .sub (.t 6) (.t 8)⟩,
   ⟨(some 1), none, .mov (.t 9)⟩])
 (.seq (.seq (.reg [⟨(some 10), none, .mov (.t 1)⟩,
   ⟨(some 11), none, .bin .lss (.t 10) (.c (.p (.int .i64 0)))⟩])
 (.cond (.t 11)
  (.seq (.reg [⟨(some 4), none, .mov (.c (.p (.int .i64 (-1))))⟩])
  (.ret))
  (.skip)))
 (.seq (.seq (.reg [⟨(some 5), none, .mov (.c (.p (.int .i64 0)))⟩])
 (.blk 0 (.loop (.seq (.seq (.reg [⟨(some 12), none, .mov (.t 5)⟩,
   ⟨(some 13), none, .mov (.t 0)⟩,
   ⟨(some 14), none, .len false (.t 13)⟩,
   ⟨(some 15), none, .bin .lss (.t 12) (.t 14)⟩])
 (.cond (.t 15)
  (.skip)
  (.exit 0)))
 (.seq (.blk 1 (.seq (.reg [⟨(some 18), none, .mov (.t 0)⟩,
   ⟨(some 19), none, .mov (.t 5)⟩,
   ⟨(some 20), none, .idxS 3 (.t 18) (.t 19)⟩,
   ⟨(some 21), none, .ld (some 3) (.t 20)⟩,
   ⟨(some 22), none, .mov (.t 1)⟩,
   ⟨(some 23), none, .call n_laws_szMfn [(.t 21), (.t 22)]⟩,
   ⟨(some 1), none, .mov (.t 23)⟩])
 (.seq (.reg [⟨(some 24), none, .mov (.t 1)⟩,
   ⟨(some 25), none, .bin .lss (.t 24) (.c (.p (.int .i64 0)))⟩])
 (.cond (.t 25)
  (.seq (.reg [⟨(some 4), none, .mov (.c (.p (.int .i64 (-1))))⟩])
  (.ret))
  (.skip)))))
 (.reg [⟨(some 16), none, .mov (.t 5)⟩,
   ⟨(some 17), none, .bin .add (.t 16) (.c (.p (.int .i64 1)))⟩,
   ⟨(some 5), none, .mov (.t 17)⟩]))))))
 (.seq (.reg [⟨(some 26), none, .mov (.t 1)⟩,
   ⟨(some 4), none, .mov (.t 26)⟩])
 (.ret)))))⟩
theorem k_laws_szMfnS : compF Tryd.prog n_laws_szMfnS = some F_laws_szMfnS := by kernel_rfl

def F_laws_szMach : FK := ⟨12, [.t 4],
 .seq (.reg [⟨(some 2), none, .box 1 (.t 0)⟩,
   ⟨(some 4), none, .mov (.c (.p (.int .i64 0)))⟩])
 (.seq (.reg [⟨(some 5), none, .fldA 0 (.t 2)⟩,
   ⟨(some 6), none, .ld none (.t 5)⟩,
   ⟨(some 7), none, .mov (.t 1)⟩,
   ⟨(some 8), none, .call n_laws_szMfnS [(.t 6), (.t 7)]⟩,
   ⟨(some 1), none, .mov (.t 8)⟩])
 (.seq (.seq (.reg [⟨(some 9), none, .mov (.t 1)⟩,
   ⟨(some 10), none, .bin .lss (.t 9) (.c (.p (.int .i64 0)))⟩])
 (.cond (.t 10)
  (.seq (.reg [⟨(some 4), none, .mov (.c (.p (.int .i64 (-1))))⟩])
  (.ret))
  (.skip)))
 (.seq (.reg [⟨(some 11), none, .mov (.t 1)⟩,
   ⟨(some 4), none, .mov (.t 11)⟩])
 (.ret))))⟩
theorem k_laws_szMach : compF Tryd.prog n_laws_szMach = some F_laws_szMach := by kernel_rfl

def F_laws_toMins : FK := ⟨20, [.c 2 (some 5)],
 .seq (.reg [⟨(some 1), none, .box 5 (.t 0)⟩,
   ⟨(some 2), none, .alloc [(.p (.int .i64 0)), (.p (.int .i64 0)), (.p (.int .i64 0)), (.p (.int .i64 0)), (.p (.int .i64 0))]⟩])
 (.seq (.reg [⟨(some 3), none, .alloc [(.p (.int .i64 0)), (.p (.int .i64 0)), (.p (.int .i64 0)), (.p (.int .i64 0)), (.p (.int .i64 0))]⟩])
 (.seq (.reg [⟨(some 4), none, .fldA 0 (.t 1)⟩,
   ⟨(some 5), none, .ld none (.t 4)⟩,
   ⟨(some 6), none, .fldA 0 (.t 3)⟩,
   ⟨none, none, .st 1 (.t 6) (.t 5)⟩])
 (.seq (.reg [⟨(some 7), none, .fldA 1 (.t 1)⟩,
   ⟨(some 8), none, .ld none (.t 7)⟩,
   ⟨(some 9), none, .fldA 1 (.t 3)⟩,
   ⟨none, none, .st 1 (.t 9) (.t 8)⟩])
 (.seq (.reg [⟨(some 10), none, .fldA 2 (.t 1)⟩,
   ⟨(some 11), none, .ld none (.t 10)⟩,
   ⟨(some 12), none, .fldA 2 (.t 3)⟩,
   ⟨none, none, .st 1 (.t 12) (.t 11)⟩])
 (.seq (.reg [⟨(some 13), none, .fldA 3 (.t 1)⟩,
   ⟨(some 14), none, .ld none (.t 13)⟩,
   ⟨(some 15), none, .fldA 3 (.t 3)⟩,
   ⟨none, none, .st 1 (.t 15) (.t 14)⟩])
 (.seq (.reg [⟨(some 16), none, .fldA 4 (.t 1)⟩,
   ⟨(some 17), none, .ld none (.t 16)⟩,
   ⟨(some 18), none, .fldA 4 (.t 3)⟩,
   ⟨none, none, .st 1 (.t 18) (.t 17)⟩])
 (.seq (.reg [⟨(some 19), none, .ld (some 5) (.t 3)⟩,
   ⟨none, none, .st 5 (.t 2) (.t 19)⟩])
 (.ret))))))))⟩
theorem k_laws_toMins : compF Tryd.prog n_laws_toMins = some F_laws_toMins := by kernel_rfl

def F_laws_toMinsS : FK := ⟨23, [.t 2],
 .seq (.reg [⟨(some 2), none, .mov (.c .nils)⟩])
 (.seq (.reg [⟨(some 5), none, .mov (.t 0)⟩,
   ⟨(some 6), none, .len false (.t 5)⟩,
   ⟨(some 7), none, .mks 5 40 [(.p (.int .i64 0)), (.p (.int .i64 0)), (.p (.int .i64 0)), (.p (.int .i64 0)), (.p (.int .i64 0))] (.t 6) (.t 6)⟩,
   ⟨(some 3), none, .mov (.t 7)⟩])
 (.seq (.seq (.reg [⟨(some 4), none, .mov (.c (.p (.int .i64 0)))⟩])
 (.blk 0 (.loop (.seq (.seq (.reg [⟨(some 8), none, .mov (.t 4)⟩,
   ⟨(some 9), none, .mov (.t 0)⟩,
   ⟨(some 10), none, .len false (.t 9)⟩,
   ⟨(some 11), none, .bin .lss (.t 8) (.t 10)⟩])
 (.cond (.t 11)
  (.skip)
  (.exit 0)))
 (.seq (.blk 1 (.reg [⟨(some 14), none, .mov (.t 3)⟩,
   ⟨(some 15), none, .mov (.t 4)⟩,
   ⟨(some 16), none, .mov (.t 0)⟩,
   ⟨(some 17), none, .mov (.t 4)⟩,
   ⟨(some 18), none, .idxS 5 (.t 16) (.t 17)⟩,
   ⟨(some 19), none, .ld (some 5) (.t 18)⟩,
   ⟨(some 20), none, .call n_laws_toMins [(.t 19)]⟩,
   ⟨(some 21), none, .idxS 5 (.t 14) (.t 15)⟩,
   ⟨none, none, .st 5 (.t 21) (.t 20)⟩]))
 (.reg [⟨(some 12), none, .mov (.t 4)⟩,
   ⟨(some 13), none, .bin .add (.t 12) (.c (.p (.int .i64 1)))⟩,
   ⟨(some 4), none, .mov (.t 13)⟩]))))))
 (.seq (.reg [⟨(some 22), none, .mov (.t 3)⟩,
   ⟨(some 2), none, .mov (.t 22)⟩])
 (.ret))))⟩
theorem k_laws_toMinsS : compF Tryd.prog n_laws_toMinsS = some F_laws_toMinsS := by kernel_rfl

def F_laws_toMfn : FK := ⟨15, [.c 2 (some 3)],
 .seq (.reg [⟨(some 1), none, .box 3 (.t 0)⟩,
   ⟨(some 2), none, .alloc [(.p (.int .i64 0)), (.p (.int .i64 0)), .nils]⟩])
 (.seq (.reg [⟨(some 3), none, .alloc [(.p (.int .i64 0)), (.p (.int .i64 0)), .nils]⟩])
 (.seq (.reg [⟨(some 4), none, .fldA 0 (.t 1)⟩,
   ⟨(some 5), none, .ld none (.t 4)⟩,
   ⟨(some 6), none, .fldA 0 (.t 3)⟩,
   ⟨none, none, .st 1 (.t 6) (.t 5)⟩])
 (.seq (.reg [⟨(some 7), none, .fldA 1 (.t 1)⟩,
   ⟨(some 8), none, .ld none (.t 7)⟩,
   ⟨(some 9), none, .fldA 1 (.t 3)⟩,
   ⟨none, none, .st 1 (.t 9) (.t 8)⟩])
 (.seq (.reg [⟨(some 10), none, .fldA 2 (.t 1)⟩,
   ⟨(some 11), none, .ld none (.t 10)⟩,
   ⟨(some 12), none, .call n_laws_toMinsS [(.t 11)]⟩,
   ⟨(some 13), none, .fldA 2 (.t 3)⟩,
   ⟨none, none, .st 1 (.t 13) (.t 12)⟩])
 (.seq (.reg [⟨(some 14), none, .ld (some 3) (.t 3)⟩,
   ⟨none, none, .st 3 (.t 2) (.t 14)⟩])
 (.ret))))))⟩
theorem k_laws_toMfn : compF Tryd.prog n_laws_toMfn = some F_laws_toMfn := by kernel_rfl

def F_laws_toMfnS : FK := ⟨23, [.t 2],
 .seq (.reg [⟨(some 2), none, .mov (.c .nils)⟩])
 (.seq (.reg [⟨(some 5), none, .mov (.t 0)⟩,
   ⟨(some 6), none, .len false (.t 5)⟩,
   ⟨(some 7), none, .mks 3 40 [(.p (.int .i64 0)), (.p (.int .i64 0)), .nils] (.t 6) (.t 6)⟩,
   ⟨(some 3), none, .mov (.t 7)⟩])
 (.seq (.seq (.reg [⟨(some 4), none, .mov (.c (.p (.int .i64 0)))⟩])
 (.blk 0 (.loop (.seq (.seq (.reg [⟨(some 8), none, .mov (.t 4)⟩,
   ⟨(some 9), none, .mov (.t 0)⟩,
   ⟨(some 10), none, .len false (.t 9)⟩,
   ⟨(some 11), none, .bin .lss (.t 8) (.t 10)⟩])
 (.cond (.t 11)
  (.skip)
  (.exit 0)))
 (.seq (.blk 1 (.reg [⟨(some 14), none, .mov (.t 3)⟩,
   ⟨(some 15), none, .mov (.t 4)⟩,
   ⟨(some 16), none, .mov (.t 0)⟩,
   ⟨(some 17), none, .mov (.t 4)⟩,
   ⟨(some 18), none, .idxS 3 (.t 16) (.t 17)⟩,
   ⟨(some 19), none, .ld (some 3) (.t 18)⟩,
   ⟨(some 20), none, .call n_laws_toMfn [(.t 19)]⟩,
   ⟨(some 21), none, .idxS 3 (.t 14) (.t 15)⟩,
   ⟨none, none, .st 3 (.t 21) (.t 20)⟩]))
 (.reg [⟨(some 12), none, .mov (.t 4)⟩,
   ⟨(some 13), none, .bin .add (.t 12) (.c (.p (.int .i64 1)))⟩,
   ⟨(some 4), none, .mov (.t 13)⟩]))))))
 (.seq (.reg [⟨(some 22), none, .mov (.t 3)⟩,
   ⟨(some 2), none, .mov (.t 22)⟩])
 (.ret))))⟩
theorem k_laws_toMfnS : compF Tryd.prog n_laws_toMfnS = some F_laws_toMfnS := by kernel_rfl

def F_laws_toMach : FK := ⟨9, [.c 2 (some 1)],
 .seq (.reg [⟨(some 1), none, .box 1 (.t 0)⟩,
   ⟨(some 2), none, .alloc [.nils]⟩])
 (.seq (.reg [⟨(some 3), none, .alloc [.nils]⟩])
 (.seq (.reg [⟨(some 4), none, .fldA 0 (.t 1)⟩,
   ⟨(some 5), none, .ld none (.t 4)⟩,
   ⟨(some 6), none, .call n_laws_toMfnS [(.t 5)]⟩,
   ⟨(some 7), none, .fldA 0 (.t 3)⟩,
   ⟨none, none, .st 1 (.t 7) (.t 6)⟩])
 (.seq (.reg [⟨(some 8), none, .ld (some 1) (.t 3)⟩,
   ⟨none, none, .st 1 (.t 2) (.t 8)⟩])
 (.ret))))⟩
theorem k_laws_toMach : compF Tryd.prog n_laws_toMach = some F_laws_toMach := by kernel_rfl

def F_spec_l1In : FK := ⟨15, [.t 6],
 .seq (.reg [⟨(some 6), none, .mov (.c (.p (.bool false)))⟩])
 (.seq (.reg [⟨(some 7), none, .mov (.t 0)⟩,
   ⟨(some 8), none, .mov (.t 1)⟩,
   ⟨(some 9), none, .bin .geq (.t 7) (.t 8)⟩,
   ⟨(some 10), none, .mov (.t 9)⟩,
   ⟨(some 11), (some (10, true)), .mov (.t 0)⟩,
   ⟨(some 12), (some (10, true)), .mov (.t 2)⟩,
   ⟨(some 13), (some (10, true)), .bin .leq (.t 11) (.t 12)⟩,
   ⟨(some 14), none, .pick (.t 10) (.t 13) (.c (.p (.bool false)))⟩,
   ⟨(some 6), none, .mov (.t 14)⟩])
 (.ret))⟩
theorem k_spec_l1In : compF Tryd.prog n_spec_l1In = some F_spec_l1In := by kernel_rfl

def F_spec_l22Word : FK := ⟨19, [.t 2, .t 3],
 .seq (.reg [⟨(some 2), none, .mov (.c (.p (.str [])))⟩,
   ⟨(some 3), none, .mov (.c (.p (.str [])))⟩])
 (.seq (.reg [⟨(some 6), none, .bsl 1 [(.p (.str []))] 23 [(0, 1, (.c (.p (.str [])))), (1, 1, (.c (.p (.str [115, 101, 116])))), (2, 1, (.c (.p (.str [109, 111, 118, 101])))), (3, 1, (.c (.p (.str [97, 100, 100])))), (4, 1, (.c (.p (.str [115, 117, 98])))), (5, 1, (.c (.p (.str [109, 117, 108])))), (6, 1, (.c (.p (.str [100, 105, 118])))), (7, 1, (.c (.p (.str [114, 101, 109])))), (8, 1, (.c (.p (.str [108, 101, 115, 115])))), (9, 1, (.c (.p (.str [115, 97, 109, 101])))), (10, 1, (.c (.p (.str [110, 111, 116])))), (11, 1, (.c (.p (.str [108, 111, 97, 100])))), (12, 1, (.c (.p (.str [115, 116, 111, 114, 101])))), (13, 1, (.c (.p (.str [115, 97, 121])))), (14, 1, (.c (.p (.str [99, 97, 108, 108])))), (15, 1, (.c (.p (.str [107, 101, 101, 112])))), (16, 1, (.c (.p (.str [116, 97, 107, 101])))), (17, 1, (.c (.p (.str [103, 105, 118, 101])))), (18, 1, (.c (.p (.str [102, 101, 116, 99, 104])))), (19, 1, (.c (.p (.str [114, 101, 115, 117, 108, 116])))), (20, 1, (.c (.p (.str [106, 117, 109, 112])))), (21, 1, (.c (.p (.str [98, 114, 97, 110, 99, 104])))), (22, 1, (.c (.p (.str [98, 97, 99, 107]))))]⟩,
   ⟨(some 4), none, .mov (.t 6)⟩])
 (.seq (.reg [⟨(some 7), none, .bsl 1 [(.p (.str []))] 23 [(0, 1, (.c (.p (.str [])))), (1, 1, (.c (.p (.str [65, 78])))), (2, 1, (.c (.p (.str [65, 66])))), (3, 1, (.c (.p (.str [65, 66, 67])))), (4, 1, (.c (.p (.str [65, 66, 67])))), (5, 1, (.c (.p (.str [65, 66, 67])))), (6, 1, (.c (.p (.str [65, 66, 67])))), (7, 1, (.c (.p (.str [65, 66, 67])))), (8, 1, (.c (.p (.str [65, 66, 67])))), (9, 1, (.c (.p (.str [65, 66, 67])))), (10, 1, (.c (.p (.str [65, 66])))), (11, 1, (.c (.p (.str [65, 66])))), (12, 1, (.c (.p (.str [65, 66])))), (13, 1, (.c (.p (.str [65])))), (14, 1, (.c (.p (.str [78])))), (15, 1, (.c (.p (.str [65, 78])))), (16, 1, (.c (.p (.str [65, 78])))), (17, 1, (.c (.p (.str [65, 78])))), (18, 1, (.c (.p (.str [65, 78])))), (19, 1, (.c (.p (.str [65])))), (20, 1, (.c (.p (.str [78])))), (21, 1, (.c (.p (.str [65, 78])))), (22, 1, (.c (.p (.str [65]))))]⟩,
   ⟨(some 5), none, .mov (.t 7)⟩])
 (.seq (.seq (.reg [⟨(some 8), none, .mov (.t 0)⟩,
   ⟨(some 9), none, .call n_spec_l1In [(.t 8), (.c (.p (.int .i64 1))), (.c (.p (.int .i64 22)))]⟩,
   ⟨(some 10), none, .not (.t 9)⟩])
 (.cond (.t 10)
  (.seq (.reg [⟨(some 2), none, .mov (.c (.p (.str [])))⟩,
    ⟨(some 3), none, .mov (.c (.p (.str [])))⟩])
  (.ret))
  (.skip)))
 (.seq (.reg [⟨(some 11), none, .mov (.t 4)⟩,
   ⟨(some 12), none, .mov (.t 0)⟩,
   ⟨(some 13), none, .idxS 1 (.t 11) (.t 12)⟩,
   ⟨(some 15), none, .mov (.t 5)⟩,
   ⟨(some 16), none, .mov (.t 0)⟩,
   ⟨(some 17), none, .idxS 1 (.t 15) (.t 16)⟩,
   ⟨(some 14), none, .ld none (.t 13)⟩,
   ⟨(some 2), none, .mov (.t 14)⟩,
   ⟨(some 18), none, .ld none (.t 17)⟩,
   ⟨(some 3), none, .mov (.t 18)⟩])
 (.ret)))))⟩
theorem k_spec_l22Word : compF Tryd.prog n_spec_l22Word = some F_spec_l22Word := by kernel_rfl

def F_spec_l22Field : FK := ⟨20, [.t 4],
 .seq (.reg [⟨(some 2), none, .box 5 (.t 0)⟩,
   ⟨(some 4), none, .mov (.c (.p (.int .i64 0)))⟩])
 (.seq (.seq (.reg [⟨(some 5), none, .mov (.t 1)⟩])
 (.blk 0 (.seq (.reg [⟨(some 7), none, .bin .eql (.t 5) (.c (.p (.int .u8 65)))⟩,
   ⟨(some 6), none, .mov (.t 7)⟩])
 (.cond (.t 6)
  (.seq (.reg [⟨(some 8), none, .fldA 1 (.t 2)⟩,
    ⟨(some 9), none, .ld none (.t 8)⟩,
    ⟨(some 4), none, .mov (.t 9)⟩])
  (.ret))
  (.seq (.reg [⟨(some 11), none, .bin .eql (.t 5) (.c (.p (.int .u8 66)))⟩,
    ⟨(some 10), none, .mov (.t 11)⟩])
  (.cond (.t 10)
   (.seq (.reg [⟨(some 12), none, .fldA 2 (.t 2)⟩,
     ⟨(some 13), none, .ld none (.t 12)⟩,
     ⟨(some 4), none, .mov (.t 13)⟩])
   (.ret))
   (.seq (.reg [⟨(some 15), none, .bin .eql (.t 5) (.c (.p (.int .u8 67)))⟩,
     ⟨(some 14), none, .mov (.t 15)⟩])
   (.cond (.t 14)
    (.seq (.reg [⟨(some 16), none, .fldA 3 (.t 2)⟩,
      ⟨(some 17), none, .ld none (.t 16)⟩,
      ⟨(some 4), none, .mov (.t 17)⟩])
    (.ret))
    (.skip)))))))))
 (.seq (.reg [⟨(some 18), none, .fldA 4 (.t 2)⟩,
   ⟨(some 19), none, .ld none (.t 18)⟩,
   ⟨(some 4), none, .mov (.t 19)⟩])
 (.ret)))⟩
theorem k_spec_l22Field : compF Tryd.prog n_spec_l22Field = some F_spec_l22Field := by kernel_rfl

def F_spec_l22Rest : FK := ⟨37, [.t 4],
 .seq (.reg [⟨(some 2), none, .box 5 (.t 0)⟩,
   ⟨(some 4), none, .mov (.c (.p (.bool false)))⟩])
 (.seq (.seq (.reg [⟨(some 5), none, .mov (.c (.p (.int .i64 0)))⟩])
 (.blk 0 (.loop (.seq (.seq (.reg [⟨(some 9), none, .mov (.t 5)⟩,
   ⟨(some 10), none, .bin .lss (.t 9) (.c (.p (.int .i64 4)))⟩])
 (.cond (.t 10)
  (.skip)
  (.exit 0)))
 (.seq (.blk 1 (.seq (.reg [⟨(some 13), none, .mov (.t 5)⟩,
   ⟨(some 14), none, .idxStr (.c (.p (.str [65, 66, 67, 78]))) (.t 13)⟩,
   ⟨(some 6), none, .mov (.t 14)⟩])
 (.seq (.reg [⟨(some 7), none, .mov (.c (.p (.bool false)))⟩])
 (.seq (.seq (.reg [⟨(some 8), none, .mov (.c (.p (.int .i64 0)))⟩])
 (.blk 2 (.loop (.seq (.seq (.reg [⟨(some 15), none, .mov (.t 8)⟩,
   ⟨(some 16), none, .mov (.t 1)⟩,
   ⟨(some 17), none, .len true (.t 16)⟩,
   ⟨(some 18), none, .bin .lss (.t 15) (.t 17)⟩])
 (.cond (.t 18)
  (.skip)
  (.exit 2)))
 (.seq (.blk 3 (.reg [⟨(some 21), none, .mov (.t 7)⟩,
   ⟨(some 22), none, .mov (.t 21)⟩,
   ⟨(some 23), (some (22, false)), .mov (.t 1)⟩,
   ⟨(some 24), (some (22, false)), .mov (.t 8)⟩,
   ⟨(some 25), (some (22, false)), .idxStr (.t 23) (.t 24)⟩,
   ⟨(some 26), (some (22, false)), .mov (.t 6)⟩,
   ⟨(some 27), (some (22, false)), .bin .eql (.t 25) (.t 26)⟩,
   ⟨(some 28), none, .pick (.t 22) (.c (.p (.bool true))) (.t 27)⟩,
   ⟨(some 7), none, .mov (.t 28)⟩]))
 (.reg [⟨(some 19), none, .mov (.t 8)⟩,
   ⟨(some 20), none, .bin .add (.t 19) (.c (.p (.int .i64 1)))⟩,
   ⟨(some 8), none, .mov (.t 20)⟩]))))))
 (.seq (.reg [⟨(some 29), none, .mov (.t 7)⟩,
   ⟨(some 30), none, .not (.t 29)⟩,
   ⟨(some 31), none, .mov (.t 30)⟩,
   ⟨(some 32), (some (31, true)), .ld (some 5) (.t 2)⟩,
   ⟨(some 33), (some (31, true)), .mov (.t 6)⟩,
   ⟨(some 34), (some (31, true)), .call n_spec_l22Field [(.t 32), (.t 33)]⟩,
   ⟨(some 35), (some (31, true)), .bin .neq (.t 34) (.c (.p (.int .i64 0)))⟩,
   ⟨(some 36), none, .pick (.t 31) (.t 35) (.c (.p (.bool false)))⟩])
 (.cond (.t 36)
  (.seq (.reg [⟨(some 4), none, .mov (.c (.p (.bool false)))⟩])
  (.ret))
  (.skip)))))))
 (.reg [⟨(some 11), none, .mov (.t 5)⟩,
   ⟨(some 12), none, .bin .add (.t 11) (.c (.p (.int .i64 1)))⟩,
   ⟨(some 5), none, .mov (.t 12)⟩]))))))
 (.seq (.reg [⟨(some 4), none, .mov (.c (.p (.bool true)))⟩])
 (.ret)))⟩
theorem k_spec_l22Rest : compF Tryd.prog n_spec_l22Rest = some F_spec_l22Rest := by kernel_rfl

def F_spec_l22Ins : FK := ⟨95, [.t 6],
 .seq (.reg [⟨(some 3), none, .box 1 (.t 0)⟩,
   ⟨(some 5), none, .box 5 (.t 2)⟩,
   ⟨(some 6), none, .mov (.c (.p (.bool false)))⟩])
 (.seq (.reg [⟨(some 11), none, .fldA 0 (.t 3)⟩,
   ⟨(some 12), none, .ld none (.t 11)⟩,
   ⟨(some 13), none, .mov (.t 1)⟩,
   ⟨(some 14), none, .idxS 3 (.t 12) (.t 13)⟩,
   ⟨(some 15), none, .ld (some 3) (.t 14)⟩,
   ⟨(some 7), none, .alloc [(.p (.int .i64 0)), (.p (.int .i64 0)), .nils]⟩,
   ⟨none, none, .st 3 (.t 7) (.t 15)⟩])
 (.seq (.reg [⟨(some 17), none, .fldA 0 (.t 5)⟩,
   ⟨(some 18), none, .ld none (.t 17)⟩,
   ⟨(some 19), none, .call n_spec_l22Word [(.t 18)]⟩,
   ⟨(some 16), none, .mov (.t 19)⟩,
   ⟨(some 20), none, .ext 0 (.t 16)⟩,
   ⟨(some 21), none, .ext 1 (.t 16)⟩,
   ⟨(some 8), none, .mov (.t 20)⟩,
   ⟨(some 9), none, .mov (.t 21)⟩])
 (.seq (.seq (.reg [⟨(some 22), none, .mov (.t 9)⟩,
   ⟨(some 23), none, .bins .eql (.t 22) (.c (.p (.str [])))⟩,
   ⟨(some 24), none, .mov (.t 23)⟩,
   ⟨(some 25), (some (24, false)), .ld (some 5) (.t 5)⟩,
   ⟨(some 26), (some (24, false)), .mov (.t 9)⟩,
   ⟨(some 27), (some (24, false)), .call n_spec_l22Rest [(.t 25), (.t 26)]⟩,
   ⟨(some 28), (some (24, false)), .not (.t 27)⟩,
   ⟨(some 29), none, .pick (.t 24) (.c (.p (.bool true))) (.t 28)⟩])
 (.cond (.t 29)
  (.seq (.reg [⟨(some 6), none, .mov (.c (.p (.bool false)))⟩])
  (.ret))
  (.skip)))
 (.seq (.seq (.reg [⟨(some 10), none, .mov (.c (.p (.int .i64 0)))⟩])
 (.blk 0 (.loop (.seq (.seq (.reg [⟨(some 30), none, .mov (.t 10)⟩,
   ⟨(some 31), none, .mov (.t 9)⟩,
   ⟨(some 32), none, .len true (.t 31)⟩,
   ⟨(some 33), none, .bin .lss (.t 30) (.t 32)⟩])
 (.cond (.t 33)
  (.skip)
  (.exit 0)))
 (.seq (.blk 1 (.seq (.reg [⟨(some 36), none, .mov (.t 9)⟩,
   ⟨(some 37), none, .mov (.t 10)⟩,
   ⟨(some 38), none, .idxStr (.t 36) (.t 37)⟩,
   ⟨(some 39), none, .bin .neq (.t 38) (.c (.p (.int .u8 78)))⟩,
   ⟨(some 40), none, .mov (.t 39)⟩,
   ⟨(some 42), (some (40, true)), .mov (.t 9)⟩,
   ⟨(some 43), (some (40, true)), .mov (.t 10)⟩,
   ⟨(some 44), (some (40, true)), .idxStr (.t 42) (.t 43)⟩,
   ⟨(some 41), (some (40, true)), .ld (some 5) (.t 5)⟩,
   ⟨(some 45), (some (40, true)), .call n_spec_l22Field [(.t 41), (.t 44)]⟩,
   ⟨(some 46), (some (40, true)), .call n_spec_l1In [(.t 45), (.c (.p (.int .i64 0))), (.c (.p (.int .i64 7)))]⟩,
   ⟨(some 47), (some (40, true)), .not (.t 46)⟩,
   ⟨(some 48), none, .pick (.t 40) (.t 47) (.c (.p (.bool false)))⟩])
 (.cond (.t 48)
  (.seq (.reg [⟨(some 6), none, .mov (.c (.p (.bool false)))⟩])
  (.ret))
  (.skip))))
 (.reg [⟨(some 34), none, .mov (.t 10)⟩,
   ⟨(some 35), none, .bin .add (.t 34) (.c (.p (.int .i64 1)))⟩,
   ⟨(some 10), none, .mov (.t 35)⟩]))))))
 (.seq (.seq (.reg [⟨(some 49), none, .fldA 0 (.t 5)⟩,
   ⟨(some 50), none, .ld none (.t 49)⟩])
 (.blk 2 (.seq (.reg [⟨(some 52), none, .bin .eql (.t 50) (.c (.p (.int .i64 1)))⟩,
   ⟨(some 51), none, .mov (.t 52)⟩])
 (.cond (.t 51)
  (.seq (.reg [⟨(some 53), none, .fldA 4 (.t 5)⟩,
    ⟨(some 54), none, .ld none (.t 53)⟩,
    ⟨(some 55), none, .call n_spec_l1In [(.t 54), (.c (.p (.int .i64 0))), (.c (.p (.int .i64 255)))]⟩,
    ⟨(some 6), none, .mov (.t 55)⟩])
  (.ret))
  (.seq (.reg [⟨(some 57), none, .bin .eql (.t 50) (.c (.p (.int .i64 14)))⟩,
    ⟨(some 56), none, .mov (.t 57)⟩])
  (.cond (.t 56)
   (.seq (.reg [⟨(some 58), none, .fldA 4 (.t 5)⟩,
     ⟨(some 59), none, .ld none (.t 58)⟩,
     ⟨(some 60), none, .mov (.t 1)⟩,
     ⟨(some 61), none, .bin .sub (.t 60) (.c (.p (.int .i64 1)))⟩,
     ⟨(some 62), none, .call n_spec_l1In [(.t 59), (.c (.p (.int .i64 0))), (.t 61)]⟩,
     ⟨(some 6), none, .mov (.t 62)⟩])
   (.ret))
   (.seq (.seq (.reg [⟨(some 64), none, .bin .eql (.t 50) (.c (.p (.int .i64 15)))⟩,
     ⟨(some 63), none, .mov (.t 64)⟩])
   (.cond (.t 63)
    (.skip)
    (.reg [⟨(some 65), none, .bin .eql (.t 50) (.c (.p (.int .i64 16)))⟩,
      ⟨(some 63), none, .mov (.t 65)⟩])))
   (.cond (.t 63)
    (.seq (.reg [⟨(some 66), none, .fldA 4 (.t 5)⟩,
      ⟨(some 67), none, .ld none (.t 66)⟩,
      ⟨(some 68), none, .fldA 1 (.t 7)⟩,
      ⟨(some 69), none, .ld none (.t 68)⟩,
      ⟨(some 70), none, .bin .sub (.t 69) (.c (.p (.int .i64 1)))⟩,
      ⟨(some 71), none, .call n_spec_l1In [(.t 67), (.c (.p (.int .i64 0))), (.t 70)]⟩,
      ⟨(some 6), none, .mov (.t 71)⟩])
    (.ret))
    (.seq (.reg [⟨(some 73), none, .bin .eql (.t 50) (.c (.p (.int .i64 17)))⟩,
      ⟨(some 72), none, .mov (.t 73)⟩])
    (.cond (.t 72)
     (.seq (.reg [⟨(some 74), none, .fldA 4 (.t 5)⟩,
       ⟨(some 75), none, .ld none (.t 74)⟩,
       ⟨(some 76), none, .call n_spec_l1In [(.t 75), (.c (.p (.int .i64 0))), (.c (.p (.int .i64 2)))]⟩,
       ⟨(some 6), none, .mov (.t 76)⟩])
     (.ret))
     (.seq (.reg [⟨(some 78), none, .bin .eql (.t 50) (.c (.p (.int .i64 18)))⟩,
       ⟨(some 77), none, .mov (.t 78)⟩])
     (.cond (.t 77)
      (.seq (.reg [⟨(some 79), none, .fldA 4 (.t 5)⟩,
        ⟨(some 80), none, .ld none (.t 79)⟩,
        ⟨(some 81), none, .fldA 0 (.t 7)⟩,
        ⟨(some 82), none, .ld none (.t 81)⟩,
        ⟨(some 83), none, .bin .sub (.t 82) (.c (.p (.int .i64 1)))⟩,
        ⟨(some 84), none, .call n_spec_l1In [(.t 80), (.c (.p (.int .i64 0))), (.t 83)]⟩,
        ⟨(some 6), none, .mov (.t 84)⟩])
      (.ret))
      (.seq (.seq (.reg [⟨(some 86), none, .bin .eql (.t 50) (.c (.p (.int .i64 20)))⟩,
        ⟨(some 85), none, .mov (.t 86)⟩])
      (.cond (.t 85)
       (.skip)
       (.reg [⟨(some 87), none, .bin .eql (.t 50) (.c (.p (.int .i64 21)))⟩,
         ⟨(some 85), none, .mov (.t 87)⟩])))
      (.cond (.t 85)
       (.seq (.reg [⟨(some 88), none, .fldA 4 (.t 5)⟩,
         ⟨(some 89), none, .ld none (.t 88)⟩,
         ⟨(some 90), none, .fldA 2 (.t 7)⟩,
         ⟨(some 91), none, .ld none (.t 90)⟩,
         ⟨(some 92), none, .len false (.t 91)⟩,
         ⟨(some 93), none, .bin .sub (.t 92) (.c (.p (.int .i64 1)))⟩,
         ⟨(some 94), none, .call n_spec_l1In [(.t 89), (.c (.p (.int .i64 0))), (.t 93)]⟩,
         ⟨(some 6), none, .mov (.t 94)⟩])
       (.ret))
       (.skip)))))))))))))))
 (.seq (.reg [⟨(some 6), none, .mov (.c (.p (.bool true)))⟩])
 (.ret)))))))⟩
theorem k_spec_l22Ins : compF Tryd.prog n_spec_l22Ins = some F_spec_l22Ins := by kernel_rfl

def F_spec_MachValid : FK := ⟨81, [.t 2],
 .seq (.reg [⟨(some 1), none, .box 1 (.t 0)⟩,
   ⟨(some 2), none, .mov (.c (.p (.bool false)))⟩])
 (.seq (.seq (.reg [⟨(some 8), none, .fldA 0 (.t 1)⟩,
   ⟨(some 9), none, .ld none (.t 8)⟩,
   ⟨(some 10), none, .len false (.t 9)⟩,
   ⟨(some 11), none, .call n_spec_l1In [(.t 10), (.c (.p (.int .i64 1))), (.c (.p (.int .i64 4)))]⟩,
   ⟨(some 12), none, .not (.t 11)⟩])
 (.cond (.t 12)
  (.seq (.reg [⟨(some 2), none, .mov (.c (.p (.bool false)))⟩])
  (.ret))
  (.skip)))
 (.seq (.reg [⟨(some 3), none, .mov (.c (.p (.int .i64 0)))⟩])
 (.seq (.seq (.reg [⟨(some 4), none, .mov (.c (.p (.int .i64 0)))⟩])
 (.blk 0 (.loop (.seq (.seq (.reg [⟨(some 13), none, .mov (.t 4)⟩,
   ⟨(some 14), none, .fldA 0 (.t 1)⟩,
   ⟨(some 15), none, .ld none (.t 14)⟩,
   ⟨(some 16), none, .len false (.t 15)⟩,
   ⟨(some 17), none, .bin .lss (.t 13) (.t 16)⟩])
 (.cond (.t 17)
  (.skip)
  (.exit 0)))
 (.seq (.blk 1 (.seq (.reg [⟨(some 20), none, .fldA 0 (.t 1)⟩,
   ⟨(some 21), none, .ld none (.t 20)⟩,
   ⟨(some 22), none, .mov (.t 4)⟩,
   ⟨(some 23), none, .idxS 3 (.t 21) (.t 22)⟩,
   ⟨(some 24), none, .ld (some 3) (.t 23)⟩,
   ⟨(some 5), none, .alloc [(.p (.int .i64 0)), (.p (.int .i64 0)), .nils]⟩,
   ⟨none, none, .st 3 (.t 5) (.t 24)⟩])
 (.seq (.reg [⟨(some 25), none, .mov (.t 3)⟩,
   ⟨(some 26), none, .fldA 2 (.t 5)⟩,
   ⟨(some 27), none, .ld none (.t 26)⟩,
   ⟨(some 28), none, .len false (.t 27)⟩,
   ⟨(some 29), none, .bin .add (.t 25) (.t 28)⟩,
   ⟨(some 3), none, .mov (.t 29)⟩])
 (.seq (.seq (.reg [⟨(some 30), none, .fldA 0 (.t 5)⟩,
   ⟨(some 31), none, .ld none (.t 30)⟩,
   ⟨(some 32), none, .call n_spec_l1In [(.t 31), (.c (.p (.int .i64 0))), (.c (.p (.int .i64 3)))]⟩,
   ⟨(some 33), none, .not (.t 32)⟩,
   ⟨(some 34), none, .mov (.t 33)⟩,
   ⟨(some 35), (some (34, false)), .fldA 1 (.t 5)⟩,
   ⟨(some 36), (some (34, false)), .ld none (.t 35)⟩,
   ⟨(some 37), (some (34, false)), .call n_spec_l1In [(.t 36), (.c (.p (.int .i64 0))), (.c (.p (.int .i64 64)))]⟩,
   ⟨(some 38), (some (34, false)), .not (.t 37)⟩,
   ⟨(some 39), none, .pick (.t 34) (.c (.p (.bool true))) (.t 38)⟩,
   ⟨(some 40), none, .mov (.t 39)⟩,
   ⟨(some 41), (some (40, false)), .fldA 2 (.t 5)⟩,
   ⟨(some 42), (some (40, false)), .ld none (.t 41)⟩,
   ⟨(some 43), (some (40, false)), .len false (.t 42)⟩,
   ⟨(some 44), (some (40, false)), .bin .eql (.t 43) (.c (.p (.int .i64 0)))⟩,
   ⟨(some 45), none, .pick (.t 40) (.c (.p (.bool true))) (.t 44)⟩,
   ⟨(some 46), none, .mov (.t 45)⟩,
   ⟨(some 47), (some (46, false)), .mov (.t 3)⟩,
   ⟨(some 48), (some (46, false)), .bin .gtr (.t 47) (.c (.p (.int .i64 2000)))⟩,
   ⟨(some 49), none, .pick (.t 46) (.c (.p (.bool true))) (.t 48)⟩])
 (.cond (.t 49)
  (.seq (.reg [⟨(some 2), none, .mov (.c (.p (.bool false)))⟩])
  (.ret))
  (.skip)))
 (.seq (.seq (.reg [⟨(some 6), none, .mov (.c (.p (.int .i64 0)))⟩])
 (.blk 2 (.loop (.seq (.seq (.reg [⟨(some 50), none, .mov (.t 6)⟩,
   ⟨(some 51), none, .fldA 2 (.t 5)⟩,
   ⟨(some 52), none, .ld none (.t 51)⟩,
   ⟨(some 53), none, .len false (.t 52)⟩,
   ⟨(some 54), none, .bin .lss (.t 50) (.t 53)⟩])
 (.cond (.t 54)
  (.skip)
  (.exit 2)))
 (.seq (.blk 3 (.seq (.reg [⟨(some 58), none, .mov (.t 4)⟩,
   ⟨(some 59), none, .fldA 2 (.t 5)⟩,
   ⟨(some 61), none, .mov (.t 6)⟩,
   ⟨(some 57), none, .ld (some 1) (.t 1)⟩,
   ⟨(some 60), none, .ld none (.t 59)⟩,
   ⟨(some 62), none, .idxS 5 (.t 60) (.t 61)⟩,
   ⟨(some 63), none, .ld (some 5) (.t 62)⟩,
   ⟨(some 64), none, .call n_spec_l22Ins [(.t 57), (.t 58), (.t 63)]⟩,
   ⟨(some 65), none, .not (.t 64)⟩])
 (.cond (.t 65)
  (.seq (.reg [⟨(some 2), none, .mov (.c (.p (.bool false)))⟩])
  (.ret))
  (.skip))))
 (.reg [⟨(some 55), none, .mov (.t 6)⟩,
   ⟨(some 56), none, .bin .add (.t 55) (.c (.p (.int .i64 1)))⟩,
   ⟨(some 6), none, .mov (.t 56)⟩]))))))
 (.seq (.reg [⟨(some 66), none, .fldA 2 (.t 5)⟩,
   ⟨(some 67), none, .ld none (.t 66)⟩,
   ⟨(some 68), none, .fldA 2 (.t 5)⟩,
   ⟨(some 69), none, .ld none (.t 68)⟩,
   ⟨(some 70), none, .len false (.t 69)⟩,
   ⟨(some 71), none, .bin .sub (.t 70) (.c (.p (.int .i64 1)))⟩,
   ⟨(some 72), none, .idxS 5 (.t 67) (.t 71)⟩,
   ⟨(some 73), none, .fldA 0 (.t 72)⟩,
   ⟨(some 74), none, .ld none (.t 73)⟩,
   ⟨(some 7), none, .mov (.t 74)⟩])
 (.seq (.reg [⟨(some 75), none, .mov (.t 7)⟩,
   ⟨(some 76), none, .bin .neq (.t 75) (.c (.p (.int .i64 20)))⟩,
   ⟨(some 77), none, .mov (.t 76)⟩,
   ⟨(some 78), (some (77, true)), .mov (.t 7)⟩,
   ⟨(some 79), (some (77, true)), .bin .neq (.t 78) (.c (.p (.int .i64 22)))⟩,
   ⟨(some 80), none, .pick (.t 77) (.t 79) (.c (.p (.bool false)))⟩])
 (.cond (.t 80)
  (.seq (.reg [⟨(some 2), none, .mov (.c (.p (.bool false)))⟩])
  (.ret))
  (.skip)))))))))
 (.reg [⟨(some 18), none, .mov (.t 4)⟩,
   ⟨(some 19), none, .bin .add (.t 18) (.c (.p (.int .i64 1)))⟩,
   ⟨(some 4), none, .mov (.t 19)⟩]))))))
 (.seq (.reg [⟨(some 2), none, .mov (.c (.p (.bool true)))⟩])
 (.ret)))))⟩
theorem k_spec_MachValid : compF Tryd.prog n_spec_MachValid = some F_spec_MachValid := by kernel_rfl

def F_spec_l25Alone : FK := ⟨68, [.c 2 (some 1)],
 .seq (.reg [⟨(some 1), none, .box 3 (.t 0)⟩,
   ⟨(some 2), none, .alloc [.nils]⟩])
 (.seq (.reg [⟨(some 7), none, .bld [.nils] []⟩,
   ⟨(some 3), none, .alloc [.nils]⟩,
   ⟨none, none, .st 1 (.t 3) (.t 7)⟩])
 (.seq (.reg [⟨(some 4), none, .mov (.c (.p (.int .i64 0)))⟩])
 (.seq (.seq (.reg [⟨(some 5), none, .mov (.c (.p (.int .i64 0)))⟩])
 (.blk 0 (.loop (.seq (.seq (.reg [⟨(some 8), none, .mov (.t 5)⟩,
   ⟨(some 9), none, .fldA 2 (.t 1)⟩,
   ⟨(some 10), none, .ld none (.t 9)⟩,
   ⟨(some 11), none, .len false (.t 10)⟩,
   ⟨(some 12), none, .bin .lss (.t 8) (.t 11)⟩])
 (.cond (.t 12)
  (.skip)
  (.exit 0)))
 (.seq (.blk 1 (.seq (.reg [⟨(some 15), none, .fldA 2 (.t 1)⟩,
   ⟨(some 16), none, .ld none (.t 15)⟩,
   ⟨(some 17), none, .mov (.t 5)⟩,
   ⟨(some 18), none, .idxS 5 (.t 16) (.t 17)⟩,
   ⟨(some 19), none, .fldA 0 (.t 18)⟩,
   ⟨(some 20), none, .ld none (.t 19)⟩,
   ⟨(some 21), none, .bin .eql (.t 20) (.c (.p (.int .i64 14)))⟩,
   ⟨(some 22), none, .mov (.t 21)⟩,
   ⟨(some 23), (some (22, true)), .fldA 2 (.t 1)⟩,
   ⟨(some 24), (some (22, true)), .ld none (.t 23)⟩,
   ⟨(some 25), (some (22, true)), .mov (.t 5)⟩,
   ⟨(some 26), (some (22, true)), .idxS 5 (.t 24) (.t 25)⟩,
   ⟨(some 27), (some (22, true)), .fldA 4 (.t 26)⟩,
   ⟨(some 28), (some (22, true)), .ld none (.t 27)⟩,
   ⟨(some 29), (some (22, true)), .mov (.t 4)⟩,
   ⟨(some 30), (some (22, true)), .bin .geq (.t 28) (.t 29)⟩,
   ⟨(some 31), none, .pick (.t 22) (.t 30) (.c (.p (.bool false)))⟩,
   ⟨(some 32), none, .mov (.t 31)⟩,
   ⟨(some 33), (some (32, true)), .fldA 2 (.t 1)⟩,
   ⟨(some 34), (some (32, true)), .ld none (.t 33)⟩,
   ⟨(some 35), (some (32, true)), .mov (.t 5)⟩,
   ⟨(some 36), (some (32, true)), .idxS 5 (.t 34) (.t 35)⟩,
   ⟨(some 37), (some (32, true)), .fldA 4 (.t 36)⟩,
   ⟨(some 38), (some (32, true)), .ld none (.t 37)⟩,
   ⟨(some 39), (some (32, true)), .bin .lss (.t 38) (.c (.p (.int .i64 4)))⟩,
   ⟨(some 40), none, .pick (.t 32) (.t 39) (.c (.p (.bool false)))⟩])
 (.cond (.t 40)
  (.reg [⟨(some 41), none, .fldA 2 (.t 1)⟩,
    ⟨(some 42), none, .ld none (.t 41)⟩,
    ⟨(some 43), none, .mov (.t 5)⟩,
    ⟨(some 44), none, .idxS 5 (.t 42) (.t 43)⟩,
    ⟨(some 45), none, .fldA 4 (.t 44)⟩,
    ⟨(some 46), none, .ld none (.t 45)⟩,
    ⟨(some 47), none, .bin .add (.t 46) (.c (.p (.int .i64 1)))⟩,
    ⟨(some 4), none, .mov (.t 47)⟩])
  (.skip))))
 (.reg [⟨(some 13), none, .mov (.t 5)⟩,
   ⟨(some 14), none, .bin .add (.t 13) (.c (.p (.int .i64 1)))⟩,
   ⟨(some 5), none, .mov (.t 14)⟩]))))))
 (.seq (.seq (.reg [⟨(some 6), none, .mov (.c (.p (.int .i64 0)))⟩])
 (.blk 2 (.loop (.seq (.seq (.reg [⟨(some 48), none, .mov (.t 6)⟩,
   ⟨(some 49), none, .mov (.t 4)⟩,
   ⟨(some 50), none, .bin .lss (.t 48) (.t 49)⟩])
 (.cond (.t 50)
  (.skip)
  (.exit 2)))
 (.seq (.blk 3 (.reg [⟨(some 53), none, .fldA 0 (.t 3)⟩,
   ⟨(some 54), none, .ld none (.t 53)⟩,
   ⟨(some 55), none, .bld [(.p (.int .i64 0)), (.p (.int .i64 0)), (.p (.int .i64 0)), (.p (.int .i64 0)), (.p (.int .i64 0))] [(0, 1, (.c (.p (.int .i64 22))))]⟩,
   ⟨(some 56), none, .bsl 5 [(.p (.int .i64 0)), (.p (.int .i64 0)), (.p (.int .i64 0)), (.p (.int .i64 0)), (.p (.int .i64 0))] 1 [(0, 5, (.t 55))]⟩,
   ⟨(some 57), none, .bld [(.p (.int .i64 0)), (.p (.int .i64 0)), .nils] [(2, 1, (.t 56))]⟩,
   ⟨(some 58), none, .bsl 3 [(.p (.int .i64 0)), (.p (.int .i64 0)), .nils] 1 [(0, 3, (.t 57))]⟩,
   ⟨(some 59), none, .app 3 40 (.t 54) (.t 58)⟩,
   ⟨(some 60), none, .fldA 0 (.t 3)⟩,
   ⟨none, none, .st 1 (.t 60) (.t 59)⟩]))
 (.reg [⟨(some 51), none, .mov (.t 6)⟩,
   ⟨(some 52), none, .bin .add (.t 51) (.c (.p (.int .i64 1)))⟩,
   ⟨(some 6), none, .mov (.t 52)⟩]))))))
 (.seq (.reg [⟨(some 61), none, .fldA 0 (.t 3)⟩,
   ⟨(some 62), none, .ld none (.t 61)⟩,
   ⟨(some 63), none, .ld (some 3) (.t 1)⟩,
   ⟨(some 64), none, .bsl 3 [(.p (.int .i64 0)), (.p (.int .i64 0)), .nils] 1 [(0, 3, (.t 63))]⟩,
   ⟨(some 65), none, .app 3 40 (.t 62) (.t 64)⟩,
   ⟨(some 66), none, .fldA 0 (.t 3)⟩,
   ⟨none, none, .st 1 (.t 66) (.t 65)⟩])
 (.seq (.reg [⟨(some 67), none, .ld (some 1) (.t 3)⟩,
   ⟨none, none, .st 1 (.t 2) (.t 67)⟩])
 (.ret)))))))⟩
theorem k_spec_l25Alone : compF Tryd.prog n_spec_l25Alone = some F_spec_l25Alone := by kernel_rfl

def F_spec_l24Jumps : FK := ⟨11, [.t 2],
 .seq (.reg [⟨(some 1), none, .box 5 (.t 0)⟩,
   ⟨(some 2), none, .mov (.c (.p (.bool false)))⟩])
 (.seq (.reg [⟨(some 3), none, .fldA 0 (.t 1)⟩,
   ⟨(some 4), none, .ld none (.t 3)⟩,
   ⟨(some 5), none, .bin .eql (.t 4) (.c (.p (.int .i64 20)))⟩,
   ⟨(some 6), none, .mov (.t 5)⟩,
   ⟨(some 7), (some (6, false)), .fldA 0 (.t 1)⟩,
   ⟨(some 8), (some (6, false)), .ld none (.t 7)⟩,
   ⟨(some 9), (some (6, false)), .bin .eql (.t 8) (.c (.p (.int .i64 21)))⟩,
   ⟨(some 10), none, .pick (.t 6) (.c (.p (.bool true))) (.t 9)⟩,
   ⟨(some 2), none, .mov (.t 10)⟩])
 (.ret))⟩
theorem k_spec_l24Jumps : compF Tryd.prog n_spec_l24Jumps = some F_spec_l24Jumps := by kernel_rfl

def F_spec_l25Plain : FK := ⟨78, [.t 2],
 .seq (.reg [⟨(some 1), none, .box 5 (.t 0)⟩,
   ⟨(some 2), none, .mov (.c .nils)⟩])
 (.seq (.blk 0 (.seq (.reg [⟨(some 4), none, .fldA 0 (.t 1)⟩,
   ⟨(some 5), none, .ld none (.t 4)⟩,
   ⟨(some 6), none, .bin .eql (.t 5) (.c (.p (.int .i64 1)))⟩,
   ⟨(some 7), none, .mov (.t 6)⟩,
   ⟨(some 8), (some (7, false)), .fldA 0 (.t 1)⟩,
   ⟨(some 9), (some (7, false)), .ld none (.t 8)⟩,
   ⟨(some 10), (some (7, false)), .call n_spec_l1In [(.t 9), (.c (.p (.int .i64 15))), (.c (.p (.int .i64 18)))]⟩,
   ⟨(some 11), none, .pick (.t 7) (.c (.p (.bool true))) (.t 10)⟩,
   ⟨(some 3), none, .mov (.t 11)⟩])
 (.cond (.t 3)
  (.seq (.reg [⟨(some 12), none, .fldA 0 (.t 1)⟩,
    ⟨(some 13), none, .ld none (.t 12)⟩,
    ⟨(some 14), none, .conv .u8 (.t 13)⟩,
    ⟨(some 15), none, .fldA 1 (.t 1)⟩,
    ⟨(some 16), none, .ld none (.t 15)⟩,
    ⟨(some 17), none, .conv .u8 (.t 16)⟩,
    ⟨(some 18), none, .fldA 4 (.t 1)⟩,
    ⟨(some 19), none, .ld none (.t 18)⟩,
    ⟨(some 20), none, .conv .u8 (.t 19)⟩,
    ⟨(some 21), none, .bsl 1 [(.p (.int .u8 0))] 3 [(0, 1, (.t 14)), (1, 1, (.t 17)), (2, 1, (.t 20))]⟩,
    ⟨(some 2), none, .mov (.t 21)⟩])
  (.ret))
  (.seq (.reg [⟨(some 23), none, .fldA 0 (.t 1)⟩,
    ⟨(some 24), none, .ld none (.t 23)⟩,
    ⟨(some 25), none, .call n_spec_l1In [(.t 24), (.c (.p (.int .i64 3))), (.c (.p (.int .i64 9)))]⟩,
    ⟨(some 22), none, .mov (.t 25)⟩])
  (.cond (.t 22)
   (.seq (.reg [⟨(some 26), none, .fldA 0 (.t 1)⟩,
     ⟨(some 27), none, .ld none (.t 26)⟩,
     ⟨(some 28), none, .conv .u8 (.t 27)⟩,
     ⟨(some 29), none, .fldA 1 (.t 1)⟩,
     ⟨(some 30), none, .ld none (.t 29)⟩,
     ⟨(some 31), none, .fldA 2 (.t 1)⟩,
     ⟨(some 32), none, .ld none (.t 31)⟩,
     ⟨(some 33), none, .bin .mul (.c (.p (.int .i64 8))) (.t 32)⟩,
     ⟨(some 34), none, .bin .add (.t 30) (.t 33)⟩,
     ⟨(some 35), none, .conv .u8 (.t 34)⟩,
     ⟨(some 36), none, .fldA 3 (.t 1)⟩,
     ⟨(some 37), none, .ld none (.t 36)⟩,
     ⟨(some 38), none, .conv .u8 (.t 37)⟩,
     ⟨(some 39), none, .bsl 1 [(.p (.int .u8 0))] 3 [(0, 1, (.t 28)), (1, 1, (.t 35)), (2, 1, (.t 38))]⟩,
     ⟨(some 2), none, .mov (.t 39)⟩])
   (.ret))
   (.seq (.reg [⟨(some 41), none, .fldA 0 (.t 1)⟩,
     ⟨(some 42), none, .ld none (.t 41)⟩,
     ⟨(some 43), none, .bin .eql (.t 42) (.c (.p (.int .i64 2)))⟩,
     ⟨(some 44), none, .mov (.t 43)⟩,
     ⟨(some 45), (some (44, false)), .fldA 0 (.t 1)⟩,
     ⟨(some 46), (some (44, false)), .ld none (.t 45)⟩,
     ⟨(some 47), (some (44, false)), .call n_spec_l1In [(.t 46), (.c (.p (.int .i64 10))), (.c (.p (.int .i64 12)))]⟩,
     ⟨(some 48), none, .pick (.t 44) (.c (.p (.bool true))) (.t 47)⟩,
     ⟨(some 40), none, .mov (.t 48)⟩])
   (.cond (.t 40)
    (.seq (.reg [⟨(some 49), none, .fldA 0 (.t 1)⟩,
      ⟨(some 50), none, .ld none (.t 49)⟩,
      ⟨(some 51), none, .conv .u8 (.t 50)⟩,
      ⟨(some 52), none, .fldA 1 (.t 1)⟩,
      ⟨(some 53), none, .ld none (.t 52)⟩,
      ⟨(some 54), none, .fldA 2 (.t 1)⟩,
      ⟨(some 55), none, .ld none (.t 54)⟩,
      ⟨(some 56), none, .bin .mul (.c (.p (.int .i64 8))) (.t 55)⟩,
      ⟨(some 57), none, .bin .add (.t 53) (.t 56)⟩,
      ⟨(some 58), none, .conv .u8 (.t 57)⟩,
      ⟨(some 59), none, .bsl 1 [(.p (.int .u8 0))] 2 [(0, 1, (.t 51)), (1, 1, (.t 58))]⟩,
      ⟨(some 2), none, .mov (.t 59)⟩])
    (.ret))
    (.seq (.reg [⟨(some 61), none, .fldA 0 (.t 1)⟩,
      ⟨(some 62), none, .ld none (.t 61)⟩,
      ⟨(some 63), none, .bin .eql (.t 62) (.c (.p (.int .i64 14)))⟩,
      ⟨(some 60), none, .mov (.t 63)⟩])
    (.cond (.t 60)
     (.seq (.reg [⟨(some 64), none, .fldA 0 (.t 1)⟩,
       ⟨(some 65), none, .ld none (.t 64)⟩,
       ⟨(some 66), none, .conv .u8 (.t 65)⟩,
       ⟨(some 67), none, .fldA 4 (.t 1)⟩,
       ⟨(some 68), none, .ld none (.t 67)⟩,
       ⟨(some 69), none, .conv .u8 (.t 68)⟩,
       ⟨(some 70), none, .bsl 1 [(.p (.int .u8 0))] 2 [(0, 1, (.t 66)), (1, 1, (.t 69))]⟩,
       ⟨(some 2), none, .mov (.t 70)⟩])
     (.ret))
     (.skip))))))))))
 (.seq (.reg [⟨(some 71), none, .fldA 0 (.t 1)⟩,
   ⟨(some 72), none, .ld none (.t 71)⟩,
   ⟨(some 73), none, .conv .u8 (.t 72)⟩,
   ⟨(some 74), none, .fldA 1 (.t 1)⟩,
   ⟨(some 75), none, .ld none (.t 74)⟩,
   ⟨(some 76), none, .conv .u8 (.t 75)⟩,
   ⟨(some 77), none, .bsl 1 [(.p (.int .u8 0))] 2 [(0, 1, (.t 73)), (1, 1, (.t 76))]⟩,
   ⟨(some 2), none, .mov (.t 77)⟩])
 (.ret)))⟩
theorem k_spec_l25Plain : compF Tryd.prog n_spec_l25Plain = some F_spec_l25Plain := by kernel_rfl

def F_spec_l5Truth : FK := ⟨4, [.t 2],
 .seq (.reg [⟨(some 2), none, .mov (.c (.p (.int .i64 0)))⟩])
 (.seq (.seq (.reg [⟨(some 3), none, .mov (.t 0)⟩])
 (.cond (.t 3)
  (.seq (.reg [⟨(some 2), none, .mov (.c (.p (.int .i64 1)))⟩])
  (.ret))
  (.skip)))
 (.seq (.reg [⟨(some 2), none, .mov (.c (.p (.int .i64 0)))⟩])
 (.ret)))⟩
theorem k_spec_l5Truth : compF Tryd.prog n_spec_l5Truth = some F_spec_l5Truth := by kernel_rfl

def F_spec_l25Size : FK := ⟨19, [.t 4],
 .seq (.reg [⟨(some 2), none, .box 5 (.t 0)⟩,
   ⟨(some 4), none, .mov (.c (.p (.int .i64 0)))⟩])
 (.seq (.seq (.reg [⟨(some 5), none, .ld (some 5) (.t 2)⟩,
   ⟨(some 6), none, .call n_spec_l24Jumps [(.t 5)]⟩,
   ⟨(some 7), none, .not (.t 6)⟩])
 (.cond (.t 7)
  (.seq (.reg [⟨(some 8), none, .ld (some 5) (.t 2)⟩,
    ⟨(some 9), none, .call n_spec_l25Plain [(.t 8)]⟩,
    ⟨(some 10), none, .len false (.t 9)⟩,
    ⟨(some 4), none, .mov (.t 10)⟩])
  (.ret))
  (.skip)))
 (.seq (.reg [⟨(some 11), none, .mov (.t 1)⟩,
   ⟨(some 14), none, .fldA 0 (.t 2)⟩,
   ⟨(some 15), none, .ld none (.t 14)⟩,
   ⟨(some 16), none, .bin .eql (.t 15) (.c (.p (.int .i64 21)))⟩,
   ⟨(some 12), none, .call n_spec_l5Truth [(.t 11)]⟩,
   ⟨none, none, .chk none 14 15⟩,
   ⟨(some 13), none, .bin .add (.c (.p (.int .i64 2))) (.t 12)⟩,
   ⟨(some 17), none, .call n_spec_l5Truth [(.t 16)]⟩,
   ⟨(some 18), none, .bin .add (.t 13) (.t 17)⟩,
   ⟨(some 4), none, .mov (.t 18)⟩])
 (.ret)))⟩
theorem k_spec_l25Size : compF Tryd.prog n_spec_l25Size = some F_spec_l25Size := by kernel_rfl

def F_spec_l25Places : FK := ⟨35, [.t 4, .t 5],
 .seq (.reg [⟨(some 2), none, .box 3 (.t 0)⟩,
   ⟨(some 4), none, .mov (.c .nils)⟩,
   ⟨(some 5), none, .mov (.c (.p (.int .i64 0)))⟩])
 (.seq (.reg [⟨(some 9), none, .bsl 1 [(.p (.int .i64 0))] 0 []⟩,
   ⟨(some 6), none, .mov (.t 9)⟩])
 (.seq (.reg [⟨(some 7), none, .mov (.c (.p (.int .i64 0)))⟩])
 (.seq (.seq (.reg [⟨(some 8), none, .mov (.c (.p (.int .i64 0)))⟩])
 (.blk 0 (.loop (.seq (.seq (.reg [⟨(some 10), none, .mov (.t 8)⟩,
   ⟨(some 11), none, .fldA 2 (.t 2)⟩,
   ⟨(some 12), none, .ld none (.t 11)⟩,
   ⟨(some 13), none, .len false (.t 12)⟩,
   ⟨(some 14), none, .bin .lss (.t 10) (.t 13)⟩])
 (.cond (.t 14)
  (.skip)
  (.exit 0)))
 (.seq (.blk 1 (.seq (.reg [⟨(some 17), none, .mov (.t 6)⟩,
   ⟨(some 18), none, .mov (.t 7)⟩,
   ⟨(some 19), none, .bsl 1 [(.p (.int .i64 0))] 1 [(0, 1, (.t 18))]⟩,
   ⟨(some 20), none, .app 1 8 (.t 17) (.t 19)⟩,
   ⟨(some 6), none, .mov (.t 20)⟩])
 (.reg [⟨(some 21), none, .mov (.t 7)⟩,
   ⟨(some 22), none, .fldA 2 (.t 2)⟩,
   ⟨(some 24), none, .mov (.t 8)⟩,
   ⟨(some 27), none, .mov (.t 1)⟩,
   ⟨(some 28), none, .mov (.t 8)⟩,
   ⟨(some 29), none, .idxS 1 (.t 27) (.t 28)⟩,
   ⟨(some 23), none, .ld none (.t 22)⟩,
   ⟨(some 25), none, .idxS 5 (.t 23) (.t 24)⟩,
   ⟨(some 26), none, .ld (some 5) (.t 25)⟩,
   ⟨(some 30), none, .ld none (.t 29)⟩,
   ⟨(some 31), none, .call n_spec_l25Size [(.t 26), (.t 30)]⟩,
   ⟨(some 32), none, .bin .add (.t 21) (.t 31)⟩,
   ⟨(some 7), none, .mov (.t 32)⟩])))
 (.reg [⟨(some 15), none, .mov (.t 8)⟩,
   ⟨(some 16), none, .bin .add (.t 15) (.c (.p (.int .i64 1)))⟩,
   ⟨(some 8), none, .mov (.t 16)⟩]))))))
 (.seq (.reg [⟨(some 33), none, .mov (.t 6)⟩,
   ⟨(some 34), none, .mov (.t 7)⟩,
   ⟨(some 4), none, .mov (.t 33)⟩,
   ⟨(some 5), none, .mov (.t 34)⟩])
 (.ret)))))⟩
theorem k_spec_l25Places : compF Tryd.prog n_spec_l25Places = some F_spec_l25Places := by kernel_rfl

def F_spec_l25Long : FK := ⟨73, [.t 2],
 .seq (.reg [⟨(some 1), none, .box 3 (.t 0)⟩,
   ⟨(some 2), none, .mov (.c .nils)⟩])
 (.seq (.reg [⟨(some 10), none, .fldA 2 (.t 1)⟩,
   ⟨(some 11), none, .ld none (.t 10)⟩,
   ⟨(some 12), none, .len false (.t 11)⟩,
   ⟨(some 13), none, .mks 1 1 [(.p (.bool false))] (.t 12) (.t 12)⟩,
   ⟨(some 3), none, .mov (.t 13)⟩])
 (.seq (.seq (.reg [⟨(some 4), none, .mov (.c (.p (.bool true)))⟩])
 (.blk 0 (.loop (.seq (.seq (.reg [⟨(some 14), none, .mov (.t 4)⟩])
 (.cond (.t 14)
  (.skip)
  (.exit 0)))
 (.blk 1 (.seq (.reg [⟨(some 4), none, .mov (.c (.p (.bool false)))⟩])
 (.seq (.reg [⟨(some 16), none, .ld (some 3) (.t 1)⟩,
   ⟨(some 17), none, .mov (.t 3)⟩,
   ⟨(some 18), none, .call n_spec_l25Places [(.t 16), (.t 17)]⟩,
   ⟨(some 15), none, .mov (.t 18)⟩,
   ⟨(some 19), none, .ext 0 (.t 15)⟩,
   ⟨(some 20), none, .ext 1 (.t 15)⟩,
   ⟨(some 5), none, .mov (.t 19)⟩,
   ⟨(some 6), none, .mov (.t 20)⟩])
 (.seq (.reg [⟨(some 21), none, .bsl 1 [(.p (.bool false))] 0 []⟩,
   ⟨(some 22), none, .mov (.t 3)⟩,
   ⟨(some 23), none, .app 1 1 (.t 21) (.t 22)⟩,
   ⟨(some 7), none, .mov (.t 23)⟩])
 (.seq (.seq (.reg [⟨(some 8), none, .mov (.c (.p (.int .i64 0)))⟩])
 (.blk 2 (.loop (.seq (.seq (.reg [⟨(some 24), none, .mov (.t 8)⟩,
   ⟨(some 25), none, .fldA 2 (.t 1)⟩,
   ⟨(some 26), none, .ld none (.t 25)⟩,
   ⟨(some 27), none, .len false (.t 26)⟩,
   ⟨(some 28), none, .bin .lss (.t 24) (.t 27)⟩])
 (.cond (.t 28)
  (.skip)
  (.exit 2)))
 (.seq (.blk 3 (.seq (.seq (.reg [⟨(some 31), none, .fldA 2 (.t 1)⟩,
   ⟨(some 32), none, .ld none (.t 31)⟩,
   ⟨(some 33), none, .mov (.t 8)⟩,
   ⟨(some 34), none, .idxS 5 (.t 32) (.t 33)⟩,
   ⟨(some 35), none, .ld (some 5) (.t 34)⟩,
   ⟨(some 36), none, .call n_spec_l24Jumps [(.t 35)]⟩,
   ⟨(some 37), none, .not (.t 36)⟩,
   ⟨(some 38), none, .mov (.t 37)⟩,
   ⟨(some 39), (some (38, false)), .mov (.t 3)⟩,
   ⟨(some 40), (some (38, false)), .mov (.t 8)⟩,
   ⟨(some 41), (some (38, false)), .idxS 1 (.t 39) (.t 40)⟩,
   ⟨(some 42), (some (38, false)), .ld none (.t 41)⟩,
   ⟨(some 43), none, .pick (.t 38) (.c (.p (.bool true))) (.t 42)⟩])
 (.cond (.t 43)
  (.exit 3)
  (.skip)))
 (.seq (.reg [⟨(some 44), none, .mov (.t 5)⟩,
   ⟨(some 45), none, .fldA 2 (.t 1)⟩,
   ⟨(some 47), none, .mov (.t 8)⟩,
   ⟨(some 53), none, .mov (.t 5)⟩,
   ⟨(some 54), none, .mov (.t 8)⟩,
   ⟨(some 55), none, .idxS 1 (.t 53) (.t 54)⟩,
   ⟨(some 58), none, .fldA 2 (.t 1)⟩,
   ⟨(some 60), none, .mov (.t 8)⟩,
   ⟨(some 46), none, .ld none (.t 45)⟩,
   ⟨(some 48), none, .idxS 5 (.t 46) (.t 47)⟩,
   ⟨(some 49), none, .fldA 4 (.t 48)⟩,
   ⟨(some 50), none, .ld none (.t 49)⟩,
   ⟨(some 51), none, .idxS 1 (.t 44) (.t 50)⟩,
   ⟨(some 52), none, .ld none (.t 51)⟩,
   ⟨(some 56), none, .ld none (.t 55)⟩,
   ⟨(some 57), none, .bin .sub (.t 52) (.t 56)⟩,
   ⟨(some 59), none, .ld none (.t 58)⟩,
   ⟨(some 61), none, .idxS 5 (.t 59) (.t 60)⟩,
   ⟨(some 62), none, .ld (some 5) (.t 61)⟩,
   ⟨(some 63), none, .call n_spec_l25Size [(.t 62), (.c (.p (.bool false)))]⟩,
   ⟨none, none, .chk none 45 46⟩,
   ⟨none, none, .chk none 49 50⟩,
   ⟨none, none, .chk none 51 52⟩,
   ⟨none, none, .chk none 55 56⟩,
   ⟨(some 64), none, .bin .sub (.t 57) (.t 63)⟩,
   ⟨(some 9), none, .mov (.t 64)⟩])
 (.seq (.reg [⟨(some 65), none, .mov (.t 9)⟩,
   ⟨(some 66), none, .call n_spec_l1In [(.t 65), (.c (.p (.int .i64 (-128)))), (.c (.p (.int .i64 127)))]⟩,
   ⟨(some 67), none, .not (.t 66)⟩])
 (.cond (.t 67)
  (.seq (.reg [⟨(some 68), none, .mov (.t 7)⟩,
    ⟨(some 69), none, .mov (.t 8)⟩,
    ⟨(some 70), none, .idxS 1 (.t 68) (.t 69)⟩,
    ⟨none, none, .st 1 (.t 70) (.c (.p (.bool true)))⟩])
  (.reg [⟨(some 4), none, .mov (.c (.p (.bool true)))⟩]))
  (.skip))))))
 (.reg [⟨(some 29), none, .mov (.t 8)⟩,
   ⟨(some 30), none, .bin .add (.t 29) (.c (.p (.int .i64 1)))⟩,
   ⟨(some 8), none, .mov (.t 30)⟩]))))))
 (.reg [⟨(some 71), none, .mov (.t 7)⟩,
   ⟨(some 3), none, .mov (.t 71)⟩]))))))))))
 (.seq (.reg [⟨(some 72), none, .mov (.t 3)⟩,
   ⟨(some 2), none, .mov (.t 72)⟩])
 (.ret))))⟩
theorem k_spec_l25Long : compF Tryd.prog n_spec_l25Long = some F_spec_l25Long := by kernel_rfl

def F_spec_l25Can : FK := ⟨18, [.t 2],
 .seq (.reg [⟨(some 1), none, .box 3 (.t 0)⟩,
   ⟨(some 2), none, .mov (.c (.p (.bool false)))⟩])
 (.seq (.seq (.reg [⟨(some 5), none, .ld (some 3) (.t 1)⟩,
   ⟨(some 6), none, .call n_spec_l25Alone [(.t 5)]⟩,
   ⟨(some 7), none, .call n_spec_MachValid [(.t 6)]⟩,
   ⟨(some 8), none, .not (.t 7)⟩])
 (.cond (.t 8)
  (.seq (.reg [⟨(some 2), none, .mov (.c (.p (.bool false)))⟩])
  (.ret))
  (.skip)))
 (.seq (.reg [⟨(some 10), none, .ld (some 3) (.t 1)⟩,
   ⟨(some 11), none, .ld (some 3) (.t 1)⟩,
   ⟨(some 12), none, .call n_spec_l25Long [(.t 11)]⟩,
   ⟨none, none, .chk (some 3) 1 10⟩,
   ⟨(some 13), none, .call n_spec_l25Places [(.t 10), (.t 12)]⟩,
   ⟨(some 9), none, .mov (.t 13)⟩,
   ⟨(some 14), none, .ext 0 (.t 9)⟩,
   ⟨(some 15), none, .ext 1 (.t 9)⟩,
   ⟨(some 3), none, .mov (.t 14)⟩,
   ⟨(some 4), none, .mov (.t 15)⟩])
 (.seq (.reg [⟨(some 16), none, .mov (.t 4)⟩,
   ⟨(some 17), none, .bin .leq (.t 16) (.c (.p (.int .i64 8000)))⟩,
   ⟨(some 2), none, .mov (.t 17)⟩])
 (.ret))))⟩
theorem k_spec_l25Can : compF Tryd.prog n_spec_l25Can = some F_spec_l25Can := by kernel_rfl

def F_spec_EncodeFn : FK := ⟨98, [.t 2, .t 3],
 .seq (.reg [⟨(some 1), none, .box 3 (.t 0)⟩,
   ⟨(some 2), none, .mov (.c .nils)⟩,
   ⟨(some 3), none, .mov (.c (.p (.bool false)))⟩])
 (.seq (.reg [⟨(some 11), none, .bsl 1 [(.p (.int .u8 0))] 0 []⟩,
   ⟨(some 4), none, .mov (.t 11)⟩])
 (.seq (.seq (.reg [⟨(some 12), none, .ld (some 3) (.t 1)⟩,
   ⟨(some 13), none, .call n_spec_l25Can [(.t 12)]⟩,
   ⟨(some 14), none, .not (.t 13)⟩])
 (.cond (.t 14)
  (.seq (.reg [⟨(some 15), none, .mov (.t 4)⟩,
    ⟨(some 2), none, .mov (.t 15)⟩,
    ⟨(some 3), none, .mov (.c (.p (.bool false)))⟩])
  (.ret))
  (.skip)))
 (.seq (.reg [⟨(some 16), none, .ld (some 3) (.t 1)⟩,
   ⟨(some 17), none, .call n_spec_l25Long [(.t 16)]⟩,
   ⟨(some 5), none, .mov (.t 17)⟩])
 (.seq (.reg [⟨(some 19), none, .ld (some 3) (.t 1)⟩,
   ⟨(some 20), none, .mov (.t 5)⟩,
   ⟨(some 21), none, .call n_spec_l25Places [(.t 19), (.t 20)]⟩,
   ⟨(some 18), none, .mov (.t 21)⟩,
   ⟨(some 22), none, .ext 0 (.t 18)⟩,
   ⟨(some 23), none, .ext 1 (.t 18)⟩,
   ⟨(some 6), none, .mov (.t 22)⟩,
   ⟨(some 7), none, .mov (.t 23)⟩])
 (.seq (.seq (.reg [⟨(some 8), none, .mov (.c (.p (.int .i64 0)))⟩])
 (.blk 0 (.loop (.seq (.seq (.reg [⟨(some 24), none, .mov (.t 8)⟩,
   ⟨(some 25), none, .fldA 2 (.t 1)⟩,
   ⟨(some 26), none, .ld none (.t 25)⟩,
   ⟨(some 27), none, .len false (.t 26)⟩,
   ⟨(some 28), none, .bin .lss (.t 24) (.t 27)⟩])
 (.cond (.t 28)
  (.skip)
  (.exit 0)))
 (.seq (.blk 1 (.seq (.reg [⟨(some 31), none, .fldA 2 (.t 1)⟩,
   ⟨(some 32), none, .ld none (.t 31)⟩,
   ⟨(some 33), none, .mov (.t 8)⟩,
   ⟨(some 34), none, .idxS 5 (.t 32) (.t 33)⟩,
   ⟨(some 35), none, .ld (some 5) (.t 34)⟩,
   ⟨(some 9), none, .alloc [(.p (.int .i64 0)), (.p (.int .i64 0)), (.p (.int .i64 0)), (.p (.int .i64 0)), (.p (.int .i64 0))]⟩,
   ⟨none, none, .st 5 (.t 9) (.t 35)⟩])
 (.seq (.seq (.reg [⟨(some 36), none, .ld (some 5) (.t 9)⟩,
   ⟨(some 37), none, .call n_spec_l24Jumps [(.t 36)]⟩,
   ⟨(some 38), none, .not (.t 37)⟩])
 (.cond (.t 38)
  (.seq (.reg [⟨(some 39), none, .mov (.t 4)⟩,
    ⟨(some 40), none, .ld (some 5) (.t 9)⟩,
    ⟨(some 41), none, .call n_spec_l25Plain [(.t 40)]⟩,
    ⟨(some 42), none, .app 1 1 (.t 39) (.t 41)⟩,
    ⟨(some 4), none, .mov (.t 42)⟩])
  (.exit 1))
  (.skip)))
 (.seq (.reg [⟨(some 43), none, .mov (.t 6)⟩,
   ⟨(some 44), none, .fldA 4 (.t 9)⟩,
   ⟨(some 45), none, .ld none (.t 44)⟩,
   ⟨(some 46), none, .idxS 1 (.t 43) (.t 45)⟩,
   ⟨(some 47), none, .ld none (.t 46)⟩,
   ⟨(some 10), none, .mov (.t 47)⟩])
 (.seq (.reg [⟨(some 48), none, .mov (.t 4)⟩,
   ⟨(some 49), none, .fldA 0 (.t 9)⟩,
   ⟨(some 51), none, .mov (.t 5)⟩,
   ⟨(some 52), none, .mov (.t 8)⟩,
   ⟨(some 53), none, .idxS 1 (.t 51) (.t 52)⟩,
   ⟨(some 50), none, .ld none (.t 49)⟩,
   ⟨(some 54), none, .ld none (.t 53)⟩,
   ⟨(some 55), none, .call n_spec_l5Truth [(.t 54)]⟩,
   ⟨none, none, .chk none 49 50⟩,
   ⟨(some 56), none, .bin .mul (.c (.p (.int .i64 128))) (.t 55)⟩,
   ⟨(some 57), none, .bin .add (.t 50) (.t 56)⟩,
   ⟨(some 58), none, .conv .u8 (.t 57)⟩,
   ⟨(some 59), none, .bsl 1 [(.p (.int .u8 0))] 1 [(0, 1, (.t 58))]⟩,
   ⟨(some 60), none, .app 1 1 (.t 48) (.t 59)⟩,
   ⟨(some 4), none, .mov (.t 60)⟩])
 (.seq (.seq (.reg [⟨(some 61), none, .fldA 0 (.t 9)⟩,
   ⟨(some 62), none, .ld none (.t 61)⟩,
   ⟨(some 63), none, .bin .eql (.t 62) (.c (.p (.int .i64 21)))⟩])
 (.cond (.t 63)
  (.reg [⟨(some 64), none, .mov (.t 4)⟩,
    ⟨(some 65), none, .fldA 1 (.t 9)⟩,
    ⟨(some 66), none, .ld none (.t 65)⟩,
    ⟨(some 67), none, .conv .u8 (.t 66)⟩,
    ⟨(some 68), none, .bsl 1 [(.p (.int .u8 0))] 1 [(0, 1, (.t 67))]⟩,
    ⟨(some 69), none, .app 1 1 (.t 64) (.t 68)⟩,
    ⟨(some 4), none, .mov (.t 69)⟩])
  (.skip)))
 (.seq (.reg [⟨(some 70), none, .mov (.t 5)⟩,
   ⟨(some 71), none, .mov (.t 8)⟩,
   ⟨(some 72), none, .idxS 1 (.t 70) (.t 71)⟩,
   ⟨(some 73), none, .ld none (.t 72)⟩])
 (.cond (.t 73)
  (.reg [⟨(some 74), none, .mov (.t 4)⟩,
    ⟨(some 75), none, .mov (.t 10)⟩,
    ⟨(some 76), none, .bin .rem (.t 75) (.c (.p (.int .i64 256)))⟩,
    ⟨(some 77), none, .conv .u8 (.t 76)⟩,
    ⟨(some 78), none, .mov (.t 10)⟩,
    ⟨(some 79), none, .bin .quo (.t 78) (.c (.p (.int .i64 256)))⟩,
    ⟨(some 80), none, .conv .u8 (.t 79)⟩,
    ⟨(some 81), none, .bsl 1 [(.p (.int .u8 0))] 2 [(0, 1, (.t 77)), (1, 1, (.t 80))]⟩,
    ⟨(some 82), none, .app 1 1 (.t 74) (.t 81)⟩,
    ⟨(some 4), none, .mov (.t 82)⟩])
  (.reg [⟨(some 83), none, .mov (.t 4)⟩,
    ⟨(some 84), none, .mov (.t 10)⟩,
    ⟨(some 85), none, .mov (.t 6)⟩,
    ⟨(some 86), none, .mov (.t 8)⟩,
    ⟨(some 87), none, .idxS 1 (.t 85) (.t 86)⟩,
    ⟨(some 88), none, .ld none (.t 87)⟩,
    ⟨(some 89), none, .bin .sub (.t 84) (.t 88)⟩,
    ⟨(some 90), none, .ld (some 5) (.t 9)⟩,
    ⟨(some 91), none, .call n_spec_l25Size [(.t 90), (.c (.p (.bool false)))]⟩,
    ⟨none, none, .chk none 87 88⟩,
    ⟨(some 92), none, .bin .sub (.t 89) (.t 91)⟩,
    ⟨(some 93), none, .bin .add (.t 92) (.c (.p (.int .i64 256)))⟩,
    ⟨(some 94), none, .conv .u8 (.t 93)⟩,
    ⟨(some 95), none, .bsl 1 [(.p (.int .u8 0))] 1 [(0, 1, (.t 94))]⟩,
    ⟨(some 96), none, .app 1 1 (.t 83) (.t 95)⟩,
    ⟨(some 4), none, .mov (.t 96)⟩])))))))))
 (.reg [⟨(some 29), none, .mov (.t 8)⟩,
   ⟨(some 30), none, .bin .add (.t 29) (.c (.p (.int .i64 1)))⟩,
   ⟨(some 8), none, .mov (.t 30)⟩]))))))
 (.seq (.reg [⟨(some 97), none, .mov (.t 4)⟩,
   ⟨(some 2), none, .mov (.t 97)⟩,
   ⟨(some 3), none, .mov (.c (.p (.bool true)))⟩])
 (.ret)))))))⟩
theorem k_spec_EncodeFn : compF Tryd.prog n_spec_EncodeFn = some F_spec_EncodeFn := by kernel_rfl

def F_spec_ImageOf : FK := ⟨65, [.t 2, .t 3],
 .seq (.reg [⟨(some 1), none, .box 1 (.t 0)⟩,
   ⟨(some 2), none, .mov (.c .nils)⟩,
   ⟨(some 3), none, .mov (.c (.p (.bool false)))⟩])
 (.seq (.seq (.reg [⟨(some 8), none, .ld (some 1) (.t 1)⟩,
   ⟨(some 9), none, .call n_spec_MachValid [(.t 8)]⟩,
   ⟨(some 10), none, .not (.t 9)⟩])
 (.cond (.t 10)
  (.seq (.reg [⟨(some 11), none, .bsl 1 [(.p (.int .u8 0))] 0 []⟩,
    ⟨(some 2), none, .mov (.t 11)⟩,
    ⟨(some 3), none, .mov (.c (.p (.bool false)))⟩])
  (.ret))
  (.skip)))
 (.seq (.reg [⟨(some 12), none, .fldA 0 (.t 1)⟩,
   ⟨(some 13), none, .ld none (.t 12)⟩,
   ⟨(some 14), none, .len false (.t 13)⟩,
   ⟨(some 15), none, .conv .u8 (.t 14)⟩,
   ⟨(some 16), none, .bsl 1 [(.p (.int .u8 0))] 3 [(0, 1, (.c (.p (.int .u8 87)))), (1, 1, (.c (.p (.int .u8 119)))), (2, 1, (.t 15))]⟩,
   ⟨(some 4), none, .mov (.t 16)⟩])
 (.seq (.seq (.reg [⟨(some 5), none, .mov (.c (.p (.int .i64 0)))⟩])
 (.blk 0 (.loop (.seq (.seq (.reg [⟨(some 17), none, .mov (.t 5)⟩,
   ⟨(some 18), none, .fldA 0 (.t 1)⟩,
   ⟨(some 19), none, .ld none (.t 18)⟩,
   ⟨(some 20), none, .len false (.t 19)⟩,
   ⟨(some 21), none, .bin .lss (.t 17) (.t 20)⟩])
 (.cond (.t 21)
  (.skip)
  (.exit 0)))
 (.seq (.blk 1 (.seq (.reg [⟨(some 25), none, .fldA 0 (.t 1)⟩,
   ⟨(some 26), none, .ld none (.t 25)⟩,
   ⟨(some 27), none, .mov (.t 5)⟩,
   ⟨(some 28), none, .idxS 3 (.t 26) (.t 27)⟩,
   ⟨(some 29), none, .ld (some 3) (.t 28)⟩,
   ⟨(some 30), none, .call n_spec_EncodeFn [(.t 29)]⟩,
   ⟨(some 24), none, .mov (.t 30)⟩,
   ⟨(some 31), none, .ext 0 (.t 24)⟩,
   ⟨(some 32), none, .ext 1 (.t 24)⟩,
   ⟨(some 6), none, .mov (.t 31)⟩,
   ⟨(some 7), none, .mov (.t 32)⟩])
 (.seq (.seq (.reg [⟨(some 33), none, .mov (.t 7)⟩,
   ⟨(some 34), none, .not (.t 33)⟩])
 (.cond (.t 34)
  (.seq (.reg [⟨(some 35), none, .bsl 1 [(.p (.int .u8 0))] 0 []⟩,
    ⟨(some 2), none, .mov (.t 35)⟩,
    ⟨(some 3), none, .mov (.c (.p (.bool false)))⟩])
  (.ret))
  (.skip)))
 (.seq (.reg [⟨(some 36), none, .mov (.t 4)⟩,
   ⟨(some 37), none, .fldA 0 (.t 1)⟩,
   ⟨(some 39), none, .mov (.t 5)⟩,
   ⟨(some 44), none, .fldA 0 (.t 1)⟩,
   ⟨(some 46), none, .mov (.t 5)⟩,
   ⟨(some 51), none, .mov (.t 6)⟩,
   ⟨(some 52), none, .len false (.t 51)⟩,
   ⟨(some 53), none, .bin .rem (.t 52) (.c (.p (.int .i64 256)))⟩,
   ⟨(some 54), none, .conv .u8 (.t 53)⟩,
   ⟨(some 55), none, .mov (.t 6)⟩,
   ⟨(some 56), none, .len false (.t 55)⟩,
   ⟨(some 57), none, .bin .quo (.t 56) (.c (.p (.int .i64 256)))⟩,
   ⟨(some 58), none, .conv .u8 (.t 57)⟩,
   ⟨(some 38), none, .ld none (.t 37)⟩,
   ⟨(some 40), none, .idxS 3 (.t 38) (.t 39)⟩,
   ⟨(some 41), none, .fldA 0 (.t 40)⟩,
   ⟨(some 42), none, .ld none (.t 41)⟩,
   ⟨(some 43), none, .conv .u8 (.t 42)⟩,
   ⟨(some 45), none, .ld none (.t 44)⟩,
   ⟨(some 47), none, .idxS 3 (.t 45) (.t 46)⟩,
   ⟨(some 48), none, .fldA 1 (.t 47)⟩,
   ⟨(some 49), none, .ld none (.t 48)⟩,
   ⟨(some 50), none, .conv .u8 (.t 49)⟩,
   ⟨(some 59), none, .bsl 1 [(.p (.int .u8 0))] 4 [(0, 1, (.t 43)), (1, 1, (.t 50)), (2, 1, (.t 54)), (3, 1, (.t 58))]⟩,
   ⟨(some 60), none, .app 1 1 (.t 36) (.t 59)⟩,
   ⟨(some 4), none, .mov (.t 60)⟩])
 (.reg [⟨(some 61), none, .mov (.t 4)⟩,
   ⟨(some 62), none, .mov (.t 6)⟩,
   ⟨(some 63), none, .app 1 1 (.t 61) (.t 62)⟩,
   ⟨(some 4), none, .mov (.t 63)⟩])))))
 (.reg [⟨(some 22), none, .mov (.t 5)⟩,
   ⟨(some 23), none, .bin .add (.t 22) (.c (.p (.int .i64 1)))⟩,
   ⟨(some 5), none, .mov (.t 23)⟩]))))))
 (.seq (.reg [⟨(some 64), none, .mov (.t 4)⟩,
   ⟨(some 2), none, .mov (.t 64)⟩,
   ⟨(some 3), none, .mov (.c (.p (.bool true)))⟩])
 (.ret)))))⟩
theorem k_spec_ImageOf : compF Tryd.prog n_spec_ImageOf = some F_spec_ImageOf := by kernel_rfl

def F_impl_within : FK := ⟨15, [.t 6],
 .seq (.reg [⟨(some 6), none, .mov (.c (.p (.bool false)))⟩])
 (.seq (.reg [⟨(some 7), none, .mov (.t 1)⟩,
   ⟨(some 8), none, .mov (.t 0)⟩,
   ⟨(some 9), none, .bin .leq (.t 7) (.t 8)⟩,
   ⟨(some 10), none, .mov (.t 9)⟩,
   ⟨(some 11), (some (10, true)), .mov (.t 0)⟩,
   ⟨(some 12), (some (10, true)), .mov (.t 2)⟩,
   ⟨(some 13), (some (10, true)), .bin .leq (.t 11) (.t 12)⟩,
   ⟨(some 14), none, .pick (.t 10) (.t 13) (.c (.p (.bool false)))⟩,
   ⟨(some 6), none, .mov (.t 14)⟩])
 (.ret))⟩
theorem k_impl_within : compF Tryd.prog n_impl_within = some F_impl_within := by kernel_rfl

def F_slices_IndexFunc_impl_Mins : FK := ⟨19, [.t 4],
 .seq (.reg [⟨(some 4), none, .mov (.c (.p (.int .i64 0)))⟩])
 (.seq (.seq (.reg [⟨(some 6), none, .mov (.t 0)⟩,
   ⟨(some 7), none, .len false (.t 6)⟩,
   ⟨(some 8), none, .mov (.c (.p (.int .i64 0)))⟩])
 (.blk 0 (.loop (.seq (.reg [⟨(some 9), none, .bin .lss (.t 8) (.t 7)⟩])
 (.seq (.cond (.t 9)
  (.skip)
  (.exit 0))
 (.seq (.blk 1 (.seq (.reg [⟨(some 10), none, .mov (.t 8)⟩,
   ⟨(some 5), none, .mov (.t 10)⟩])
 (.seq (.reg [⟨(some 11), none, .mov (.t 1)⟩,
   ⟨(some 12), none, .mov (.t 0)⟩,
   ⟨(some 13), none, .mov (.t 5)⟩,
   ⟨(some 14), none, .idxS 5 (.t 12) (.t 13)⟩,
   ⟨(some 15), none, .ld (some 5) (.t 14)⟩,
   ⟨(some 16), none, .callv (.t 11) [(.t 15)]⟩])
 (.cond (.t 16)
  (.seq (.reg [⟨(some 17), none, .mov (.t 5)⟩,
    ⟨(some 4), none, .mov (.t 17)⟩])
  (.ret))
  (.skip)))))
 (.reg [⟨(some 18), none, .bin .add (.t 8) (.c (.p (.int .i64 1)))⟩,
   ⟨(some 8), none, .mov (.t 18)⟩])))))))
 (.seq (.reg [⟨(some 4), none, .mov (.c (.p (.int .i64 (-1))))⟩])
 (.ret)))⟩
theorem k_slices_IndexFunc_impl_Mins : compF Tryd.prog n_slices_IndexFunc_impl_Mins = some F_slices_IndexFunc_impl_Mins := by kernel_rfl

def F_slices_ContainsFunc_impl_Mins : FK := ⟨9, [.t 4],
 .seq (.reg [⟨(some 4), none, .mov (.c (.p (.bool false)))⟩])
 (.seq (.reg [⟨(some 5), none, .mov (.t 0)⟩,
   ⟨(some 6), none, .mov (.t 1)⟩,
   ⟨(some 7), none, .call n_slices_IndexFunc_impl_Mins [(.t 5), (.t 6)]⟩,
   ⟨(some 8), none, .bin .geq (.t 7) (.c (.p (.int .i64 0)))⟩,
   ⟨(some 4), none, .mov (.t 8)⟩])
 (.ret))⟩
theorem k_slices_ContainsFunc_impl_Mins : compF Tryd.prog n_slices_ContainsFunc_impl_Mins = some F_slices_ContainsFunc_impl_Mins := by kernel_rfl

def F_impl_formOf : FK := ⟨42, [.c 2 (some 2), .t 3],
 .seq (.reg [⟨(some 1), none, .box 5 (.t 0)⟩,
   ⟨(some 2), none, .alloc [(.p (.str [])), (.p (.int .i64 0))]⟩,
   ⟨(some 3), none, .mov (.c (.p (.bool false)))⟩])
 (.seq (.seq (.reg [⟨(some 7), none, .fldA 0 (.t 1)⟩,
   ⟨(some 8), none, .ld none (.t 7)⟩,
   ⟨(some 9), none, .call n_impl_within [(.t 8), (.c (.p (.int .i64 1))), (.c (.p (.int .i64 22)))]⟩,
   ⟨(some 10), none, .not (.t 9)⟩])
 (.cond (.t 10)
  (.seq (.reg [⟨(some 11), none, .bld [(.p (.str [])), (.p (.int .i64 0))] []⟩,
    ⟨none, none, .st 2 (.t 2) (.t 11)⟩,
    ⟨(some 3), none, .mov (.c (.p (.bool false)))⟩])
  (.ret))
  (.skip)))
 (.seq (.reg [⟨(some 12), none, .fldA 0 (.t 1)⟩,
   ⟨(some 13), none, .ld none (.t 12)⟩,
   ⟨(some 14), none, .idxA 23 2 (.c (.gp 2 0)) (.t 13)⟩,
   ⟨(some 15), none, .ld (some 2) (.t 14)⟩,
   ⟨(some 4), none, .alloc [(.p (.str [])), (.p (.int .i64 0))]⟩,
   ⟨none, none, .st 2 (.t 4) (.t 15)⟩])
 (.seq (.seq (.reg [⟨(some 16), none, .fldA 1 (.t 1)⟩,
   ⟨(some 17), none, .ld none (.t 16)⟩,
   ⟨(some 18), none, .fldA 2 (.t 1)⟩,
   ⟨(some 19), none, .ld none (.t 18)⟩,
   ⟨(some 20), none, .fldA 3 (.t 1)⟩,
   ⟨(some 21), none, .ld none (.t 20)⟩,
   ⟨(some 22), none, .fldA 4 (.t 1)⟩,
   ⟨(some 23), none, .ld none (.t 22)⟩,
   ⟨(some 24), none, .bld [(.p (.int .i64 0)), (.p (.int .i64 0)), (.p (.int .i64 0)), (.p (.int .i64 0))] [(0, 1, (.t 17)), (1, 1, (.t 19)), (2, 1, (.t 21)), (3, 1, (.t 23))]⟩,
   ⟨(some 25), none, .mov (.c (.p (.int .i64 0)))⟩])
 (.blk 0 (.loop (.seq (.reg [⟨(some 26), none, .bin .lss (.t 25) (.c (.p (.int .i64 4)))⟩])
 (.seq (.cond (.t 26)
  (.skip)
  (.exit 0))
 (.seq (.blk 1 (.seq (.reg [⟨(some 27), none, .mov (.t 25)⟩,
   ⟨(some 28), none, .idxV 4 1 none (.t 24) (.t 25)⟩,
   ⟨(some 5), none, .mov (.t 27)⟩,
   ⟨(some 6), none, .mov (.t 28)⟩])
 (.seq (.reg [⟨(some 29), none, .fldA 1 (.t 4)⟩,
   ⟨(some 31), none, .mov (.t 5)⟩,
   ⟨(some 32), none, .bin .shl (.c (.p (.int .i64 1))) (.t 31)⟩,
   ⟨(some 30), none, .ld none (.t 29)⟩,
   ⟨(some 33), none, .bin .and (.t 30) (.t 32)⟩,
   ⟨(some 34), none, .bin .eql (.t 33) (.c (.p (.int .i64 0)))⟩,
   ⟨(some 35), none, .mov (.t 34)⟩,
   ⟨(some 36), (some (35, true)), .mov (.t 6)⟩,
   ⟨(some 37), (some (35, true)), .bin .neq (.t 36) (.c (.p (.int .i64 0)))⟩,
   ⟨(some 38), none, .pick (.t 35) (.t 37) (.c (.p (.bool false)))⟩])
 (.cond (.t 38)
  (.seq (.reg [⟨(some 39), none, .bld [(.p (.str [])), (.p (.int .i64 0))] []⟩,
    ⟨none, none, .st 2 (.t 2) (.t 39)⟩,
    ⟨(some 3), none, .mov (.c (.p (.bool false)))⟩])
  (.ret))
  (.skip)))))
 (.reg [⟨(some 40), none, .bin .add (.t 25) (.c (.p (.int .i64 1)))⟩,
   ⟨(some 25), none, .mov (.t 40)⟩])))))))
 (.seq (.reg [⟨(some 41), none, .ld (some 2) (.t 4)⟩,
   ⟨none, none, .st 2 (.t 2) (.t 41)⟩,
   ⟨(some 3), none, .mov (.c (.p (.bool true)))⟩])
 (.ret)))))⟩
theorem k_impl_formOf : compF Tryd.prog n_impl_formOf = some F_impl_formOf := by kernel_rfl

def F_impl_minsOk : FK := ⟨83, [.t 6],
 .seq (.reg [⟨(some 3), none, .box 1 (.t 0)⟩,
   ⟨(some 5), none, .box 5 (.t 2)⟩,
   ⟨(some 6), none, .mov (.c (.p (.bool false)))⟩])
 (.seq (.reg [⟨(some 11), none, .ld (some 5) (.t 5)⟩,
   ⟨(some 12), none, .call n_impl_formOf [(.t 11)]⟩,
   ⟨(some 10), none, .mov (.t 12)⟩,
   ⟨(some 13), none, .ext 0 (.t 10)⟩,
   ⟨(some 14), none, .ext 1 (.t 10)⟩,
   ⟨(some 7), none, .alloc [(.p (.str [])), (.p (.int .i64 0))]⟩,
   ⟨none, none, .st 2 (.t 7) (.t 13)⟩,
   ⟨(some 8), none, .mov (.t 14)⟩])
 (.seq (.seq (.reg [⟨(some 15), none, .mov (.t 8)⟩,
   ⟨(some 16), none, .not (.t 15)⟩,
   ⟨(some 17), none, .mov (.t 16)⟩,
   ⟨(some 18), (some (17, false)), .fldA 1 (.t 5)⟩,
   ⟨(some 19), (some (17, false)), .ld none (.t 18)⟩,
   ⟨(some 20), (some (17, false)), .call n_impl_within [(.t 19), (.c (.p (.int .i64 0))), (.c (.p (.int .i64 7)))]⟩,
   ⟨(some 21), (some (17, false)), .not (.t 20)⟩,
   ⟨(some 22), none, .pick (.t 17) (.c (.p (.bool true))) (.t 21)⟩,
   ⟨(some 23), none, .mov (.t 22)⟩,
   ⟨(some 24), (some (23, false)), .fldA 2 (.t 5)⟩,
   ⟨(some 25), (some (23, false)), .ld none (.t 24)⟩,
   ⟨(some 26), (some (23, false)), .call n_impl_within [(.t 25), (.c (.p (.int .i64 0))), (.c (.p (.int .i64 7)))]⟩,
   ⟨(some 27), (some (23, false)), .not (.t 26)⟩,
   ⟨(some 28), none, .pick (.t 23) (.c (.p (.bool true))) (.t 27)⟩,
   ⟨(some 29), none, .mov (.t 28)⟩,
   ⟨(some 30), (some (29, false)), .fldA 3 (.t 5)⟩,
   ⟨(some 31), (some (29, false)), .ld none (.t 30)⟩,
   ⟨(some 32), (some (29, false)), .call n_impl_within [(.t 31), (.c (.p (.int .i64 0))), (.c (.p (.int .i64 7)))]⟩,
   ⟨(some 33), (some (29, false)), .not (.t 32)⟩,
   ⟨(some 34), none, .pick (.t 29) (.c (.p (.bool true))) (.t 33)⟩])
 (.cond (.t 34)
  (.seq (.reg [⟨(some 6), none, .mov (.c (.p (.bool false)))⟩])
  (.ret))
  (.skip)))
 (.seq (.reg [⟨(some 9), none, .mov (.c (.p (.int .i64 255)))⟩])
 (.seq (.seq (.reg [⟨(some 35), none, .fldA 0 (.t 5)⟩,
   ⟨(some 36), none, .ld none (.t 35)⟩])
 (.blk 0 (.seq (.reg [⟨(some 38), none, .bin .eql (.t 36) (.c (.p (.int .i64 14)))⟩,
   ⟨(some 37), none, .mov (.t 38)⟩])
 (.cond (.t 37)
  (.reg [⟨(some 39), none, .mov (.t 1)⟩,
    ⟨(some 40), none, .bin .sub (.t 39) (.c (.p (.int .i64 1)))⟩,
    ⟨(some 9), none, .mov (.t 40)⟩])
  (.seq (.seq (.reg [⟨(some 42), none, .bin .eql (.t 36) (.c (.p (.int .i64 15)))⟩,
    ⟨(some 41), none, .mov (.t 42)⟩])
  (.cond (.t 41)
   (.skip)
   (.reg [⟨(some 43), none, .bin .eql (.t 36) (.c (.p (.int .i64 16)))⟩,
     ⟨(some 41), none, .mov (.t 43)⟩])))
  (.cond (.t 41)
   (.reg [⟨(some 44), none, .fldA 0 (.t 3)⟩,
     ⟨(some 45), none, .ld none (.t 44)⟩,
     ⟨(some 46), none, .mov (.t 1)⟩,
     ⟨(some 47), none, .idxS 3 (.t 45) (.t 46)⟩,
     ⟨(some 48), none, .fldA 1 (.t 47)⟩,
     ⟨(some 49), none, .ld none (.t 48)⟩,
     ⟨(some 50), none, .bin .sub (.t 49) (.c (.p (.int .i64 1)))⟩,
     ⟨(some 9), none, .mov (.t 50)⟩])
   (.seq (.reg [⟨(some 52), none, .bin .eql (.t 36) (.c (.p (.int .i64 17)))⟩,
     ⟨(some 51), none, .mov (.t 52)⟩])
   (.cond (.t 51)
    (.reg [⟨(some 9), none, .mov (.c (.p (.int .i64 2)))⟩])
    (.seq (.reg [⟨(some 54), none, .bin .eql (.t 36) (.c (.p (.int .i64 18)))⟩,
      ⟨(some 53), none, .mov (.t 54)⟩])
    (.cond (.t 53)
     (.reg [⟨(some 55), none, .fldA 0 (.t 3)⟩,
       ⟨(some 56), none, .ld none (.t 55)⟩,
       ⟨(some 57), none, .mov (.t 1)⟩,
       ⟨(some 58), none, .idxS 3 (.t 56) (.t 57)⟩,
       ⟨(some 59), none, .fldA 0 (.t 58)⟩,
       ⟨(some 60), none, .ld none (.t 59)⟩,
       ⟨(some 61), none, .bin .sub (.t 60) (.c (.p (.int .i64 1)))⟩,
       ⟨(some 9), none, .mov (.t 61)⟩])
     (.seq (.seq (.reg [⟨(some 63), none, .bin .eql (.t 36) (.c (.p (.int .i64 20)))⟩,
       ⟨(some 62), none, .mov (.t 63)⟩])
     (.cond (.t 62)
      (.skip)
      (.reg [⟨(some 64), none, .bin .eql (.t 36) (.c (.p (.int .i64 21)))⟩,
        ⟨(some 62), none, .mov (.t 64)⟩])))
     (.cond (.t 62)
      (.reg [⟨(some 65), none, .fldA 0 (.t 3)⟩,
        ⟨(some 66), none, .ld none (.t 65)⟩,
        ⟨(some 67), none, .mov (.t 1)⟩,
        ⟨(some 68), none, .idxS 3 (.t 66) (.t 67)⟩,
        ⟨(some 69), none, .fldA 2 (.t 68)⟩,
        ⟨(some 70), none, .ld none (.t 69)⟩,
        ⟨(some 71), none, .len false (.t 70)⟩,
        ⟨(some 72), none, .bin .sub (.t 71) (.c (.p (.int .i64 1)))⟩,
        ⟨(some 9), none, .mov (.t 72)⟩])
      (.skip)))))))))))))
 (.seq (.reg [⟨(some 73), none, .fldA 1 (.t 7)⟩,
   ⟨(some 74), none, .ld none (.t 73)⟩,
   ⟨(some 75), none, .bin .and (.t 74) (.c (.p (.int .i64 8)))⟩,
   ⟨(some 76), none, .bin .eql (.t 75) (.c (.p (.int .i64 0)))⟩,
   ⟨(some 77), none, .mov (.t 76)⟩,
   ⟨(some 78), (some (77, false)), .fldA 4 (.t 5)⟩,
   ⟨(some 79), (some (77, false)), .ld none (.t 78)⟩,
   ⟨(some 80), (some (77, false)), .mov (.t 9)⟩,
   ⟨(some 81), (some (77, false)), .call n_impl_within [(.t 79), (.c (.p (.int .i64 0))), (.t 80)]⟩,
   ⟨(some 82), none, .pick (.t 77) (.c (.p (.bool true))) (.t 81)⟩,
   ⟨(some 6), none, .mov (.t 82)⟩])
 (.ret))))))⟩
theorem k_impl_minsOk : compF Tryd.prog n_impl_minsOk = some F_impl_minsOk := by kernel_rfl

def F_impl_MachValid_1 : FK := ⟨10, [.t 4],
 .seq (.reg [⟨(some 3), none, .box 5 (.t 0)⟩,
   ⟨(some 4), none, .mov (.c (.p (.bool false)))⟩])
 (.seq (.reg [⟨(some 5), none, .ld (some 1) (.t 1)⟩,
   ⟨(some 6), none, .ld none (.t 2)⟩,
   ⟨(some 7), none, .ld (some 5) (.t 3)⟩,
   ⟨(some 8), none, .call n_impl_minsOk [(.t 5), (.t 6), (.t 7)]⟩,
   ⟨(some 9), none, .not (.t 8)⟩,
   ⟨(some 4), none, .mov (.t 9)⟩])
 (.ret))⟩
theorem k_impl_MachValid_1 : compF Tryd.prog n_impl_MachValid_1 = some F_impl_MachValid_1 := by kernel_rfl

def F_impl_MachValid : FK := ⟨63, [.t 2],
 .seq (.reg [⟨(some 1), none, .box 1 (.t 0)⟩,
   ⟨(some 2), none, .mov (.c (.p (.bool false)))⟩])
 (.seq (.seq (.reg [⟨(some 7), none, .fldA 0 (.t 1)⟩,
   ⟨(some 8), none, .ld none (.t 7)⟩,
   ⟨(some 9), none, .len false (.t 8)⟩,
   ⟨(some 10), none, .call n_impl_within [(.t 9), (.c (.p (.int .i64 1))), (.c (.p (.int .i64 4)))]⟩,
   ⟨(some 11), none, .not (.t 10)⟩])
 (.cond (.t 11)
  (.seq (.reg [⟨(some 2), none, .mov (.c (.p (.bool false)))⟩])
  (.ret))
  (.skip)))
 (.seq (.reg [⟨(some 3), none, .mov (.c (.p (.int .i64 0)))⟩])
 (.seq (.seq (.reg [⟨(some 12), none, .fldA 0 (.t 1)⟩,
   ⟨(some 13), none, .ld none (.t 12)⟩,
   ⟨(some 14), none, .len false (.t 13)⟩,
   ⟨(some 15), none, .mov (.c (.p (.int .i64 0)))⟩])
 (.blk 0 (.loop (.seq (.reg [⟨(some 16), none, .bin .lss (.t 15) (.t 14)⟩])
 (.seq (.cond (.t 16)
  (.skip)
  (.exit 0))
 (.seq (.blk 1 (.seq (.reg [⟨(some 17), none, .mov (.t 15)⟩,
   ⟨(some 18), none, .idxS 3 (.t 13) (.t 15)⟩,
   ⟨(some 19), none, .ld (some 3) (.t 18)⟩,
   ⟨(some 4), none, .alloc [(.p (.int .i64 0))]⟩,
   ⟨(some 5), none, .alloc [(.p (.int .i64 0)), (.p (.int .i64 0)), .nils]⟩,
   ⟨none, none, .st 1 (.t 4) (.t 17)⟩,
   ⟨none, none, .st 3 (.t 5) (.t 19)⟩])
 (.seq (.reg [⟨(some 20), none, .mov (.t 3)⟩,
   ⟨(some 21), none, .fldA 2 (.t 5)⟩,
   ⟨(some 22), none, .ld none (.t 21)⟩,
   ⟨(some 23), none, .len false (.t 22)⟩,
   ⟨(some 24), none, .bin .add (.t 20) (.t 23)⟩,
   ⟨(some 3), none, .mov (.t 24)⟩])
 (.seq (.seq (.reg [⟨(some 25), none, .fldA 0 (.t 5)⟩,
   ⟨(some 26), none, .ld none (.t 25)⟩,
   ⟨(some 27), none, .call n_impl_within [(.t 26), (.c (.p (.int .i64 0))), (.c (.p (.int .i64 3)))]⟩,
   ⟨(some 28), none, .not (.t 27)⟩,
   ⟨(some 29), none, .mov (.t 28)⟩,
   ⟨(some 30), (some (29, false)), .fldA 1 (.t 5)⟩,
   ⟨(some 31), (some (29, false)), .ld none (.t 30)⟩,
   ⟨(some 32), (some (29, false)), .call n_impl_within [(.t 31), (.c (.p (.int .i64 0))), (.c (.p (.int .i64 64)))]⟩,
   ⟨(some 33), (some (29, false)), .not (.t 32)⟩,
   ⟨(some 34), none, .pick (.t 29) (.c (.p (.bool true))) (.t 33)⟩,
   ⟨(some 35), none, .mov (.t 34)⟩,
   ⟨(some 36), (some (35, false)), .fldA 2 (.t 5)⟩,
   ⟨(some 37), (some (35, false)), .ld none (.t 36)⟩,
   ⟨(some 38), (some (35, false)), .len false (.t 37)⟩,
   ⟨(some 39), (some (35, false)), .bin .eql (.t 38) (.c (.p (.int .i64 0)))⟩,
   ⟨(some 40), none, .pick (.t 35) (.c (.p (.bool true))) (.t 39)⟩])
 (.cond (.t 40)
  (.seq (.reg [⟨(some 2), none, .mov (.c (.p (.bool false)))⟩])
  (.ret))
  (.skip)))
 (.seq (.seq (.reg [⟨(some 41), none, .fldA 2 (.t 5)⟩,
   ⟨(some 42), none, .ld none (.t 41)⟩,
   ⟨(some 43), none, .fldA 2 (.t 5)⟩,
   ⟨(some 44), none, .ld none (.t 43)⟩,
   ⟨(some 45), none, .len false (.t 44)⟩,
   ⟨(some 46), none, .bin .sub (.t 45) (.c (.p (.int .i64 1)))⟩,
   ⟨(some 47), none, .idxS 5 (.t 42) (.t 46)⟩,
   ⟨(some 48), none, .fldA 0 (.t 47)⟩,
   ⟨(some 49), none, .ld none (.t 48)⟩,
   ⟨(some 6), none, .mov (.t 49)⟩])
 (.seq (.reg [⟨(some 50), none, .mov (.t 6)⟩,
   ⟨(some 51), none, .bin .neq (.t 50) (.c (.p (.int .i64 20)))⟩,
   ⟨(some 52), none, .mov (.t 51)⟩,
   ⟨(some 53), (some (52, true)), .mov (.t 6)⟩,
   ⟨(some 54), (some (52, true)), .bin .neq (.t 53) (.c (.p (.int .i64 22)))⟩,
   ⟨(some 55), none, .pick (.t 52) (.t 54) (.c (.p (.bool false)))⟩])
 (.cond (.t 55)
  (.seq (.reg [⟨(some 2), none, .mov (.c (.p (.bool false)))⟩])
  (.ret))
  (.skip))))
 (.seq (.reg [⟨(some 56), none, .fldA 2 (.t 5)⟩,
   ⟨(some 57), none, .ld none (.t 56)⟩,
   ⟨(some 58), none, .mkf (.func n_impl_MachValid_1) [(.t 1), (.t 4)]⟩,
   ⟨(some 59), none, .call n_slices_ContainsFunc_impl_Mins [(.t 57), (.t 58)]⟩])
 (.cond (.t 59)
  (.seq (.reg [⟨(some 2), none, .mov (.c (.p (.bool false)))⟩])
  (.ret))
  (.skip))))))))
 (.reg [⟨(some 60), none, .bin .add (.t 15) (.c (.p (.int .i64 1)))⟩,
   ⟨(some 15), none, .mov (.t 60)⟩])))))))
 (.seq (.reg [⟨(some 61), none, .mov (.t 3)⟩,
   ⟨(some 62), none, .bin .leq (.t 61) (.c (.p (.int .i64 2000)))⟩,
   ⟨(some 2), none, .mov (.t 62)⟩])
 (.ret)))))⟩
theorem k_impl_MachValid : compF Tryd.prog n_impl_MachValid = some F_impl_MachValid := by kernel_rfl

def F_slices_Clone_byte : FK := ⟨8, [.t 2],
 .seq (.reg [⟨(some 2), none, .mov (.c .nils)⟩])
 (.seq (.seq (.reg [⟨(some 3), none, .mov (.t 0)⟩,
   ⟨(some 4), none, .snil false (.t 3)⟩])
 (.cond (.t 4)
  (.seq (.reg [⟨(some 2), none, .mov (.c .nils)⟩])
  (.ret))
  (.skip)))
 (.seq (.reg [⟨(some 5), none, .bsl 1 [(.p (.int .u8 0))] 0 []⟩,
   ⟨(some 6), none, .mov (.t 0)⟩,
   ⟨(some 7), none, .app 1 1 (.t 5) (.t 6)⟩,
   ⟨(some 2), none, .mov (.t 7)⟩])
 (.ret)))⟩
theorem k_slices_Clone_byte : compF Tryd.prog n_slices_Clone_byte = some F_slices_Clone_byte := by kernel_rfl

def F_math_bits_Mul32 : FK := ⟨17, [.t 4, .t 5],
 .seq (.reg [⟨(some 4), none, .mov (.c (.p (.int .u32 0)))⟩,
   ⟨(some 5), none, .mov (.c (.p (.int .u32 0)))⟩])
 (.seq (.reg [⟨(some 7), none, .mov (.t 0)⟩,
   ⟨(some 8), none, .conv .u64 (.t 7)⟩,
   ⟨(some 9), none, .mov (.t 1)⟩,
   ⟨(some 10), none, .conv .u64 (.t 9)⟩,
   ⟨(some 11), none, .bin .mul (.t 8) (.t 10)⟩,
   ⟨(some 6), none, .mov (.t 11)⟩])
 (.seq (.reg [⟨(some 12), none, .mov (.t 6)⟩,
   ⟨(some 13), none, .bin .shr (.t 12) (.c (.p (.int .u64 32)))⟩,
   ⟨(some 14), none, .conv .u32 (.t 13)⟩,
   ⟨(some 15), none, .mov (.t 6)⟩,
   ⟨(some 16), none, .conv .u32 (.t 15)⟩,
   ⟨(some 4), none, .mov (.t 14)⟩,
   ⟨(some 5), none, .mov (.t 16)⟩])
 (.ret)))⟩
theorem k_math_bits_Mul32 : compF Tryd.prog n_math_bits_Mul32 = some F_math_bits_Mul32 := by kernel_rfl

def F_math_bits_Mul64 : FK := ⟨51, [.t 4, .t 5],
 .seq (.reg [⟨(some 4), none, .mov (.c (.p (.int .u64 0)))⟩,
   ⟨(some 5), none, .mov (.c (.p (.int .u64 0)))⟩])
 (.seq (.reg [⟨(some 14), none, .mov (.t 0)⟩,
   ⟨(some 15), none, .bin .and (.t 14) (.c (.p (.int .u64 4294967295)))⟩,
   ⟨(some 6), none, .mov (.t 15)⟩])
 (.seq (.reg [⟨(some 16), none, .mov (.t 0)⟩,
   ⟨(some 17), none, .bin .shr (.t 16) (.c (.p (.int .u64 32)))⟩,
   ⟨(some 7), none, .mov (.t 17)⟩])
 (.seq (.reg [⟨(some 18), none, .mov (.t 1)⟩,
   ⟨(some 19), none, .bin .and (.t 18) (.c (.p (.int .u64 4294967295)))⟩,
   ⟨(some 8), none, .mov (.t 19)⟩])
 (.seq (.reg [⟨(some 20), none, .mov (.t 1)⟩,
   ⟨(some 21), none, .bin .shr (.t 20) (.c (.p (.int .u64 32)))⟩,
   ⟨(some 9), none, .mov (.t 21)⟩])
 (.seq (.reg [⟨(some 22), none, .mov (.t 6)⟩,
   ⟨(some 23), none, .mov (.t 8)⟩,
   ⟨(some 24), none, .bin .mul (.t 22) (.t 23)⟩,
   ⟨(some 10), none, .mov (.t 24)⟩])
 (.seq (.reg [⟨(some 25), none, .mov (.t 7)⟩,
   ⟨(some 26), none, .mov (.t 8)⟩,
   ⟨(some 27), none, .bin .mul (.t 25) (.t 26)⟩,
   ⟨(some 28), none, .mov (.t 10)⟩,
   ⟨(some 29), none, .bin .shr (.t 28) (.c (.p (.int .u64 32)))⟩,
   ⟨(some 30), none, .bin .add (.t 27) (.t 29)⟩,
   ⟨(some 11), none, .mov (.t 30)⟩])
 (.seq (.reg [⟨(some 31), none, .mov (.t 11)⟩,
   ⟨(some 32), none, .bin .and (.t 31) (.c (.p (.int .u64 4294967295)))⟩,
   ⟨(some 12), none, .mov (.t 32)⟩])
 (.seq (.reg [⟨(some 33), none, .mov (.t 11)⟩,
   ⟨(some 34), none, .bin .shr (.t 33) (.c (.p (.int .u64 32)))⟩,
   ⟨(some 13), none, .mov (.t 34)⟩])
 (.seq (.reg [⟨(some 35), none, .mov (.t 12)⟩,
   ⟨(some 36), none, .mov (.t 6)⟩,
   ⟨(some 37), none, .mov (.t 9)⟩,
   ⟨(some 38), none, .bin .mul (.t 36) (.t 37)⟩,
   ⟨(some 39), none, .bin .add (.t 35) (.t 38)⟩,
   ⟨(some 12), none, .mov (.t 39)⟩])
 (.seq (.reg [⟨(some 40), none, .mov (.t 7)⟩,
   ⟨(some 41), none, .mov (.t 9)⟩,
   ⟨(some 42), none, .bin .mul (.t 40) (.t 41)⟩,
   ⟨(some 43), none, .mov (.t 13)⟩,
   ⟨(some 44), none, .bin .add (.t 42) (.t 43)⟩,
   ⟨(some 45), none, .mov (.t 12)⟩,
   ⟨(some 46), none, .bin .shr (.t 45) (.c (.p (.int .u64 32)))⟩,
   ⟨(some 47), none, .bin .add (.t 44) (.t 46)⟩,
   ⟨(some 4), none, .mov (.t 47)⟩])
 (.seq (.reg [⟨(some 48), none, .mov (.t 0)⟩,
   ⟨(some 49), none, .mov (.t 1)⟩,
   ⟨(some 50), none, .bin .mul (.t 48) (.t 49)⟩,
   ⟨(some 5), none, .mov (.t 50)⟩])
 (.ret))))))))))))⟩
theorem k_math_bits_Mul64 : compF Tryd.prog n_math_bits_Mul64 = some F_math_bits_Mul64 := by kernel_rfl

def F_math_bits_Mul : FK := ⟨30, [.t 4, .t 5],
 .seq (.reg [⟨(some 4), none, .mov (.c (.p (.int .u64 0)))⟩,
   ⟨(some 5), none, .mov (.c (.p (.int .u64 0)))⟩])
 (.seq (.cond (.c (.p (.bool false)))
  (.seq (.reg [⟨(some 11), none, .mov (.t 0)⟩,
    ⟨(some 12), none, .conv .u32 (.t 11)⟩,
    ⟨(some 13), none, .mov (.t 1)⟩,
    ⟨(some 14), none, .conv .u32 (.t 13)⟩,
    ⟨(some 15), none, .call n_math_bits_Mul32 [(.t 12), (.t 14)]⟩,
    ⟨(some 10), none, .mov (.t 15)⟩,
    ⟨(some 16), none, .ext 0 (.t 10)⟩,
    ⟨(some 17), none, .ext 1 (.t 10)⟩,
    ⟨(some 6), none, .mov (.t 16)⟩,
    ⟨(some 7), none, .mov (.t 17)⟩])
  (.seq (.reg [⟨(some 18), none, .mov (.t 6)⟩,
    ⟨(some 19), none, .conv .u64 (.t 18)⟩,
    ⟨(some 20), none, .mov (.t 7)⟩,
    ⟨(some 21), none, .conv .u64 (.t 20)⟩,
    ⟨(some 4), none, .mov (.t 19)⟩,
    ⟨(some 5), none, .mov (.t 21)⟩])
  (.ret)))
  (.skip))
 (.seq (.reg [⟨(some 23), none, .mov (.t 0)⟩,
   ⟨(some 24), none, .mov (.t 1)⟩,
   ⟨(some 25), none, .call n_math_bits_Mul64 [(.t 23), (.t 24)]⟩,
   ⟨(some 22), none, .mov (.t 25)⟩,
   ⟨(some 26), none, .ext 0 (.t 22)⟩,
   ⟨(some 27), none, .ext 1 (.t 22)⟩,
   ⟨(some 8), none, .mov (.t 26)⟩,
   ⟨(some 9), none, .mov (.t 27)⟩])
 (.seq (.reg [⟨(some 28), none, .mov (.t 8)⟩,
   ⟨(some 29), none, .mov (.t 9)⟩,
   ⟨(some 4), none, .mov (.t 28)⟩,
   ⟨(some 5), none, .mov (.t 29)⟩])
 (.ret))))⟩
theorem k_math_bits_Mul : compF Tryd.prog n_math_bits_Mul = some F_math_bits_Mul := by kernel_rfl

def F_slices_Repeat_impl_Mfn : FK := ⟨48, [.t 4],
 .seq (.reg [⟨(some 4), none, .mov (.c .nils)⟩])
 (.seq (.seq (.reg [⟨(some 9), none, .mov (.t 1)⟩,
   ⟨(some 10), none, .bin .lss (.t 9) (.c (.p (.int .i64 0)))⟩])
 (.cond (.t 10)
  (.reg [⟨(some 11), none, .bad⟩,
    ⟨none, none, .bad⟩])
  (.skip)))
 (.seq (.reg [⟨(some 13), none, .mov (.t 0)⟩,
   ⟨(some 14), none, .len false (.t 13)⟩,
   ⟨(some 15), none, .conv .u64 (.t 14)⟩,
   ⟨(some 16), none, .mov (.t 1)⟩,
   ⟨(some 17), none, .conv .u64 (.t 16)⟩,
   ⟨(some 18), none, .call n_math_bits_Mul [(.t 15), (.t 17)]⟩,
   ⟨(some 12), none, .mov (.t 18)⟩,
   ⟨(some 19), none, .ext 0 (.t 12)⟩,
   ⟨(some 20), none, .ext 1 (.t 12)⟩,
   ⟨(some 5), none, .mov (.t 19)⟩,
   ⟨(some 6), none, .mov (.t 20)⟩])
 (.seq (.seq (.reg [⟨(some 21), none, .mov (.t 5)⟩,
   ⟨(some 22), none, .bin .gtr (.t 21) (.c (.p (.int .u64 0)))⟩,
   ⟨(some 23), none, .mov (.t 22)⟩,
   ⟨(some 24), (some (23, false)), .mov (.t 6)⟩,
   ⟨(some 25), (some (23, false)), .bin .gtr (.t 24) (.c (.p (.int .u64 9223372036854775807)))⟩,
   ⟨(some 26), none, .pick (.t 23) (.c (.p (.bool true))) (.t 25)⟩])
 (.cond (.t 26)
  (.reg [⟨(some 27), none, .bad⟩,
    ⟨none, none, .bad⟩])
  (.skip)))
 (.seq (.reg [⟨(some 28), none, .mov (.t 6)⟩,
   ⟨(some 29), none, .conv .i64 (.t 28)⟩,
   ⟨(some 30), none, .mks 3 40 [(.p (.int .i64 0)), (.p (.int .i64 0)), .nils] (.t 29) (.t 29)⟩,
   ⟨(some 7), none, .mov (.t 30)⟩])
 (.seq (.reg [⟨(some 31), none, .mov (.t 7)⟩,
   ⟨(some 32), none, .mov (.t 0)⟩,
   ⟨(some 33), none, .copy 3 (.t 31) (.t 32)⟩,
   ⟨(some 8), none, .mov (.t 33)⟩])
 (.seq (.blk 0 (.loop (.seq (.seq (.reg [⟨(some 34), none, .mov (.t 8)⟩,
   ⟨(some 35), none, .mov (.t 7)⟩,
   ⟨(some 36), none, .len false (.t 35)⟩,
   ⟨(some 37), none, .bin .lss (.t 34) (.t 36)⟩])
 (.cond (.t 37)
  (.skip)
  (.exit 0)))
 (.blk 1 (.reg [⟨(some 38), none, .mov (.t 8)⟩,
   ⟨(some 39), none, .mov (.t 7)⟩,
   ⟨(some 40), none, .mov (.t 8)⟩,
   ⟨(some 41), none, .slS 3 (.t 39) (some (.t 40)) none⟩,
   ⟨(some 42), none, .mov (.t 7)⟩,
   ⟨(some 43), none, .mov (.t 8)⟩,
   ⟨(some 44), none, .slS 3 (.t 42) none (some (.t 43))⟩,
   ⟨(some 45), none, .copy 3 (.t 41) (.t 44)⟩,
   ⟨(some 46), none, .bin .add (.t 38) (.t 45)⟩,
   ⟨(some 8), none, .mov (.t 46)⟩])))))
 (.seq (.reg [⟨(some 47), none, .mov (.t 7)⟩,
   ⟨(some 4), none, .mov (.t 47)⟩])
 (.ret))))))))⟩
theorem k_slices_Repeat_impl_Mfn : compF Tryd.prog n_slices_Repeat_impl_Mfn = some F_slices_Repeat_impl_Mfn := by kernel_rfl

def F_impl_jumpOp : FK := ⟨9, [.t 2],
 .seq (.reg [⟨(some 2), none, .mov (.c (.p (.bool false)))⟩])
 (.seq (.reg [⟨(some 3), none, .mov (.t 0)⟩,
   ⟨(some 4), none, .bin .eql (.t 3) (.c (.p (.int .i64 20)))⟩,
   ⟨(some 5), none, .mov (.t 4)⟩,
   ⟨(some 6), (some (5, false)), .mov (.t 0)⟩,
   ⟨(some 7), (some (5, false)), .bin .eql (.t 6) (.c (.p (.int .i64 21)))⟩,
   ⟨(some 8), none, .pick (.t 5) (.c (.p (.bool true))) (.t 7)⟩,
   ⟨(some 2), none, .mov (.t 8)⟩])
 (.ret))⟩
theorem k_impl_jumpOp : compF Tryd.prog n_impl_jumpOp = some F_impl_jumpOp := by kernel_rfl

def F_impl_shapeOf : FK := ⟨24, [.t 2],
 .seq (.reg [⟨(some 2), none, .mov (.c (.p (.int .i64 0)))⟩])
 (.seq (.seq (.reg [⟨(some 3), none, .mov (.t 0)⟩])
 (.blk 0 (.seq (.seq (.reg [⟨(some 5), none, .bin .eql (.t 3) (.c (.p (.int .i64 1)))⟩,
   ⟨(some 4), none, .mov (.t 5)⟩])
 (.cond (.t 4)
  (.skip)
  (.seq (.reg [⟨(some 6), none, .bin .eql (.t 3) (.c (.p (.int .i64 15)))⟩,
    ⟨(some 4), none, .mov (.t 6)⟩])
  (.cond (.t 4)
   (.skip)
   (.seq (.reg [⟨(some 7), none, .bin .eql (.t 3) (.c (.p (.int .i64 16)))⟩,
     ⟨(some 4), none, .mov (.t 7)⟩])
   (.cond (.t 4)
    (.skip)
    (.seq (.reg [⟨(some 8), none, .bin .eql (.t 3) (.c (.p (.int .i64 17)))⟩,
      ⟨(some 4), none, .mov (.t 8)⟩])
    (.cond (.t 4)
     (.skip)
     (.reg [⟨(some 9), none, .bin .eql (.t 3) (.c (.p (.int .i64 18)))⟩,
       ⟨(some 4), none, .mov (.t 9)⟩])))))))))
 (.cond (.t 4)
  (.seq (.reg [⟨(some 2), none, .mov (.c (.p (.int .i64 0)))⟩])
  (.ret))
  (.seq (.seq (.reg [⟨(some 11), none, .bin .eql (.t 3) (.c (.p (.int .i64 2)))⟩,
    ⟨(some 10), none, .mov (.t 11)⟩])
  (.cond (.t 10)
   (.skip)
   (.seq (.reg [⟨(some 12), none, .bin .eql (.t 3) (.c (.p (.int .i64 10)))⟩,
     ⟨(some 10), none, .mov (.t 12)⟩])
   (.cond (.t 10)
    (.skip)
    (.seq (.reg [⟨(some 13), none, .bin .eql (.t 3) (.c (.p (.int .i64 11)))⟩,
      ⟨(some 10), none, .mov (.t 13)⟩])
    (.cond (.t 10)
     (.skip)
     (.reg [⟨(some 14), none, .bin .eql (.t 3) (.c (.p (.int .i64 12)))⟩,
       ⟨(some 10), none, .mov (.t 14)⟩])))))))
  (.cond (.t 10)
   (.seq (.reg [⟨(some 2), none, .mov (.c (.p (.int .i64 1)))⟩])
   (.ret))
   (.seq (.seq (.reg [⟨(some 16), none, .bin .eql (.t 3) (.c (.p (.int .i64 13)))⟩,
     ⟨(some 15), none, .mov (.t 16)⟩])
   (.cond (.t 15)
    (.skip)
    (.seq (.reg [⟨(some 17), none, .bin .eql (.t 3) (.c (.p (.int .i64 19)))⟩,
      ⟨(some 15), none, .mov (.t 17)⟩])
    (.cond (.t 15)
     (.skip)
     (.reg [⟨(some 18), none, .bin .eql (.t 3) (.c (.p (.int .i64 22)))⟩,
       ⟨(some 15), none, .mov (.t 18)⟩])))))
   (.cond (.t 15)
    (.seq (.reg [⟨(some 2), none, .mov (.c (.p (.int .i64 3)))⟩])
    (.ret))
    (.seq (.reg [⟨(some 20), none, .bin .eql (.t 3) (.c (.p (.int .i64 14)))⟩,
      ⟨(some 19), none, .mov (.t 20)⟩])
    (.cond (.t 19)
     (.seq (.reg [⟨(some 2), none, .mov (.c (.p (.int .i64 4)))⟩])
     (.ret))
     (.seq (.seq (.reg [⟨(some 22), none, .bin .eql (.t 3) (.c (.p (.int .i64 20)))⟩,
       ⟨(some 21), none, .mov (.t 22)⟩])
     (.cond (.t 21)
      (.skip)
      (.reg [⟨(some 23), none, .bin .eql (.t 3) (.c (.p (.int .i64 21)))⟩,
        ⟨(some 21), none, .mov (.t 23)⟩])))
     (.cond (.t 21)
      (.seq (.reg [⟨(some 2), none, .mov (.c (.p (.int .i64 5)))⟩])
      (.ret))
      (.skip)))))))))))))
 (.seq (.reg [⟨(some 2), none, .mov (.c (.p (.int .i64 2)))⟩])
 (.ret)))⟩
theorem k_impl_shapeOf : compF Tryd.prog n_impl_shapeOf = some F_impl_shapeOf := by kernel_rfl

def F_impl_encoded : FK := ⟨55, [.t 2],
 .seq (.reg [⟨(some 1), none, .box 5 (.t 0)⟩,
   ⟨(some 2), none, .mov (.c .nils)⟩])
 (.seq (.reg [⟨(some 5), none, .fldA 0 (.t 1)⟩,
   ⟨(some 8), none, .fldA 1 (.t 1)⟩,
   ⟨(some 6), none, .ld none (.t 5)⟩,
   ⟨(some 7), none, .conv .u8 (.t 6)⟩,
   ⟨(some 3), none, .mov (.t 7)⟩,
   ⟨(some 9), none, .ld none (.t 8)⟩,
   ⟨(some 10), none, .conv .u8 (.t 9)⟩,
   ⟨(some 4), none, .mov (.t 10)⟩])
 (.seq (.seq (.reg [⟨(some 11), none, .fldA 0 (.t 1)⟩,
   ⟨(some 12), none, .ld none (.t 11)⟩,
   ⟨(some 13), none, .call n_impl_shapeOf [(.t 12)]⟩])
 (.blk 0 (.seq (.reg [⟨(some 15), none, .bin .eql (.t 13) (.c (.p (.int .i64 0)))⟩,
   ⟨(some 14), none, .mov (.t 15)⟩])
 (.cond (.t 14)
  (.seq (.reg [⟨(some 16), none, .mov (.t 3)⟩,
    ⟨(some 17), none, .mov (.t 4)⟩,
    ⟨(some 18), none, .fldA 4 (.t 1)⟩,
    ⟨(some 19), none, .ld none (.t 18)⟩,
    ⟨(some 20), none, .conv .u8 (.t 19)⟩,
    ⟨(some 21), none, .bsl 1 [(.p (.int .u8 0))] 3 [(0, 1, (.t 16)), (1, 1, (.t 17)), (2, 1, (.t 20))]⟩,
    ⟨(some 2), none, .mov (.t 21)⟩])
  (.ret))
  (.seq (.reg [⟨(some 23), none, .bin .eql (.t 13) (.c (.p (.int .i64 1)))⟩,
    ⟨(some 22), none, .mov (.t 23)⟩])
  (.cond (.t 22)
   (.seq (.reg [⟨(some 24), none, .mov (.t 3)⟩,
     ⟨(some 25), none, .mov (.t 4)⟩,
     ⟨(some 26), none, .fldA 2 (.t 1)⟩,
     ⟨(some 27), none, .ld none (.t 26)⟩,
     ⟨(some 28), none, .conv .u8 (.t 27)⟩,
     ⟨(some 29), none, .bin .mul (.c (.p (.int .u8 8))) (.t 28)⟩,
     ⟨(some 30), none, .bin .add (.t 25) (.t 29)⟩,
     ⟨(some 31), none, .bsl 1 [(.p (.int .u8 0))] 2 [(0, 1, (.t 24)), (1, 1, (.t 30))]⟩,
     ⟨(some 2), none, .mov (.t 31)⟩])
   (.ret))
   (.seq (.reg [⟨(some 33), none, .bin .eql (.t 13) (.c (.p (.int .i64 2)))⟩,
     ⟨(some 32), none, .mov (.t 33)⟩])
   (.cond (.t 32)
    (.seq (.reg [⟨(some 34), none, .mov (.t 3)⟩,
      ⟨(some 35), none, .mov (.t 4)⟩,
      ⟨(some 36), none, .fldA 2 (.t 1)⟩,
      ⟨(some 37), none, .ld none (.t 36)⟩,
      ⟨(some 38), none, .conv .u8 (.t 37)⟩,
      ⟨(some 39), none, .bin .mul (.c (.p (.int .u8 8))) (.t 38)⟩,
      ⟨(some 40), none, .bin .add (.t 35) (.t 39)⟩,
      ⟨(some 41), none, .fldA 3 (.t 1)⟩,
      ⟨(some 42), none, .ld none (.t 41)⟩,
      ⟨(some 43), none, .conv .u8 (.t 42)⟩,
      ⟨(some 44), none, .bsl 1 [(.p (.int .u8 0))] 3 [(0, 1, (.t 34)), (1, 1, (.t 40)), (2, 1, (.t 43))]⟩,
      ⟨(some 2), none, .mov (.t 44)⟩])
    (.ret))
    (.seq (.reg [⟨(some 46), none, .bin .eql (.t 13) (.c (.p (.int .i64 4)))⟩,
      ⟨(some 45), none, .mov (.t 46)⟩])
    (.cond (.t 45)
     (.seq (.reg [⟨(some 47), none, .mov (.t 3)⟩,
       ⟨(some 48), none, .fldA 4 (.t 1)⟩,
       ⟨(some 49), none, .ld none (.t 48)⟩,
       ⟨(some 50), none, .conv .u8 (.t 49)⟩,
       ⟨(some 51), none, .bsl 1 [(.p (.int .u8 0))] 2 [(0, 1, (.t 47)), (1, 1, (.t 50))]⟩,
       ⟨(some 2), none, .mov (.t 51)⟩])
     (.ret))
     (.skip)))))))))))
 (.seq (.reg [⟨(some 52), none, .mov (.t 3)⟩,
   ⟨(some 53), none, .mov (.t 4)⟩,
   ⟨(some 54), none, .bsl 1 [(.p (.int .u8 0))] 2 [(0, 1, (.t 52)), (1, 1, (.t 53))]⟩,
   ⟨(some 2), none, .mov (.t 54)⟩])
 (.ret))))⟩
theorem k_impl_encoded : compF Tryd.prog n_impl_encoded = some F_impl_encoded := by kernel_rfl

def F_impl_layout_settle : FK := ⟨78, [],
 .seq (.reg [⟨(some 5), none, .mov (.t 0)⟩,
   ⟨(some 6), none, .mov (.t 0)⟩,
   ⟨(some 7), none, .mov (.t 0)⟩,
   ⟨(some 8), none, .nilck (.t 5)⟩,
   ⟨(some 9), none, .fldA 4 (.t 8)⟩,
   ⟨none, none, .st 1 (.t 9) (.c .nils)⟩,
   ⟨(some 10), none, .nilck (.t 6)⟩,
   ⟨(some 11), none, .fldA 5 (.t 10)⟩,
   ⟨none, none, .st 1 (.t 11) (.c .nils)⟩,
   ⟨(some 12), none, .nilck (.t 7)⟩,
   ⟨(some 13), none, .fldA 6 (.t 12)⟩,
   ⟨none, none, .st 1 (.t 13) (.c (.p (.int .i64 0)))⟩])
 (.seq (.reg [⟨(some 14), none, .mov (.t 0)⟩,
   ⟨(some 15), none, .nilck (.t 14)⟩,
   ⟨(some 16), none, .fldA 0 (.t 15)⟩,
   ⟨(some 17), none, .fldA 2 (.t 16)⟩,
   ⟨(some 18), none, .ld none (.t 17)⟩,
   ⟨(some 19), none, .len false (.t 18)⟩,
   ⟨(some 20), none, .mov (.c (.p (.int .i64 0)))⟩])
 (.blk 0 (.loop (.seq (.reg [⟨(some 21), none, .bin .lss (.t 20) (.t 19)⟩])
 (.seq (.cond (.t 21)
  (.skip)
  (.exit 0))
 (.seq (.blk 1 (.seq (.reg [⟨(some 22), none, .mov (.t 20)⟩,
   ⟨(some 23), none, .idxS 5 (.t 18) (.t 20)⟩,
   ⟨(some 24), none, .ld (some 5) (.t 23)⟩,
   ⟨(some 3), none, .alloc [(.p (.int .i64 0)), (.p (.int .i64 0)), (.p (.int .i64 0)), (.p (.int .i64 0)), (.p (.int .i64 0))]⟩,
   ⟨(some 2), none, .mov (.t 22)⟩,
   ⟨none, none, .st 5 (.t 3) (.t 24)⟩])
 (.seq (.reg [⟨(some 4), none, .mov (.c (.p (.int .i64 2)))⟩])
 (.seq (.seq (.reg [⟨(some 25), none, .fldA 0 (.t 3)⟩,
   ⟨(some 26), none, .ld none (.t 25)⟩,
   ⟨(some 27), none, .call n_impl_jumpOp [(.t 26)]⟩,
   ⟨(some 28), none, .not (.t 27)⟩])
 (.cond (.t 28)
  (.reg [⟨(some 29), none, .ld (some 5) (.t 3)⟩,
    ⟨(some 30), none, .call n_impl_encoded [(.t 29)]⟩,
    ⟨(some 31), none, .len false (.t 30)⟩,
    ⟨(some 4), none, .mov (.t 31)⟩])
  (.seq (.seq (.reg [⟨(some 32), none, .fldA 0 (.t 3)⟩,
    ⟨(some 33), none, .ld none (.t 32)⟩,
    ⟨(some 34), none, .bin .eql (.t 33) (.c (.p (.int .i64 21)))⟩])
  (.cond (.t 34)
   (.reg [⟨(some 35), none, .mov (.t 4)⟩,
     ⟨(some 36), none, .bin .add (.t 35) (.c (.p (.int .i64 1)))⟩,
     ⟨(some 4), none, .mov (.t 36)⟩])
   (.skip)))
  (.seq (.reg [⟨(some 37), none, .mov (.t 0)⟩,
    ⟨(some 38), none, .nilck (.t 37)⟩,
    ⟨(some 39), none, .fldA 3 (.t 38)⟩,
    ⟨(some 40), none, .ld none (.t 39)⟩,
    ⟨(some 41), none, .mov (.t 2)⟩,
    ⟨(some 42), none, .idxS 1 (.t 40) (.t 41)⟩,
    ⟨(some 43), none, .ld none (.t 42)⟩])
  (.cond (.t 43)
   (.reg [⟨(some 44), none, .mov (.t 4)⟩,
     ⟨(some 45), none, .bin .add (.t 44) (.c (.p (.int .i64 1)))⟩,
     ⟨(some 4), none, .mov (.t 45)⟩])
   (.skip))))))
 (.seq (.reg [⟨(some 46), none, .mov (.t 0)⟩,
   ⟨(some 47), none, .mov (.t 0)⟩,
   ⟨(some 48), none, .mov (.t 0)⟩,
   ⟨(some 49), none, .nilck (.t 48)⟩,
   ⟨(some 50), none, .fldA 4 (.t 49)⟩,
   ⟨(some 52), none, .mov (.t 4)⟩,
   ⟨(some 53), none, .bslP 1 [(.p (.int .i64 0))] 1 [(0, 1, (.t 52))]⟩,
   ⟨(some 55), none, .mov (.t 0)⟩,
   ⟨(some 56), none, .nilck (.t 55)⟩,
   ⟨(some 57), none, .fldA 5 (.t 56)⟩,
   ⟨(some 59), none, .mov (.t 0)⟩,
   ⟨(some 60), none, .nilck (.t 59)⟩,
   ⟨(some 61), none, .fldA 6 (.t 60)⟩,
   ⟨(some 51), none, .ld none (.t 50)⟩,
   ⟨(some 58), none, .ld none (.t 57)⟩,
   ⟨(some 62), none, .ld none (.t 61)⟩,
   ⟨(some 63), none, .bslP 1 [(.p (.int .i64 0))] 1 [(0, 1, (.t 62))]⟩,
   ⟨(some 54), none, .app 1 8 (.t 51) (.t 53)⟩,
   ⟨none, none, .chk none 57 58⟩,
   ⟨none, none, .chk none 61 62⟩,
   ⟨(some 64), none, .app 1 8 (.t 58) (.t 63)⟩,
   ⟨(some 65), none, .nilck (.t 46)⟩,
   ⟨(some 66), none, .fldA 4 (.t 65)⟩,
   ⟨none, none, .st 1 (.t 66) (.t 54)⟩,
   ⟨(some 67), none, .nilck (.t 47)⟩,
   ⟨(some 68), none, .fldA 5 (.t 67)⟩,
   ⟨none, none, .st 1 (.t 68) (.t 64)⟩])
 (.reg [⟨(some 69), none, .mov (.t 0)⟩,
   ⟨(some 70), none, .nilck (.t 69)⟩,
   ⟨(some 71), none, .fldA 6 (.t 70)⟩,
   ⟨(some 72), none, .ld none (.t 71)⟩,
   ⟨(some 73), none, .mov (.t 4)⟩,
   ⟨(some 74), none, .bin .add (.t 72) (.t 73)⟩,
   ⟨(some 75), none, .nilck (.t 69)⟩,
   ⟨(some 76), none, .fldA 6 (.t 75)⟩,
   ⟨none, none, .st 1 (.t 76) (.t 74)⟩]))))))
 (.reg [⟨(some 77), none, .bin .add (.t 20) (.c (.p (.int .i64 1)))⟩,
   ⟨(some 20), none, .mov (.t 77)⟩])))))))⟩
theorem k_impl_layout_settle : compF Tryd.prog n_impl_layout_settle = some F_impl_layout_settle := by kernel_rfl

def F_impl_layout_offset : FK := ⟨36, [.t 4],
 .seq (.reg [⟨(some 4), none, .mov (.c (.p (.int .i64 0)))⟩])
 (.seq (.reg [⟨(some 5), none, .mov (.t 0)⟩,
   ⟨(some 6), none, .nilck (.t 5)⟩,
   ⟨(some 7), none, .fldA 5 (.t 6)⟩,
   ⟨(some 9), none, .mov (.t 0)⟩,
   ⟨(some 10), none, .nilck (.t 9)⟩,
   ⟨(some 11), none, .fldA 0 (.t 10)⟩,
   ⟨(some 12), none, .fldA 2 (.t 11)⟩,
   ⟨(some 14), none, .mov (.t 1)⟩,
   ⟨(some 20), none, .mov (.t 0)⟩,
   ⟨(some 21), none, .nilck (.t 20)⟩,
   ⟨(some 22), none, .fldA 5 (.t 21)⟩,
   ⟨(some 24), none, .mov (.t 1)⟩,
   ⟨(some 28), none, .mov (.t 0)⟩,
   ⟨(some 29), none, .nilck (.t 28)⟩,
   ⟨(some 30), none, .fldA 4 (.t 29)⟩,
   ⟨(some 32), none, .mov (.t 1)⟩,
   ⟨(some 8), none, .ld none (.t 7)⟩,
   ⟨(some 13), none, .ld none (.t 12)⟩,
   ⟨(some 15), none, .idxS 5 (.t 13) (.t 14)⟩,
   ⟨(some 16), none, .fldA 4 (.t 15)⟩,
   ⟨(some 17), none, .ld none (.t 16)⟩,
   ⟨(some 18), none, .idxS 1 (.t 8) (.t 17)⟩,
   ⟨(some 19), none, .ld none (.t 18)⟩,
   ⟨(some 23), none, .ld none (.t 22)⟩,
   ⟨(some 25), none, .idxS 1 (.t 23) (.t 24)⟩,
   ⟨(some 26), none, .ld none (.t 25)⟩,
   ⟨(some 27), none, .bin .sub (.t 19) (.t 26)⟩,
   ⟨(some 31), none, .ld none (.t 30)⟩,
   ⟨(some 33), none, .idxS 1 (.t 31) (.t 32)⟩,
   ⟨(some 34), none, .ld none (.t 33)⟩,
   ⟨(some 35), none, .bin .sub (.t 27) (.t 34)⟩,
   ⟨(some 4), none, .mov (.t 35)⟩])
 (.ret))⟩
theorem k_impl_layout_offset : compF Tryd.prog n_impl_layout_offset = some F_impl_layout_offset := by kernel_rfl

def F_impl_layoutOf : FK := ⟨92, [.t 2],
 .seq (.reg [⟨(some 1), none, .box 3 (.t 0)⟩,
   ⟨(some 2), none, .mov (.c .nilp)⟩])
 (.seq (.reg [⟨(some 3), none, .mov (.c (.p (.int .i64 0)))⟩])
 (.seq (.seq (.reg [⟨(some 11), none, .fldA 2 (.t 1)⟩,
   ⟨(some 12), none, .ld none (.t 11)⟩,
   ⟨(some 13), none, .len false (.t 12)⟩,
   ⟨(some 14), none, .mov (.c (.p (.int .i64 0)))⟩])
 (.blk 0 (.loop (.seq (.reg [⟨(some 15), none, .bin .lss (.t 14) (.t 13)⟩])
 (.seq (.cond (.t 15)
  (.skip)
  (.exit 0))
 (.seq (.blk 1 (.seq (.reg [⟨(some 16), none, .idxS 5 (.t 12) (.t 14)⟩,
   ⟨(some 17), none, .ld (some 5) (.t 16)⟩,
   ⟨(some 5), none, .alloc [(.p (.int .i64 0)), (.p (.int .i64 0)), (.p (.int .i64 0)), (.p (.int .i64 0)), (.p (.int .i64 0))]⟩,
   ⟨none, none, .st 5 (.t 5) (.t 17)⟩])
 (.seq (.reg [⟨(some 18), none, .fldA 0 (.t 5)⟩,
   ⟨(some 19), none, .ld none (.t 18)⟩,
   ⟨(some 20), none, .bin .eql (.t 19) (.c (.p (.int .i64 14)))⟩])
 (.cond (.t 20)
  (.reg [⟨(some 21), none, .mov (.t 3)⟩,
    ⟨(some 22), none, .fldA 4 (.t 5)⟩,
    ⟨(some 23), none, .ld none (.t 22)⟩,
    ⟨(some 24), none, .mn (.t 23) (.c (.p (.int .i64 4)))⟩,
    ⟨(some 25), none, .bin .add (.t 24) (.c (.p (.int .i64 1)))⟩,
    ⟨(some 26), none, .mx (.t 21) (.t 25)⟩,
    ⟨(some 3), none, .mov (.t 26)⟩])
  (.skip)))))
 (.reg [⟨(some 27), none, .bin .add (.t 14) (.c (.p (.int .i64 1)))⟩,
   ⟨(some 14), none, .mov (.t 27)⟩])))))))
 (.seq (.reg [⟨(some 6), none, .mov (.c .any)⟩,
   ⟨(some 28), none, .bld [(.p (.int .i64 0)), (.p (.int .i64 0)), (.p (.int .i64 0)), (.p (.int .i64 0)), (.p (.int .i64 0))] [(0, 1, (.c (.p (.int .i64 22))))]⟩,
   ⟨(some 29), none, .bslP 5 [(.p (.int .i64 0)), (.p (.int .i64 0)), (.p (.int .i64 0)), (.p (.int .i64 0)), (.p (.int .i64 0))] 1 [(0, 5, (.t 28))]⟩,
   ⟨(some 30), none, .bld [(.p (.int .i64 0)), (.p (.int .i64 0)), .nils] [(2, 1, (.t 29))]⟩,
   ⟨(some 31), none, .bslP 3 [(.p (.int .i64 0)), (.p (.int .i64 0)), .nils] 1 [(0, 3, (.t 30))]⟩,
   ⟨(some 32), none, .mov (.t 3)⟩,
   ⟨(some 34), none, .ld (some 3) (.t 1)⟩,
   ⟨(some 35), none, .bslP 3 [(.p (.int .i64 0)), (.p (.int .i64 0)), .nils] 1 [(0, 3, (.t 34))]⟩,
   ⟨(some 33), none, .call n_slices_Repeat_impl_Mfn [(.t 31), (.t 32)]⟩,
   ⟨none, none, .chk (some 3) 1 34⟩,
   ⟨(some 36), none, .app 3 40 (.t 33) (.t 35)⟩,
   ⟨(some 37), none, .bld [.nils] [(0, 1, (.t 36))]⟩,
   ⟨(some 6), none, .alloc [.nils]⟩,
   ⟨none, none, .st 1 (.t 6) (.t 37)⟩])
 (.seq (.seq (.reg [⟨(some 38), none, .ld (some 1) (.t 6)⟩,
   ⟨(some 39), none, .call n_impl_MachValid [(.t 38)]⟩,
   ⟨(some 40), none, .not (.t 39)⟩])
 (.cond (.t 40)
  (.seq (.reg [⟨(some 2), none, .mov (.c .nilp)⟩])
  (.ret))
  (.skip)))
 (.seq (.reg [⟨(some 42), none, .fldA 2 (.t 1)⟩,
   ⟨(some 41), none, .ld (some 3) (.t 1)⟩,
   ⟨(some 43), none, .ld none (.t 42)⟩,
   ⟨(some 44), none, .len false (.t 43)⟩,
   ⟨(some 45), none, .mks 1 1 [(.p (.bool false))] (.t 44) (.t 44)⟩,
   ⟨none, none, .chk (some 3) 1 41⟩,
   ⟨(some 46), none, .bld [(.p (.int .i64 0)), (.p (.int .i64 0)), .nils, .nils, .nils, .nils, (.p (.int .i64 0))] [(0, 3, (.t 41)), (3, 1, (.t 45))]⟩,
   ⟨(some 47), none, .box 7 (.t 46)⟩,
   ⟨(some 7), none, .mov (.t 47)⟩])
 (.seq (.seq (.reg [⟨(some 8), none, .mov (.c (.p (.bool true)))⟩])
 (.blk 2 (.loop (.seq (.seq (.reg [⟨(some 48), none, .mov (.t 8)⟩])
 (.cond (.t 48)
  (.skip)
  (.exit 2)))
 (.blk 3 (.seq (.reg [⟨(some 8), none, .mov (.c (.p (.bool false)))⟩])
 (.seq (.reg [⟨(some 49), none, .mov (.t 7)⟩,
   ⟨(some 50), none, .call n_impl_layout_settle [(.t 49)]⟩])
 (.seq (.reg [⟨(some 51), none, .fldA 2 (.t 1)⟩,
   ⟨(some 52), none, .ld none (.t 51)⟩,
   ⟨(some 53), none, .len false (.t 52)⟩,
   ⟨(some 54), none, .mov (.c (.p (.int .i64 0)))⟩])
 (.blk 4 (.loop (.seq (.reg [⟨(some 55), none, .bin .lss (.t 54) (.t 53)⟩])
 (.seq (.cond (.t 55)
  (.skip)
  (.exit 4))
 (.seq (.blk 5 (.seq (.reg [⟨(some 56), none, .mov (.t 54)⟩,
   ⟨(some 57), none, .idxS 5 (.t 52) (.t 54)⟩,
   ⟨(some 58), none, .ld (some 5) (.t 57)⟩,
   ⟨(some 10), none, .alloc [(.p (.int .i64 0)), (.p (.int .i64 0)), (.p (.int .i64 0)), (.p (.int .i64 0)), (.p (.int .i64 0))]⟩,
   ⟨(some 9), none, .mov (.t 56)⟩,
   ⟨none, none, .st 5 (.t 10) (.t 58)⟩])
 (.seq (.reg [⟨(some 59), none, .fldA 0 (.t 10)⟩,
   ⟨(some 60), none, .ld none (.t 59)⟩,
   ⟨(some 61), none, .call n_impl_jumpOp [(.t 60)]⟩,
   ⟨(some 62), none, .mov (.t 61)⟩,
   ⟨(some 63), (some (62, true)), .mov (.t 7)⟩,
   ⟨(some 64), (some (62, true)), .nilck (.t 63)⟩,
   ⟨(some 65), (some (62, true)), .fldA 3 (.t 64)⟩,
   ⟨(some 66), (some (62, true)), .ld none (.t 65)⟩,
   ⟨(some 67), (some (62, true)), .mov (.t 9)⟩,
   ⟨(some 68), (some (62, true)), .idxS 1 (.t 66) (.t 67)⟩,
   ⟨(some 69), (some (62, true)), .ld none (.t 68)⟩,
   ⟨(some 70), (some (62, true)), .not (.t 69)⟩,
   ⟨(some 71), none, .pick (.t 62) (.t 70) (.c (.p (.bool false)))⟩,
   ⟨(some 72), none, .mov (.t 71)⟩,
   ⟨(some 73), (some (72, true)), .mov (.t 7)⟩,
   ⟨(some 74), (some (72, true)), .mov (.t 9)⟩,
   ⟨(some 75), (some (72, true)), .call n_impl_layout_offset [(.t 73), (.t 74)]⟩,
   ⟨(some 76), (some (72, true)), .call n_impl_within [(.t 75), (.c (.p (.int .i64 (-128)))), (.c (.p (.int .i64 127)))]⟩,
   ⟨(some 77), (some (72, true)), .not (.t 76)⟩,
   ⟨(some 78), none, .pick (.t 72) (.t 77) (.c (.p (.bool false)))⟩])
 (.cond (.t 78)
  (.reg [⟨(some 79), none, .mov (.t 7)⟩,
    ⟨(some 80), none, .nilck (.t 79)⟩,
    ⟨(some 81), none, .fldA 3 (.t 80)⟩,
    ⟨(some 82), none, .ld none (.t 81)⟩,
    ⟨(some 83), none, .mov (.t 9)⟩,
    ⟨(some 84), none, .idxS 1 (.t 82) (.t 83)⟩,
    ⟨none, none, .st 1 (.t 84) (.c (.p (.bool true)))⟩,
    ⟨(some 8), none, .mov (.c (.p (.bool true)))⟩])
  (.skip)))))
 (.reg [⟨(some 85), none, .bin .add (.t 54) (.c (.p (.int .i64 1)))⟩,
   ⟨(some 54), none, .mov (.t 85)⟩]))))))))))))))
 (.seq (.seq (.reg [⟨(some 86), none, .mov (.t 7)⟩,
   ⟨(some 87), none, .nilck (.t 86)⟩,
   ⟨(some 88), none, .fldA 6 (.t 87)⟩,
   ⟨(some 89), none, .ld none (.t 88)⟩,
   ⟨(some 90), none, .bin .gtr (.t 89) (.c (.p (.int .i64 8000)))⟩])
 (.cond (.t 90)
  (.seq (.reg [⟨(some 2), none, .mov (.c .nilp)⟩])
  (.ret))
  (.skip)))
 (.seq (.reg [⟨(some 91), none, .mov (.t 7)⟩,
   ⟨(some 2), none, .mov (.t 91)⟩])
 (.ret)))))))))⟩
theorem k_impl_layoutOf : compF Tryd.prog n_impl_layoutOf = some F_impl_layoutOf := by kernel_rfl

def F_impl_EncodeFn : FK := ⟨88, [.t 2, .t 3],
 .seq (.reg [⟨(some 1), none, .box 3 (.t 0)⟩,
   ⟨(some 2), none, .mov (.c .nils)⟩,
   ⟨(some 3), none, .mov (.c (.p (.bool false)))⟩])
 (.seq (.reg [⟨(some 10), none, .ld (some 3) (.t 1)⟩,
   ⟨(some 11), none, .call n_impl_layoutOf [(.t 10)]⟩,
   ⟨(some 4), none, .mov (.t 11)⟩])
 (.seq (.seq (.reg [⟨(some 12), none, .mov (.t 4)⟩,
   ⟨(some 13), none, .pnil 0 false (.t 12)⟩])
 (.cond (.t 13)
  (.seq (.reg [⟨(some 2), none, .mov (.c .nils)⟩,
    ⟨(some 3), none, .mov (.c (.p (.bool false)))⟩])
  (.ret))
  (.skip)))
 (.seq (.reg [⟨(some 5), none, .mov (.c .nils)⟩])
 (.seq (.seq (.reg [⟨(some 14), none, .fldA 2 (.t 1)⟩,
   ⟨(some 15), none, .ld none (.t 14)⟩,
   ⟨(some 16), none, .len false (.t 15)⟩,
   ⟨(some 17), none, .mov (.c (.p (.int .i64 0)))⟩])
 (.blk 0 (.loop (.seq (.reg [⟨(some 18), none, .bin .lss (.t 17) (.t 16)⟩])
 (.seq (.cond (.t 18)
  (.skip)
  (.exit 0))
 (.seq (.blk 1 (.seq (.reg [⟨(some 19), none, .mov (.t 17)⟩,
   ⟨(some 20), none, .idxS 5 (.t 15) (.t 17)⟩,
   ⟨(some 21), none, .ld (some 5) (.t 20)⟩,
   ⟨(some 7), none, .alloc [(.p (.int .i64 0)), (.p (.int .i64 0)), (.p (.int .i64 0)), (.p (.int .i64 0)), (.p (.int .i64 0))]⟩,
   ⟨(some 6), none, .mov (.t 19)⟩,
   ⟨none, none, .st 5 (.t 7) (.t 21)⟩])
 (.seq (.seq (.reg [⟨(some 22), none, .fldA 0 (.t 7)⟩,
   ⟨(some 23), none, .ld none (.t 22)⟩,
   ⟨(some 24), none, .call n_impl_jumpOp [(.t 23)]⟩,
   ⟨(some 25), none, .not (.t 24)⟩])
 (.cond (.t 25)
  (.seq (.reg [⟨(some 26), none, .mov (.t 5)⟩,
    ⟨(some 27), none, .ld (some 5) (.t 7)⟩,
    ⟨(some 28), none, .call n_impl_encoded [(.t 27)]⟩,
    ⟨(some 29), none, .app 1 1 (.t 26) (.t 28)⟩,
    ⟨(some 5), none, .mov (.t 29)⟩])
  (.exit 1))
  (.skip)))
 (.seq (.reg [⟨(some 30), none, .fldA 0 (.t 7)⟩,
   ⟨(some 31), none, .ld none (.t 30)⟩,
   ⟨(some 32), none, .conv .u8 (.t 31)⟩,
   ⟨(some 8), none, .mov (.t 32)⟩])
 (.seq (.seq (.reg [⟨(some 33), none, .mov (.t 4)⟩,
   ⟨(some 34), none, .nilck (.t 33)⟩,
   ⟨(some 35), none, .fldA 3 (.t 34)⟩,
   ⟨(some 36), none, .ld none (.t 35)⟩,
   ⟨(some 37), none, .mov (.t 6)⟩,
   ⟨(some 38), none, .idxS 1 (.t 36) (.t 37)⟩,
   ⟨(some 39), none, .ld none (.t 38)⟩])
 (.cond (.t 39)
  (.reg [⟨(some 40), none, .mov (.t 8)⟩,
    ⟨(some 41), none, .bin .add (.t 40) (.c (.p (.int .u8 128)))⟩,
    ⟨(some 8), none, .mov (.t 41)⟩])
  (.skip)))
 (.seq (.reg [⟨(some 42), none, .mov (.t 5)⟩,
   ⟨(some 43), none, .mov (.t 8)⟩,
   ⟨(some 44), none, .bsl 1 [(.p (.int .u8 0))] 1 [(0, 1, (.t 43))]⟩,
   ⟨(some 45), none, .app 1 1 (.t 42) (.t 44)⟩,
   ⟨(some 5), none, .mov (.t 45)⟩])
 (.seq (.seq (.reg [⟨(some 46), none, .fldA 0 (.t 7)⟩,
   ⟨(some 47), none, .ld none (.t 46)⟩,
   ⟨(some 48), none, .bin .eql (.t 47) (.c (.p (.int .i64 21)))⟩])
 (.cond (.t 48)
  (.reg [⟨(some 49), none, .mov (.t 5)⟩,
    ⟨(some 50), none, .fldA 1 (.t 7)⟩,
    ⟨(some 51), none, .ld none (.t 50)⟩,
    ⟨(some 52), none, .conv .u8 (.t 51)⟩,
    ⟨(some 53), none, .bsl 1 [(.p (.int .u8 0))] 1 [(0, 1, (.t 52))]⟩,
    ⟨(some 54), none, .app 1 1 (.t 49) (.t 53)⟩,
    ⟨(some 5), none, .mov (.t 54)⟩])
  (.skip)))
 (.seq (.reg [⟨(some 55), none, .mov (.t 4)⟩,
   ⟨(some 56), none, .nilck (.t 55)⟩,
   ⟨(some 57), none, .fldA 5 (.t 56)⟩,
   ⟨(some 59), none, .fldA 4 (.t 7)⟩,
   ⟨(some 58), none, .ld none (.t 57)⟩,
   ⟨(some 60), none, .ld none (.t 59)⟩,
   ⟨(some 61), none, .idxS 1 (.t 58) (.t 60)⟩,
   ⟨(some 62), none, .ld none (.t 61)⟩,
   ⟨(some 9), none, .mov (.t 62)⟩])
 (.seq (.reg [⟨(some 63), none, .mov (.t 4)⟩,
   ⟨(some 64), none, .nilck (.t 63)⟩,
   ⟨(some 65), none, .fldA 3 (.t 64)⟩,
   ⟨(some 66), none, .ld none (.t 65)⟩,
   ⟨(some 67), none, .mov (.t 6)⟩,
   ⟨(some 68), none, .idxS 1 (.t 66) (.t 67)⟩,
   ⟨(some 69), none, .ld none (.t 68)⟩])
 (.cond (.t 69)
  (.reg [⟨(some 70), none, .mov (.t 5)⟩,
    ⟨(some 71), none, .mov (.t 9)⟩,
    ⟨(some 72), none, .bin .rem (.t 71) (.c (.p (.int .i64 256)))⟩,
    ⟨(some 73), none, .conv .u8 (.t 72)⟩,
    ⟨(some 74), none, .mov (.t 9)⟩,
    ⟨(some 75), none, .bin .quo (.t 74) (.c (.p (.int .i64 256)))⟩,
    ⟨(some 76), none, .conv .u8 (.t 75)⟩,
    ⟨(some 77), none, .bsl 1 [(.p (.int .u8 0))] 2 [(0, 1, (.t 73)), (1, 1, (.t 76))]⟩,
    ⟨(some 78), none, .app 1 1 (.t 70) (.t 77)⟩,
    ⟨(some 5), none, .mov (.t 78)⟩])
  (.reg [⟨(some 79), none, .mov (.t 5)⟩,
    ⟨(some 80), none, .mov (.t 4)⟩,
    ⟨(some 81), none, .mov (.t 6)⟩,
    ⟨(some 82), none, .call n_impl_layout_offset [(.t 80), (.t 81)]⟩,
    ⟨(some 83), none, .conv .u8 (.t 82)⟩,
    ⟨(some 84), none, .bsl 1 [(.p (.int .u8 0))] 1 [(0, 1, (.t 83))]⟩,
    ⟨(some 85), none, .app 1 1 (.t 79) (.t 84)⟩,
    ⟨(some 5), none, .mov (.t 85)⟩])))))))))))
 (.reg [⟨(some 86), none, .bin .add (.t 17) (.c (.p (.int .i64 1)))⟩,
   ⟨(some 17), none, .mov (.t 86)⟩])))))))
 (.seq (.reg [⟨(some 87), none, .mov (.t 5)⟩,
   ⟨(some 2), none, .mov (.t 87)⟩,
   ⟨(some 3), none, .mov (.c (.p (.bool true)))⟩])
 (.ret))))))⟩
theorem k_impl_EncodeFn : compF Tryd.prog n_impl_EncodeFn = some F_impl_EncodeFn := by kernel_rfl

def F_impl_ImageOf : FK := ⟨56, [.t 2, .t 3],
 .seq (.reg [⟨(some 1), none, .box 1 (.t 0)⟩,
   ⟨(some 2), none, .mov (.c .nils)⟩,
   ⟨(some 3), none, .mov (.c (.p (.bool false)))⟩])
 (.seq (.seq (.reg [⟨(some 9), none, .ld (some 1) (.t 1)⟩,
   ⟨(some 10), none, .call n_impl_MachValid [(.t 9)]⟩,
   ⟨(some 11), none, .not (.t 10)⟩])
 (.cond (.t 11)
  (.seq (.reg [⟨(some 2), none, .mov (.c .nils)⟩,
    ⟨(some 3), none, .mov (.c (.p (.bool false)))⟩])
  (.ret))
  (.skip)))
 (.seq (.reg [⟨(some 14), none, .fldA 0 (.t 1)⟩,
   ⟨(some 12), none, .ld none (.c (.gp 0 0))⟩,
   ⟨(some 15), none, .ld none (.t 14)⟩,
   ⟨(some 16), none, .len false (.t 15)⟩,
   ⟨(some 17), none, .conv .u8 (.t 16)⟩,
   ⟨(some 18), none, .bslP 1 [(.p (.int .u8 0))] 1 [(0, 1, (.t 17))]⟩,
   ⟨(some 13), none, .call n_slices_Clone_byte [(.t 12)]⟩,
   ⟨none, none, .chk none 14 15⟩,
   ⟨(some 19), none, .app 1 1 (.t 13) (.t 18)⟩,
   ⟨(some 4), none, .mov (.t 19)⟩])
 (.seq (.seq (.reg [⟨(some 20), none, .fldA 0 (.t 1)⟩,
   ⟨(some 21), none, .ld none (.t 20)⟩,
   ⟨(some 22), none, .len false (.t 21)⟩,
   ⟨(some 23), none, .mov (.c (.p (.int .i64 0)))⟩])
 (.blk 0 (.loop (.seq (.reg [⟨(some 24), none, .bin .lss (.t 23) (.t 22)⟩])
 (.seq (.cond (.t 24)
  (.skip)
  (.exit 0))
 (.seq (.blk 1 (.seq (.reg [⟨(some 25), none, .idxS 3 (.t 21) (.t 23)⟩,
   ⟨(some 26), none, .ld (some 3) (.t 25)⟩,
   ⟨(some 6), none, .alloc [(.p (.int .i64 0)), (.p (.int .i64 0)), .nils]⟩,
   ⟨none, none, .st 3 (.t 6) (.t 26)⟩])
 (.seq (.reg [⟨(some 28), none, .ld (some 3) (.t 6)⟩,
   ⟨(some 29), none, .call n_impl_EncodeFn [(.t 28)]⟩,
   ⟨(some 27), none, .mov (.t 29)⟩,
   ⟨(some 30), none, .ext 0 (.t 27)⟩,
   ⟨(some 31), none, .ext 1 (.t 27)⟩,
   ⟨(some 7), none, .mov (.t 30)⟩,
   ⟨(some 8), none, .mov (.t 31)⟩])
 (.seq (.seq (.reg [⟨(some 32), none, .mov (.t 8)⟩,
   ⟨(some 33), none, .not (.t 32)⟩])
 (.cond (.t 33)
  (.seq (.reg [⟨(some 2), none, .mov (.c .nils)⟩,
    ⟨(some 3), none, .mov (.c (.p (.bool false)))⟩])
  (.ret))
  (.skip)))
 (.seq (.reg [⟨(some 34), none, .mov (.t 4)⟩,
   ⟨(some 35), none, .fldA 0 (.t 6)⟩,
   ⟨(some 36), none, .ld none (.t 35)⟩,
   ⟨(some 37), none, .conv .u8 (.t 36)⟩,
   ⟨(some 38), none, .fldA 1 (.t 6)⟩,
   ⟨(some 39), none, .ld none (.t 38)⟩,
   ⟨(some 40), none, .conv .u8 (.t 39)⟩,
   ⟨(some 41), none, .mov (.t 7)⟩,
   ⟨(some 42), none, .len false (.t 41)⟩,
   ⟨(some 43), none, .bin .rem (.t 42) (.c (.p (.int .i64 256)))⟩,
   ⟨(some 44), none, .conv .u8 (.t 43)⟩,
   ⟨(some 45), none, .mov (.t 7)⟩,
   ⟨(some 46), none, .len false (.t 45)⟩,
   ⟨(some 47), none, .bin .quo (.t 46) (.c (.p (.int .i64 256)))⟩,
   ⟨(some 48), none, .conv .u8 (.t 47)⟩,
   ⟨(some 49), none, .bsl 1 [(.p (.int .u8 0))] 4 [(0, 1, (.t 37)), (1, 1, (.t 40)), (2, 1, (.t 44)), (3, 1, (.t 48))]⟩,
   ⟨(some 50), none, .app 1 1 (.t 34) (.t 49)⟩,
   ⟨(some 4), none, .mov (.t 50)⟩])
 (.reg [⟨(some 51), none, .mov (.t 4)⟩,
   ⟨(some 52), none, .mov (.t 7)⟩,
   ⟨(some 53), none, .app 1 1 (.t 51) (.t 52)⟩,
   ⟨(some 4), none, .mov (.t 53)⟩]))))))
 (.reg [⟨(some 54), none, .bin .add (.t 23) (.c (.p (.int .i64 1)))⟩,
   ⟨(some 23), none, .mov (.t 54)⟩])))))))
 (.seq (.reg [⟨(some 55), none, .mov (.t 4)⟩,
   ⟨(some 2), none, .mov (.t 55)⟩,
   ⟨(some 3), none, .mov (.c (.p (.bool true)))⟩])
 (.ret)))))⟩
theorem k_impl_ImageOf : compF Tryd.prog n_impl_ImageOf = some F_impl_ImageOf := by kernel_rfl

def F_laws_eqByteS : FK := ⟨26, [.t 4],
 .seq (.reg [⟨(some 4), none, .mov (.c (.p (.bool false)))⟩])
 (.seq (.seq (.reg [⟨(some 6), none, .mov (.t 0)⟩,
   ⟨(some 7), none, .len false (.t 6)⟩,
   ⟨(some 8), none, .mov (.t 1)⟩,
   ⟨(some 9), none, .len false (.t 8)⟩,
   ⟨(some 10), none, .bin .neq (.t 7) (.t 9)⟩])
 (.cond (.t 10)
  (.seq (.reg [⟨(some 4), none, .mov (.c (.p (.bool false)))⟩])
  (.ret))
  (.skip)))
 (.seq (.seq (.reg [⟨(some 5), none, .mov (.c (.p (.int .i64 0)))⟩])
 (.blk 0 (.loop (.seq (.seq (.reg [⟨(some 11), none, .mov (.t 5)⟩,
   ⟨(some 12), none, .mov (.t 0)⟩,
   ⟨(some 13), none, .len false (.t 12)⟩,
   ⟨(some 14), none, .bin .lss (.t 11) (.t 13)⟩])
 (.cond (.t 14)
  (.skip)
  (.exit 0)))
 (.seq (.blk 1 (.seq (.reg [⟨(some 17), none, .mov (.t 0)⟩,
   ⟨(some 18), none, .mov (.t 5)⟩,
   ⟨(some 19), none, .idxS 1 (.t 17) (.t 18)⟩,
   ⟨(some 21), none, .mov (.t 1)⟩,
   ⟨(some 22), none, .mov (.t 5)⟩,
   ⟨(some 23), none, .idxS 1 (.t 21) (.t 22)⟩,
   ⟨(some 20), none, .ld none (.t 19)⟩,
   ⟨(some 24), none, .ld none (.t 23)⟩,
   ⟨(some 25), none, .bin .neq (.t 20) (.t 24)⟩])
 (.cond (.t 25)
  (.seq (.reg [⟨(some 4), none, .mov (.c (.p (.bool false)))⟩])
  (.ret))
  (.skip))))
 (.reg [⟨(some 15), none, .mov (.t 5)⟩,
   ⟨(some 16), none, .bin .add (.t 15) (.c (.p (.int .i64 1)))⟩,
   ⟨(some 5), none, .mov (.t 16)⟩]))))))
 (.seq (.reg [⟨(some 4), none, .mov (.c (.p (.bool true)))⟩])
 (.ret))))⟩
theorem k_laws_eqByteS : compF Tryd.prog n_laws_eqByteS = some F_laws_eqByteS := by kernel_rfl

def F_laws_eqMins : FK := ⟨30, [.t 4],
 .seq (.reg [⟨(some 2), none, .box 5 (.t 0)⟩,
   ⟨(some 3), none, .box 5 (.t 1)⟩,
   ⟨(some 4), none, .mov (.c (.p (.bool false)))⟩])
 (.seq (.seq (.reg [⟨(some 5), none, .fldA 0 (.t 2)⟩,
   ⟨(some 6), none, .ld none (.t 5)⟩,
   ⟨(some 7), none, .fldA 0 (.t 3)⟩,
   ⟨(some 8), none, .ld none (.t 7)⟩,
   ⟨(some 9), none, .bin .neq (.t 6) (.t 8)⟩])
 (.cond (.t 9)
  (.seq (.reg [⟨(some 4), none, .mov (.c (.p (.bool false)))⟩])
  (.ret))
  (.skip)))
 (.seq (.seq (.reg [⟨(some 10), none, .fldA 1 (.t 2)⟩,
   ⟨(some 11), none, .ld none (.t 10)⟩,
   ⟨(some 12), none, .fldA 1 (.t 3)⟩,
   ⟨(some 13), none, .ld none (.t 12)⟩,
   ⟨(some 14), none, .bin .neq (.t 11) (.t 13)⟩])
 (.cond (.t 14)
  (.seq (.reg [⟨(some 4), none, .mov (.c (.p (.bool false)))⟩])
  (.ret))
  (.skip)))
 (.seq (.seq (.reg [⟨(some 15), none, .fldA 2 (.t 2)⟩,
   ⟨(some 16), none, .ld none (.t 15)⟩,
   ⟨(some 17), none, .fldA 2 (.t 3)⟩,
   ⟨(some 18), none, .ld none (.t 17)⟩,
   ⟨(some 19), none, .bin .neq (.t 16) (.t 18)⟩])
 (.cond (.t 19)
  (.seq (.reg [⟨(some 4), none, .mov (.c (.p (.bool false)))⟩])
  (.ret))
  (.skip)))
 (.seq (.seq (.reg [⟨(some 20), none, .fldA 3 (.t 2)⟩,
   ⟨(some 21), none, .ld none (.t 20)⟩,
   ⟨(some 22), none, .fldA 3 (.t 3)⟩,
   ⟨(some 23), none, .ld none (.t 22)⟩,
   ⟨(some 24), none, .bin .neq (.t 21) (.t 23)⟩])
 (.cond (.t 24)
  (.seq (.reg [⟨(some 4), none, .mov (.c (.p (.bool false)))⟩])
  (.ret))
  (.skip)))
 (.seq (.seq (.reg [⟨(some 25), none, .fldA 4 (.t 2)⟩,
   ⟨(some 26), none, .ld none (.t 25)⟩,
   ⟨(some 27), none, .fldA 4 (.t 3)⟩,
   ⟨(some 28), none, .ld none (.t 27)⟩,
   ⟨(some 29), none, .bin .neq (.t 26) (.t 28)⟩])
 (.cond (.t 29)
  (.seq (.reg [⟨(some 4), none, .mov (.c (.p (.bool false)))⟩])
  (.ret))
  (.skip)))
 (.seq (.reg [⟨(some 4), none, .mov (.c (.p (.bool true)))⟩])
 (.ret)))))))⟩
theorem k_laws_eqMins : compF Tryd.prog n_laws_eqMins = some F_laws_eqMins := by kernel_rfl

def F_laws_eqMinsS : FK := ⟨27, [.t 4],
 .seq (.reg [⟨(some 4), none, .mov (.c (.p (.bool false)))⟩])
 (.seq (.seq (.reg [⟨(some 6), none, .mov (.t 0)⟩,
   ⟨(some 7), none, .len false (.t 6)⟩,
   ⟨(some 8), none, .mov (.t 1)⟩,
   ⟨(some 9), none, .len false (.t 8)⟩,
   ⟨(some 10), none, .bin .neq (.t 7) (.t 9)⟩])
 (.cond (.t 10)
  (.seq (.reg [⟨(some 4), none, .mov (.c (.p (.bool false)))⟩])
  (.ret))
  (.skip)))
 (.seq (.seq (.reg [⟨(some 5), none, .mov (.c (.p (.int .i64 0)))⟩])
 (.blk 0 (.loop (.seq (.seq (.reg [⟨(some 11), none, .mov (.t 5)⟩,
   ⟨(some 12), none, .mov (.t 0)⟩,
   ⟨(some 13), none, .len false (.t 12)⟩,
   ⟨(some 14), none, .bin .lss (.t 11) (.t 13)⟩])
 (.cond (.t 14)
  (.skip)
  (.exit 0)))
 (.seq (.blk 1 (.seq (.reg [⟨(some 17), none, .mov (.t 0)⟩,
   ⟨(some 18), none, .mov (.t 5)⟩,
   ⟨(some 19), none, .idxS 5 (.t 17) (.t 18)⟩,
   ⟨(some 21), none, .mov (.t 1)⟩,
   ⟨(some 22), none, .mov (.t 5)⟩,
   ⟨(some 23), none, .idxS 5 (.t 21) (.t 22)⟩,
   ⟨(some 20), none, .ld (some 5) (.t 19)⟩,
   ⟨(some 24), none, .ld (some 5) (.t 23)⟩,
   ⟨(some 25), none, .call n_laws_eqMins [(.t 20), (.t 24)]⟩,
   ⟨(some 26), none, .not (.t 25)⟩])
 (.cond (.t 26)
  (.seq (.reg [⟨(some 4), none, .mov (.c (.p (.bool false)))⟩])
  (.ret))
  (.skip))))
 (.reg [⟨(some 15), none, .mov (.t 5)⟩,
   ⟨(some 16), none, .bin .add (.t 15) (.c (.p (.int .i64 1)))⟩,
   ⟨(some 5), none, .mov (.t 16)⟩]))))))
 (.seq (.reg [⟨(some 4), none, .mov (.c (.p (.bool true)))⟩])
 (.ret))))⟩
theorem k_laws_eqMinsS : compF Tryd.prog n_laws_eqMinsS = some F_laws_eqMinsS := by kernel_rfl

def F_laws_eqMfn : FK := ⟨21, [.t 4],
 .seq (.reg [⟨(some 2), none, .box 3 (.t 0)⟩,
   ⟨(some 3), none, .box 3 (.t 1)⟩,
   ⟨(some 4), none, .mov (.c (.p (.bool false)))⟩])
 (.seq (.seq (.reg [⟨(some 5), none, .fldA 0 (.t 2)⟩,
   ⟨(some 6), none, .ld none (.t 5)⟩,
   ⟨(some 7), none, .fldA 0 (.t 3)⟩,
   ⟨(some 8), none, .ld none (.t 7)⟩,
   ⟨(some 9), none, .bin .neq (.t 6) (.t 8)⟩])
 (.cond (.t 9)
  (.seq (.reg [⟨(some 4), none, .mov (.c (.p (.bool false)))⟩])
  (.ret))
  (.skip)))
 (.seq (.seq (.reg [⟨(some 10), none, .fldA 1 (.t 2)⟩,
   ⟨(some 11), none, .ld none (.t 10)⟩,
   ⟨(some 12), none, .fldA 1 (.t 3)⟩,
   ⟨(some 13), none, .ld none (.t 12)⟩,
   ⟨(some 14), none, .bin .neq (.t 11) (.t 13)⟩])
 (.cond (.t 14)
  (.seq (.reg [⟨(some 4), none, .mov (.c (.p (.bool false)))⟩])
  (.ret))
  (.skip)))
 (.seq (.seq (.reg [⟨(some 15), none, .fldA 2 (.t 2)⟩,
   ⟨(some 16), none, .ld none (.t 15)⟩,
   ⟨(some 17), none, .fldA 2 (.t 3)⟩,
   ⟨(some 18), none, .ld none (.t 17)⟩,
   ⟨(some 19), none, .call n_laws_eqMinsS [(.t 16), (.t 18)]⟩,
   ⟨(some 20), none, .not (.t 19)⟩])
 (.cond (.t 20)
  (.seq (.reg [⟨(some 4), none, .mov (.c (.p (.bool false)))⟩])
  (.ret))
  (.skip)))
 (.seq (.reg [⟨(some 4), none, .mov (.c (.p (.bool true)))⟩])
 (.ret)))))⟩
theorem k_laws_eqMfn : compF Tryd.prog n_laws_eqMfn = some F_laws_eqMfn := by kernel_rfl

def F_laws_eqMfnS : FK := ⟨27, [.t 4],
 .seq (.reg [⟨(some 4), none, .mov (.c (.p (.bool false)))⟩])
 (.seq (.seq (.reg [⟨(some 6), none, .mov (.t 0)⟩,
   ⟨(some 7), none, .len false (.t 6)⟩,
   ⟨(some 8), none, .mov (.t 1)⟩,
   ⟨(some 9), none, .len false (.t 8)⟩,
   ⟨(some 10), none, .bin .neq (.t 7) (.t 9)⟩])
 (.cond (.t 10)
  (.seq (.reg [⟨(some 4), none, .mov (.c (.p (.bool false)))⟩])
  (.ret))
  (.skip)))
 (.seq (.seq (.reg [⟨(some 5), none, .mov (.c (.p (.int .i64 0)))⟩])
 (.blk 0 (.loop (.seq (.seq (.reg [⟨(some 11), none, .mov (.t 5)⟩,
   ⟨(some 12), none, .mov (.t 0)⟩,
   ⟨(some 13), none, .len false (.t 12)⟩,
   ⟨(some 14), none, .bin .lss (.t 11) (.t 13)⟩])
 (.cond (.t 14)
  (.skip)
  (.exit 0)))
 (.seq (.blk 1 (.seq (.reg [⟨(some 17), none, .mov (.t 0)⟩,
   ⟨(some 18), none, .mov (.t 5)⟩,
   ⟨(some 19), none, .idxS 3 (.t 17) (.t 18)⟩,
   ⟨(some 21), none, .mov (.t 1)⟩,
   ⟨(some 22), none, .mov (.t 5)⟩,
   ⟨(some 23), none, .idxS 3 (.t 21) (.t 22)⟩,
   ⟨(some 20), none, .ld (some 3) (.t 19)⟩,
   ⟨(some 24), none, .ld (some 3) (.t 23)⟩,
   ⟨(some 25), none, .call n_laws_eqMfn [(.t 20), (.t 24)]⟩,
   ⟨(some 26), none, .not (.t 25)⟩])
 (.cond (.t 26)
  (.seq (.reg [⟨(some 4), none, .mov (.c (.p (.bool false)))⟩])
  (.ret))
  (.skip))))
 (.reg [⟨(some 15), none, .mov (.t 5)⟩,
   ⟨(some 16), none, .bin .add (.t 15) (.c (.p (.int .i64 1)))⟩,
   ⟨(some 5), none, .mov (.t 16)⟩]))))))
 (.seq (.reg [⟨(some 4), none, .mov (.c (.p (.bool true)))⟩])
 (.ret))))⟩
theorem k_laws_eqMfnS : compF Tryd.prog n_laws_eqMfnS = some F_laws_eqMfnS := by kernel_rfl

def F_laws_eqMach : FK := ⟨11, [.t 4],
 .seq (.reg [⟨(some 2), none, .box 1 (.t 0)⟩,
   ⟨(some 3), none, .box 1 (.t 1)⟩,
   ⟨(some 4), none, .mov (.c (.p (.bool false)))⟩])
 (.seq (.seq (.reg [⟨(some 5), none, .fldA 0 (.t 2)⟩,
   ⟨(some 6), none, .ld none (.t 5)⟩,
   ⟨(some 7), none, .fldA 0 (.t 3)⟩,
   ⟨(some 8), none, .ld none (.t 7)⟩,
   ⟨(some 9), none, .call n_laws_eqMfnS [(.t 6), (.t 8)]⟩,
   ⟨(some 10), none, .not (.t 9)⟩])
 (.cond (.t 10)
  (.seq (.reg [⟨(some 4), none, .mov (.c (.p (.bool false)))⟩])
  (.ret))
  (.skip)))
 (.seq (.reg [⟨(some 4), none, .mov (.c (.p (.bool true)))⟩])
 (.ret)))⟩
theorem k_laws_eqMach : compF Tryd.prog n_laws_eqMach = some F_laws_eqMach := by kernel_rfl

def F_laws_markMinsS : FK := ⟨48, [.t 4],
 .seq (.reg [⟨(some 4), none, .mov (.c (.p (.int .i64 0)))⟩])
 (.seq (.seq (.reg [⟨(some 5), none, .mov (.c (.p (.int .i64 0)))⟩])
 (.blk 0 (.loop (.seq (.seq (.reg [⟨(some 6), none, .mov (.t 5)⟩,
   ⟨(some 7), none, .mov (.t 0)⟩,
   ⟨(some 8), none, .len false (.t 7)⟩,
   ⟨(some 9), none, .bin .lss (.t 6) (.t 8)⟩])
 (.cond (.t 9)
  (.skip)
  (.exit 0)))
 (.seq (.blk 1 (.seq (.reg [⟨(some 12), none, .mov (.t 0)⟩,
   ⟨(some 13), none, .mov (.t 5)⟩,
   ⟨(some 14), none, .mov (.t 1)⟩,
   ⟨(some 15), none, .idxS 5 (.t 12) (.t 13)⟩,
   ⟨(some 16), none, .fldA 0 (.t 15)⟩,
   ⟨none, none, .st 1 (.t 16) (.t 14)⟩])
 (.seq (.reg [⟨(some 17), none, .mov (.t 1)⟩,
   ⟨(some 18), none, .bin .add (.t 17) (.c (.p (.int .i64 1)))⟩,
   ⟨(some 1), none, .mov (.t 18)⟩])
 (.seq (.reg [⟨(some 19), none, .mov (.t 0)⟩,
   ⟨(some 20), none, .mov (.t 5)⟩,
   ⟨(some 21), none, .mov (.t 1)⟩,
   ⟨(some 22), none, .idxS 5 (.t 19) (.t 20)⟩,
   ⟨(some 23), none, .fldA 1 (.t 22)⟩,
   ⟨none, none, .st 1 (.t 23) (.t 21)⟩])
 (.seq (.reg [⟨(some 24), none, .mov (.t 1)⟩,
   ⟨(some 25), none, .bin .add (.t 24) (.c (.p (.int .i64 1)))⟩,
   ⟨(some 1), none, .mov (.t 25)⟩])
 (.seq (.reg [⟨(some 26), none, .mov (.t 0)⟩,
   ⟨(some 27), none, .mov (.t 5)⟩,
   ⟨(some 28), none, .mov (.t 1)⟩,
   ⟨(some 29), none, .idxS 5 (.t 26) (.t 27)⟩,
   ⟨(some 30), none, .fldA 2 (.t 29)⟩,
   ⟨none, none, .st 1 (.t 30) (.t 28)⟩])
 (.seq (.reg [⟨(some 31), none, .mov (.t 1)⟩,
   ⟨(some 32), none, .bin .add (.t 31) (.c (.p (.int .i64 1)))⟩,
   ⟨(some 1), none, .mov (.t 32)⟩])
 (.seq (.reg [⟨(some 33), none, .mov (.t 0)⟩,
   ⟨(some 34), none, .mov (.t 5)⟩,
   ⟨(some 35), none, .mov (.t 1)⟩,
   ⟨(some 36), none, .idxS 5 (.t 33) (.t 34)⟩,
   ⟨(some 37), none, .fldA 3 (.t 36)⟩,
   ⟨none, none, .st 1 (.t 37) (.t 35)⟩])
 (.seq (.reg [⟨(some 38), none, .mov (.t 1)⟩,
   ⟨(some 39), none, .bin .add (.t 38) (.c (.p (.int .i64 1)))⟩,
   ⟨(some 1), none, .mov (.t 39)⟩])
 (.seq (.reg [⟨(some 40), none, .mov (.t 0)⟩,
   ⟨(some 41), none, .mov (.t 5)⟩,
   ⟨(some 42), none, .mov (.t 1)⟩,
   ⟨(some 43), none, .idxS 5 (.t 40) (.t 41)⟩,
   ⟨(some 44), none, .fldA 4 (.t 43)⟩,
   ⟨none, none, .st 1 (.t 44) (.t 42)⟩])
 (.reg [⟨(some 45), none, .mov (.t 1)⟩,
   ⟨(some 46), none, .bin .add (.t 45) (.c (.p (.int .i64 1)))⟩,
   ⟨(some 1), none, .mov (.t 46)⟩])))))))))))
 (.reg [⟨(some 10), none, .mov (.t 5)⟩,
   ⟨(some 11), none, .bin .add (.t 10) (.c (.p (.int .i64 1)))⟩,
   ⟨(some 5), none, .mov (.t 11)⟩]))))))
 (.seq (.reg [⟨(some 47), none, .mov (.t 1)⟩,
   ⟨(some 4), none, .mov (.t 47)⟩])
 (.ret)))⟩
theorem k_laws_markMinsS : compF Tryd.prog n_laws_markMinsS = some F_laws_markMinsS := by kernel_rfl

def F_laws_markMfnS : FK := ⟨34, [.t 4],
 .seq (.reg [⟨(some 4), none, .mov (.c (.p (.int .i64 0)))⟩])
 (.seq (.seq (.reg [⟨(some 5), none, .mov (.c (.p (.int .i64 0)))⟩])
 (.blk 0 (.loop (.seq (.seq (.reg [⟨(some 6), none, .mov (.t 5)⟩,
   ⟨(some 7), none, .mov (.t 0)⟩,
   ⟨(some 8), none, .len false (.t 7)⟩,
   ⟨(some 9), none, .bin .lss (.t 6) (.t 8)⟩])
 (.cond (.t 9)
  (.skip)
  (.exit 0)))
 (.seq (.blk 1 (.seq (.reg [⟨(some 12), none, .mov (.t 0)⟩,
   ⟨(some 13), none, .mov (.t 5)⟩,
   ⟨(some 14), none, .mov (.t 1)⟩,
   ⟨(some 15), none, .idxS 3 (.t 12) (.t 13)⟩,
   ⟨(some 16), none, .fldA 0 (.t 15)⟩,
   ⟨none, none, .st 1 (.t 16) (.t 14)⟩])
 (.seq (.reg [⟨(some 17), none, .mov (.t 1)⟩,
   ⟨(some 18), none, .bin .add (.t 17) (.c (.p (.int .i64 1)))⟩,
   ⟨(some 1), none, .mov (.t 18)⟩])
 (.seq (.reg [⟨(some 19), none, .mov (.t 0)⟩,
   ⟨(some 20), none, .mov (.t 5)⟩,
   ⟨(some 21), none, .mov (.t 1)⟩,
   ⟨(some 22), none, .idxS 3 (.t 19) (.t 20)⟩,
   ⟨(some 23), none, .fldA 1 (.t 22)⟩,
   ⟨none, none, .st 1 (.t 23) (.t 21)⟩])
 (.seq (.reg [⟨(some 24), none, .mov (.t 1)⟩,
   ⟨(some 25), none, .bin .add (.t 24) (.c (.p (.int .i64 1)))⟩,
   ⟨(some 1), none, .mov (.t 25)⟩])
 (.reg [⟨(some 26), none, .mov (.t 0)⟩,
   ⟨(some 27), none, .mov (.t 5)⟩,
   ⟨(some 28), none, .idxS 3 (.t 26) (.t 27)⟩,
   ⟨(some 29), none, .fldA 2 (.t 28)⟩,
   ⟨(some 30), none, .ld none (.t 29)⟩,
   ⟨(some 31), none, .mov (.t 1)⟩,
   ⟨(some 32), none, .call n_laws_markMinsS [(.t 30), (.t 31)]⟩,
   ⟨(some 1), none, .mov (.t 32)⟩]))))))
 (.reg [⟨(some 10), none, .mov (.t 5)⟩,
   ⟨(some 11), none, .bin .add (.t 10) (.c (.p (.int .i64 1)))⟩,
   ⟨(some 5), none, .mov (.t 11)⟩]))))))
 (.seq (.reg [⟨(some 33), none, .mov (.t 1)⟩,
   ⟨(some 4), none, .mov (.t 33)⟩])
 (.ret)))⟩
theorem k_laws_markMfnS : compF Tryd.prog n_laws_markMfnS = some F_laws_markMfnS := by kernel_rfl

def F_laws_markMach : FK := ⟨10, [.t 4],
 .seq (.reg [⟨(some 2), none, .box 1 (.t 0)⟩,
   ⟨(some 4), none, .mov (.c (.p (.int .i64 0)))⟩])
 (.seq (.reg [⟨(some 5), none, .fldA 0 (.t 2)⟩,
   ⟨(some 6), none, .ld none (.t 5)⟩,
   ⟨(some 7), none, .mov (.t 1)⟩,
   ⟨(some 8), none, .call n_laws_markMfnS [(.t 6), (.t 7)]⟩,
   ⟨(some 1), none, .mov (.t 8)⟩])
 (.seq (.reg [⟨(some 9), none, .mov (.t 1)⟩,
   ⟨(some 4), none, .mov (.t 9)⟩])
 (.ret)))⟩
theorem k_laws_markMach : compF Tryd.prog n_laws_markMach = some F_laws_markMach := by kernel_rfl

def F_laws_markByteS : FK := ⟨20, [.t 4],
 .seq (.reg [⟨(some 4), none, .mov (.c (.p (.int .i64 0)))⟩])
 (.seq (.seq (.reg [⟨(some 5), none, .mov (.c (.p (.int .i64 0)))⟩])
 (.blk 0 (.loop (.seq (.seq (.reg [⟨(some 6), none, .mov (.t 5)⟩,
   ⟨(some 7), none, .mov (.t 0)⟩,
   ⟨(some 8), none, .len false (.t 7)⟩,
   ⟨(some 9), none, .bin .lss (.t 6) (.t 8)⟩])
 (.cond (.t 9)
  (.skip)
  (.exit 0)))
 (.seq (.blk 1 (.seq (.reg [⟨(some 12), none, .mov (.t 0)⟩,
   ⟨(some 13), none, .mov (.t 5)⟩,
   ⟨(some 14), none, .mov (.t 1)⟩,
   ⟨(some 15), none, .conv .u8 (.t 14)⟩,
   ⟨(some 16), none, .idxS 1 (.t 12) (.t 13)⟩,
   ⟨none, none, .st 1 (.t 16) (.t 15)⟩])
 (.reg [⟨(some 17), none, .mov (.t 1)⟩,
   ⟨(some 18), none, .bin .add (.t 17) (.c (.p (.int .i64 1)))⟩,
   ⟨(some 1), none, .mov (.t 18)⟩])))
 (.reg [⟨(some 10), none, .mov (.t 5)⟩,
   ⟨(some 11), none, .bin .add (.t 10) (.c (.p (.int .i64 1)))⟩,
   ⟨(some 5), none, .mov (.t 11)⟩]))))))
 (.seq (.reg [⟨(some 19), none, .mov (.t 1)⟩,
   ⟨(some 4), none, .mov (.t 19)⟩])
 (.ret)))⟩
theorem k_laws_markByteS : compF Tryd.prog n_laws_markByteS = some F_laws_markByteS := by kernel_rfl

def F_laws_heldByteS : FK := ⟨22, [.t 4],
 .seq (.reg [⟨(some 4), none, .mov (.c (.p (.int .i64 0)))⟩])
 (.seq (.seq (.reg [⟨(some 5), none, .mov (.c (.p (.int .i64 0)))⟩])
 (.blk 0 (.loop (.seq (.seq (.reg [⟨(some 6), none, .mov (.t 5)⟩,
   ⟨(some 7), none, .mov (.t 0)⟩,
   ⟨(some 8), none, .len false (.t 7)⟩,
   ⟨(some 9), none, .bin .lss (.t 6) (.t 8)⟩])
 (.cond (.t 9)
  (.skip)
  (.exit 0)))
 (.seq (.blk 1 (.seq (.seq (.reg [⟨(some 12), none, .mov (.t 0)⟩,
   ⟨(some 13), none, .mov (.t 5)⟩,
   ⟨(some 14), none, .idxS 1 (.t 12) (.t 13)⟩,
   ⟨(some 15), none, .ld none (.t 14)⟩,
   ⟨(some 16), none, .mov (.t 1)⟩,
   ⟨(some 17), none, .conv .u8 (.t 16)⟩,
   ⟨(some 18), none, .bin .neq (.t 15) (.t 17)⟩])
 (.cond (.t 18)
  (.seq (.reg [⟨(some 4), none, .mov (.c (.p (.int .i64 (-1))))⟩])
  (.ret))
  (.skip)))
 (.reg [⟨(some 19), none, .mov (.t 1)⟩,
   ⟨(some 20), none, .bin .add (.t 19) (.c (.p (.int .i64 1)))⟩,
   ⟨(some 1), none, .mov (.t 20)⟩])))
 (.reg [⟨(some 10), none, .mov (.t 5)⟩,
   ⟨(some 11), none, .bin .add (.t 10) (.c (.p (.int .i64 1)))⟩,
   ⟨(some 5), none, .mov (.t 11)⟩]))))))
 (.seq (.reg [⟨(some 21), none, .mov (.t 1)⟩,
   ⟨(some 4), none, .mov (.t 21)⟩])
 (.ret)))⟩
theorem k_laws_heldByteS : compF Tryd.prog n_laws_heldByteS = some F_laws_heldByteS := by kernel_rfl

def F_laws_FnExactImageOf : FK := ⟨96, [.t 2],
 .seq (.reg [⟨(some 1), none, .box 1 (.t 0)⟩,
   ⟨(some 2), none, .mov (.c (.p (.bool false)))⟩])
 (.seq (.reg [⟨(some 3), none, .mov (.c (.p (.int .i64 1048576)))⟩])
 (.seq (.reg [⟨(some 14), none, .ld (some 1) (.t 1)⟩,
   ⟨(some 15), none, .mov (.t 3)⟩,
   ⟨(some 16), none, .call n_laws_szMach [(.t 14), (.t 15)]⟩,
   ⟨(some 3), none, .mov (.t 16)⟩])
 (.seq (.seq (.reg [⟨(some 17), none, .mov (.t 3)⟩,
   ⟨(some 18), none, .bin .lss (.t 17) (.c (.p (.int .i64 0)))⟩])
 (.cond (.t 18)
  (.seq (.reg [⟨(some 2), none, .mov (.c (.p (.bool true)))⟩])
  (.ret))
  (.skip)))
 (.seq (.reg [⟨(some 20), none, .ld (some 1) (.t 1)⟩,
   ⟨(some 21), none, .call n_laws_toMach [(.t 20)]⟩,
   ⟨(some 22), none, .call n_spec_ImageOf [(.t 21)]⟩,
   ⟨(some 19), none, .mov (.t 22)⟩,
   ⟨(some 23), none, .ext 0 (.t 19)⟩,
   ⟨(some 24), none, .ext 1 (.t 19)⟩,
   ⟨(some 4), none, .mov (.t 23)⟩,
   ⟨(some 5), none, .mov (.t 24)⟩])
 (.seq (.reg [⟨(some 25), none, .ld (some 1) (.t 1)⟩,
   ⟨(some 26), none, .call n_laws_toMach [(.t 25)]⟩,
   ⟨(some 6), none, .alloc [.nils]⟩,
   ⟨none, none, .st 1 (.t 6) (.t 26)⟩])
 (.seq (.reg [⟨(some 28), none, .ld (some 1) (.t 6)⟩,
   ⟨(some 29), none, .call n_impl_ImageOf [(.t 28)]⟩,
   ⟨(some 27), none, .mov (.t 29)⟩,
   ⟨(some 30), none, .ext 0 (.t 27)⟩,
   ⟨(some 31), none, .ext 1 (.t 27)⟩,
   ⟨(some 7), none, .mov (.t 30)⟩,
   ⟨(some 8), none, .mov (.t 31)⟩])
 (.seq (.seq (.reg [⟨(some 32), none, .mov (.t 7)⟩,
   ⟨(some 33), none, .mov (.t 4)⟩,
   ⟨(some 34), none, .call n_laws_eqByteS [(.t 32), (.t 33)]⟩,
   ⟨(some 35), none, .not (.t 34)⟩,
   ⟨(some 36), none, .mov (.t 35)⟩,
   ⟨(some 37), (some (36, false)), .mov (.t 8)⟩,
   ⟨(some 38), (some (36, false)), .mov (.t 5)⟩,
   ⟨(some 39), (some (36, false)), .beq true (.t 37) (.t 38)⟩,
   ⟨(some 40), none, .pick (.t 36) (.c (.p (.bool true))) (.t 39)⟩])
 (.cond (.t 40)
  (.seq (.reg [⟨(some 2), none, .mov (.c (.p (.bool false)))⟩])
  (.ret))
  (.skip)))
 (.seq (.seq (.reg [⟨(some 41), none, .ld (some 1) (.t 6)⟩,
   ⟨(some 42), none, .ld (some 1) (.t 1)⟩,
   ⟨(some 43), none, .call n_laws_toMach [(.t 42)]⟩,
   ⟨none, none, .chk (some 1) 6 41⟩,
   ⟨(some 44), none, .call n_laws_eqMach [(.t 41), (.t 43)]⟩,
   ⟨(some 45), none, .not (.t 44)⟩])
 (.cond (.t 45)
  (.seq (.reg [⟨(some 2), none, .mov (.c (.p (.bool false)))⟩])
  (.ret))
  (.skip)))
 (.seq (.reg [⟨(some 9), none, .mov (.c (.p (.int .i64 1)))⟩])
 (.seq (.reg [⟨(some 46), none, .ld (some 1) (.t 6)⟩,
   ⟨(some 47), none, .mov (.t 9)⟩,
   ⟨(some 48), none, .call n_laws_markMach [(.t 46), (.t 47)]⟩,
   ⟨(some 9), none, .mov (.t 48)⟩])
 (.seq (.seq (.reg [⟨(some 49), none, .mov (.t 9)⟩,
   ⟨(some 50), none, .bin .lss (.t 49) (.c (.p (.int .i64 0)))⟩,
   ⟨(some 51), none, .mov (.t 50)⟩,
   ⟨(some 52), (some (51, false)), .mov (.t 7)⟩,
   ⟨(some 53), (some (51, false)), .mov (.t 4)⟩,
   ⟨(some 54), (some (51, false)), .call n_laws_eqByteS [(.t 52), (.t 53)]⟩,
   ⟨(some 55), (some (51, false)), .not (.t 54)⟩,
   ⟨(some 56), none, .pick (.t 51) (.c (.p (.bool true))) (.t 55)⟩,
   ⟨(some 57), none, .mov (.t 56)⟩,
   ⟨(some 58), (some (57, false)), .mov (.t 8)⟩,
   ⟨(some 59), (some (57, false)), .mov (.t 5)⟩,
   ⟨(some 60), (some (57, false)), .beq true (.t 58) (.t 59)⟩,
   ⟨(some 61), none, .pick (.t 57) (.c (.p (.bool true))) (.t 60)⟩])
 (.cond (.t 61)
  (.seq (.reg [⟨(some 2), none, .mov (.c (.p (.bool false)))⟩])
  (.ret))
  (.skip)))
 (.seq (.reg [⟨(some 10), none, .mov (.c (.p (.int .i64 1)))⟩])
 (.seq (.reg [⟨(some 62), none, .mov (.t 7)⟩,
   ⟨(some 63), none, .mov (.t 10)⟩,
   ⟨(some 64), none, .call n_laws_markByteS [(.t 62), (.t 63)]⟩,
   ⟨(some 10), none, .mov (.t 64)⟩])
 (.seq (.reg [⟨(some 11), none, .mov (.c (.p (.int .i64 1)))⟩])
 (.seq (.reg [⟨(some 65), none, .mov (.t 7)⟩,
   ⟨(some 66), none, .mov (.t 11)⟩,
   ⟨(some 67), none, .call n_laws_heldByteS [(.t 65), (.t 66)]⟩,
   ⟨(some 11), none, .mov (.t 67)⟩])
 (.seq (.seq (.reg [⟨(some 68), none, .mov (.t 11)⟩,
   ⟨(some 69), none, .bin .lss (.t 68) (.c (.p (.int .i64 0)))⟩])
 (.cond (.t 69)
  (.seq (.reg [⟨(some 2), none, .mov (.c (.p (.bool false)))⟩])
  (.ret))
  (.skip)))
 (.seq (.seq (.reg [⟨(some 70), none, .mov (.t 11)⟩,
   ⟨(some 71), none, .mov (.t 10)⟩,
   ⟨(some 72), none, .bin .neq (.t 70) (.t 71)⟩])
 (.cond (.t 72)
  (.seq (.reg [⟨(some 2), none, .mov (.c (.p (.bool false)))⟩])
  (.ret))
  (.skip)))
 (.seq (.reg [⟨(some 74), none, .ld (some 1) (.t 1)⟩,
   ⟨(some 75), none, .call n_laws_toMach [(.t 74)]⟩,
   ⟨(some 76), none, .call n_impl_ImageOf [(.t 75)]⟩,
   ⟨(some 73), none, .mov (.t 76)⟩,
   ⟨(some 77), none, .ext 0 (.t 73)⟩,
   ⟨(some 78), none, .ext 1 (.t 73)⟩,
   ⟨(some 12), none, .mov (.t 77)⟩,
   ⟨(some 13), none, .mov (.t 78)⟩])
 (.seq (.seq (.reg [⟨(some 79), none, .mov (.t 12)⟩,
   ⟨(some 80), none, .mov (.t 4)⟩,
   ⟨(some 81), none, .call n_laws_eqByteS [(.t 79), (.t 80)]⟩,
   ⟨(some 82), none, .not (.t 81)⟩,
   ⟨(some 83), none, .mov (.t 82)⟩,
   ⟨(some 84), (some (83, false)), .mov (.t 13)⟩,
   ⟨(some 85), (some (83, false)), .mov (.t 5)⟩,
   ⟨(some 86), (some (83, false)), .beq true (.t 84) (.t 85)⟩,
   ⟨(some 87), none, .pick (.t 83) (.c (.p (.bool true))) (.t 86)⟩])
 (.cond (.t 87)
  (.seq (.reg [⟨(some 2), none, .mov (.c (.p (.bool false)))⟩])
  (.ret))
  (.skip)))
 (.seq (.reg [⟨(some 11), none, .mov (.c (.p (.int .i64 1)))⟩])
 (.seq (.reg [⟨(some 88), none, .mov (.t 7)⟩,
   ⟨(some 89), none, .mov (.t 11)⟩,
   ⟨(some 90), none, .call n_laws_heldByteS [(.t 88), (.t 89)]⟩,
   ⟨(some 11), none, .mov (.t 90)⟩])
 (.seq (.seq (.reg [⟨(some 91), none, .mov (.t 11)⟩,
   ⟨(some 92), none, .bin .lss (.t 91) (.c (.p (.int .i64 0)))⟩])
 (.cond (.t 92)
  (.seq (.reg [⟨(some 2), none, .mov (.c (.p (.bool false)))⟩])
  (.ret))
  (.skip)))
 (.seq (.seq (.reg [⟨(some 93), none, .mov (.t 11)⟩,
   ⟨(some 94), none, .mov (.t 10)⟩,
   ⟨(some 95), none, .bin .neq (.t 93) (.t 94)⟩])
 (.cond (.t 95)
  (.seq (.reg [⟨(some 2), none, .mov (.c (.p (.bool false)))⟩])
  (.ret))
  (.skip)))
 (.seq (.reg [⟨(some 2), none, .mov (.c (.p (.bool true)))⟩])
 (.ret)))))))))))))))))))))))))⟩
theorem k_laws_FnExactImageOf : compF Tryd.prog n_laws_FnExactImageOf = some F_laws_FnExactImageOf := by kernel_rfl
end Go.Proofs.YtbbobekgnclkfaaDoor
