/-
  The compiled texts of functions, printed by a program.
-/
import Derived.Test.YtbbobekgnclkfaaDoorCode2
namespace Go.Proofs.YtbbobekgnclkfaaDoor
open Go Go.Aw
set_option maxRecDepth 100000
abbrev n_laws_szByteS : FuncId := 69
abbrev n_laws_szIntS : FuncId := 70
abbrev n_laws_szStringS : FuncId := 31
abbrev n_laws_szObject : FuncId := 27
abbrev n_laws_toIntS : FuncId := 73
abbrev n_laws_toStringS : FuncId := 32
abbrev n_laws_toObject : FuncId := 29
abbrev n_spec_l30Find : FuncId := 142
abbrev n_spec_l1Class : FuncId := 136
abbrev n_spec_l1All : FuncId := 116
abbrev n_spec_KeyWords : FuncId := 137
abbrev n_spec_l1Key : FuncId := 117
abbrev n_spec_IsName : FuncId := 71
abbrev n_spec_MinsPlaces : FuncId := 111
abbrev n_spec_l26Calls : FuncId := 67
abbrev n_spec_l5Ints : FuncId := 72
abbrev n_spec_ObjectValid : FuncId := 28
abbrev n_strings_indexFunc : FuncId := 131
abbrev n_strings_IndexFunc : FuncId := 104
abbrev n_slices_Index_string : FuncId := 106
abbrev n_slices_Contains_string : FuncId := 60
abbrev n_impl_IsName_1 : FuncId := 105
abbrev n_impl_IsName : FuncId := 59
abbrev n_slices_Clone_impl_Mins : FuncId := 133
abbrev n_impl_cloneMfn : FuncId := 109
abbrev n_impl_blank : FuncId := 62
abbrev n_slices_Equal_impl_Mins : FuncId := 134
abbrev n_impl_sameMfn : FuncId := 112
abbrev n_impl_MinsPlaces : FuncId := 110
abbrev n_impl_callBytes : FuncId := 63
abbrev n_slices_Equal_int : FuncId := 113
abbrev n_slices_IndexFunc_string : FuncId := 135
abbrev n_slices_ContainsFunc_string : FuncId := 114
abbrev n_impl_fnOf_1 : FuncId := 115
abbrev n_impl_fnOf : FuncId := 68
abbrev n_impl_ObjectValid : FuncId := 26
abbrev n_laws_eqIntS : FuncId := 74
abbrev n_laws_eqStringS : FuncId := 33
abbrev n_laws_eqObject : FuncId := 30
abbrev n_laws_FnExactObjectValid : FuncId := 6
def F_laws_szByteS : FK := ⟨12, [.t 4],
 .seq (.reg [⟨(some 4), none, .mov (.c (.p (.int .i64 0)))⟩])
 (.seq (.reg [⟨(some 5), none, .mov (.t 1)⟩,
   ⟨(some 6), none, .mov (.t 0)⟩,
   ⟨(some 7), none, .len false (.t 6)⟩,
   ⟨(some 8), none, .bin .sub (.t 5) (.t 7)⟩,
   ⟨(some 1), none, .mov (.t 8)⟩])
 (.seq (.seq (.reg [⟨(some 9), none, .mov (.t 1)⟩,
   ⟨(some 10), none, .bin .lss (.t 9) (.c (.p (.int .i64 0)))⟩])
 (.cond (.t 10)
  (.seq (.reg [⟨(some 4), none, .mov (.c (.p (.int .i64 (-1))))⟩])
  (.ret))
  (.skip)))
 (.seq (.reg [⟨(some 11), none, .mov (.t 1)⟩,
   ⟨(some 4), none, .mov (.t 11)⟩])
 (.ret))))⟩
theorem k_laws_szByteS : compF Tryd.prog n_laws_szByteS = some F_laws_szByteS := by kernel_rfl

def F_laws_szIntS : FK := ⟨12, [.t 4],
 .seq (.reg [⟨(some 4), none, .mov (.c (.p (.int .i64 0)))⟩])
 (.seq (.reg [⟨(some 5), none, .mov (.t 1)⟩,
   ⟨(some 6), none, .mov (.t 0)⟩,
   ⟨(some 7), none, .len false (.t 6)⟩,
   ⟨(some 8), none, .bin .sub (.t 5) (.t 7)⟩,
   ⟨(some 1), none, .mov (.t 8)⟩])
 (.seq (.seq (.reg [⟨(some 9), none, .mov (.t 1)⟩,
   ⟨(some 10), none, .bin .lss (.t 9) (.c (.p (.int .i64 0)))⟩])
 (.cond (.t 10)
  (.seq (.reg [⟨(some 4), none, .mov (.c (.p (.int .i64 (-1))))⟩])
  (.ret))
  (.skip)))
 (.seq (.reg [⟨(some 11), none, .mov (.t 1)⟩,
   ⟨(some 4), none, .mov (.t 11)⟩])
 (.ret))))⟩
theorem k_laws_szIntS : compF Tryd.prog n_laws_szIntS = some F_laws_szIntS := by kernel_rfl

def F_laws_szStringS : FK := ⟨28, [.t 4],
 .seq (.reg [⟨(some 4), none, .mov (.c (.p (.int .i64 0)))⟩])
 (.seq (.reg [⟨(some 6), none, .mov (.t 1)⟩,
   ⟨(some 7), none, .mov (.t 0)⟩,
   ⟨(some 8), none, .len false (.t 7)⟩,
   ⟨(some 9), none, .bin .sub (.t 6) (.t 8)⟩,
   ⟨(some 1), none, .mov (.t 9)⟩])
 (.seq (.seq (.reg [⟨(some 10), none, .mov (.t 1)⟩,
   ⟨(some 11), none, .bin .lss (.t 10) (.c (.p (.int .i64 0)))⟩])
 (.cond (.t 11)
  (.seq (.reg [⟨(some 4), none, .mov (.c (.p (.int .i64 (-1))))⟩])
  (.ret))
  (.skip)))
 (.seq (.seq (.reg [⟨(some 5), none, .mov (.c (.p (.int .i64 0)))⟩])
 (.blk 0 (.loop (.seq (.seq (.reg [⟨(some 12), none, .mov (.t 5)⟩,
   ⟨(some 13), none, .mov (.t 0)⟩,
   ⟨(some 14), none, .len false (.t 13)⟩,
   ⟨(some 15), none, .bin .lss (.t 12) (.t 14)⟩])
 (.cond (.t 15)
  (.skip)
  (.exit 0)))
 (.seq (.blk 1 (.seq (.reg [⟨(some 18), none, .mov (.t 1)⟩,
   ⟨(some 19), none, .mov (.t 0)⟩,
   ⟨(some 20), none, .mov (.t 5)⟩,
   ⟨(some 21), none, .idxS 1 (.t 19) (.t 20)⟩,
   ⟨(some 22), none, .ld none (.t 21)⟩,
   ⟨(some 23), none, .len true (.t 22)⟩,
   ⟨(some 24), none, .bin .sub (.t 18) (.t 23)⟩,
   ⟨(some 1), none, .mov (.t 24)⟩])
 (.seq (.reg [⟨(some 25), none, .mov (.t 1)⟩,
   ⟨(some 26), none, .bin .lss (.t 25) (.c (.p (.int .i64 0)))⟩])
 (.cond (.t 26)
  (.seq (.reg [⟨(some 4), none, .mov (.c (.p (.int .i64 (-1))))⟩])
  (.ret))
  (.skip)))))
 (.reg [⟨(some 16), none, .mov (.t 5)⟩,
   ⟨(some 17), none, .bin .add (.t 16) (.c (.p (.int .i64 1)))⟩,
   ⟨(some 5), none, .mov (.t 17)⟩]))))))
 (.seq (.reg [⟨(some 27), none, .mov (.t 1)⟩,
   ⟨(some 4), none, .mov (.t 27)⟩])
 (.ret)))))⟩
theorem k_laws_szStringS : compF Tryd.prog n_laws_szStringS = some F_laws_szStringS := by kernel_rfl

def F_laws_szObject : FK := ⟨31, [.t 4],
 .seq (.reg [⟨(some 2), none, .box 6 (.t 0)⟩,
   ⟨(some 4), none, .mov (.c (.p (.int .i64 0)))⟩])
 (.seq (.reg [⟨(some 5), none, .mov (.t 1)⟩,
   ⟨(some 6), none, .fldA 0 (.t 2)⟩,
   ⟨(some 7), none, .ld none (.t 6)⟩,
   ⟨(some 8), none, .len true (.t 7)⟩,
   ⟨(some 9), none, .bin .sub (.t 5) (.t 8)⟩,
   ⟨(some 1), none, .mov (.t 9)⟩])
 (.seq (.seq (.reg [⟨(some 10), none, .mov (.t 1)⟩,
   ⟨(some 11), none, .bin .lss (.t 10) (.c (.p (.int .i64 0)))⟩])
 (.cond (.t 11)
  (.seq (.reg [⟨(some 4), none, .mov (.c (.p (.int .i64 (-1))))⟩])
  (.ret))
  (.skip)))
 (.seq (.reg [⟨(some 12), none, .fldA 3 (.t 2)⟩,
   ⟨(some 13), none, .ld none (.t 12)⟩,
   ⟨(some 14), none, .mov (.t 1)⟩,
   ⟨(some 15), none, .call n_laws_szByteS [(.t 13), (.t 14)]⟩,
   ⟨(some 1), none, .mov (.t 15)⟩])
 (.seq (.seq (.reg [⟨(some 16), none, .mov (.t 1)⟩,
   ⟨(some 17), none, .bin .lss (.t 16) (.c (.p (.int .i64 0)))⟩])
 (.cond (.t 17)
  (.seq (.reg [⟨(some 4), none, .mov (.c (.p (.int .i64 (-1))))⟩])
  (.ret))
  (.skip)))
 (.seq (.reg [⟨(some 18), none, .fldA 4 (.t 2)⟩,
   ⟨(some 19), none, .ld none (.t 18)⟩,
   ⟨(some 20), none, .mov (.t 1)⟩,
   ⟨(some 21), none, .call n_laws_szIntS [(.t 19), (.t 20)]⟩,
   ⟨(some 1), none, .mov (.t 21)⟩])
 (.seq (.seq (.reg [⟨(some 22), none, .mov (.t 1)⟩,
   ⟨(some 23), none, .bin .lss (.t 22) (.c (.p (.int .i64 0)))⟩])
 (.cond (.t 23)
  (.seq (.reg [⟨(some 4), none, .mov (.c (.p (.int .i64 (-1))))⟩])
  (.ret))
  (.skip)))
 (.seq (.reg [⟨(some 24), none, .fldA 5 (.t 2)⟩,
   ⟨(some 25), none, .ld none (.t 24)⟩,
   ⟨(some 26), none, .mov (.t 1)⟩,
   ⟨(some 27), none, .call n_laws_szStringS [(.t 25), (.t 26)]⟩,
   ⟨(some 1), none, .mov (.t 27)⟩])
 (.seq (.seq (.reg [⟨(some 28), none, .mov (.t 1)⟩,
   ⟨(some 29), none, .bin .lss (.t 28) (.c (.p (.int .i64 0)))⟩])
 (.cond (.t 29)
  (.seq (.reg [⟨(some 4), none, .mov (.c (.p (.int .i64 (-1))))⟩])
  (.ret))
  (.skip)))
 (.seq (.reg [⟨(some 30), none, .mov (.t 1)⟩,
   ⟨(some 4), none, .mov (.t 30)⟩])
 (.ret))))))))))⟩
theorem k_laws_szObject : compF Tryd.prog n_laws_szObject = some F_laws_szObject := by kernel_rfl

def F_laws_toIntS : FK := ⟨22, [.t 2],
 .seq (.reg [⟨(some 2), none, .mov (.c .nils)⟩])
 (.seq (.reg [⟨(some 5), none, .mov (.t 0)⟩,
   ⟨(some 6), none, .len false (.t 5)⟩,
   ⟨(some 7), none, .mks 1 8 [(.p (.int .i64 0))] (.t 6) (.t 6)⟩,
   ⟨(some 3), none, .mov (.t 7)⟩])
 (.seq (.seq (.reg [⟨(some 4), none, .mov (.c (.p (.int .i64 0)))⟩])
 (.blk 0 (.loop (.seq (.seq (.reg [⟨(some 8), none, .mov (.t 4)⟩,
   ⟨(some 9), none, .mov (.t 0)⟩,
   ⟨(some 10), none, .len false (.t 9)⟩,
   ⟨(some 11), none, .bin .lss (.t 8) (.t 10)⟩])
 (.cond (.t 11)
  (.skip)
  (.exit 0)))
 (.seq (.blk 1 (.reg [⟨(some 14), none, .mov (.t 3)⟩,
   ⟨(some 15), none, .mov (.t 4)⟩,
   ⟨(some 16), none, .mov (.t 0)⟩,
   ⟨(some 17), none, .mov (.t 4)⟩,
   ⟨(some 18), none, .idxS 1 (.t 16) (.t 17)⟩,
   ⟨(some 19), none, .ld none (.t 18)⟩,
   ⟨(some 20), none, .idxS 1 (.t 14) (.t 15)⟩,
   ⟨none, none, .st 1 (.t 20) (.t 19)⟩]))
 (.reg [⟨(some 12), none, .mov (.t 4)⟩,
   ⟨(some 13), none, .bin .add (.t 12) (.c (.p (.int .i64 1)))⟩,
   ⟨(some 4), none, .mov (.t 13)⟩]))))))
 (.seq (.reg [⟨(some 21), none, .mov (.t 3)⟩,
   ⟨(some 2), none, .mov (.t 21)⟩])
 (.ret))))⟩
theorem k_laws_toIntS : compF Tryd.prog n_laws_toIntS = some F_laws_toIntS := by kernel_rfl

def F_laws_toStringS : FK := ⟨22, [.t 2],
 .seq (.reg [⟨(some 2), none, .mov (.c .nils)⟩])
 (.seq (.reg [⟨(some 5), none, .mov (.t 0)⟩,
   ⟨(some 6), none, .len false (.t 5)⟩,
   ⟨(some 7), none, .mks 1 16 [(.p (.str []))] (.t 6) (.t 6)⟩,
   ⟨(some 3), none, .mov (.t 7)⟩])
 (.seq (.seq (.reg [⟨(some 4), none, .mov (.c (.p (.int .i64 0)))⟩])
 (.blk 0 (.loop (.seq (.seq (.reg [⟨(some 8), none, .mov (.t 4)⟩,
   ⟨(some 9), none, .mov (.t 0)⟩,
   ⟨(some 10), none, .len false (.t 9)⟩,
   ⟨(some 11), none, .bin .lss (.t 8) (.t 10)⟩])
 (.cond (.t 11)
  (.skip)
  (.exit 0)))
 (.seq (.blk 1 (.reg [⟨(some 14), none, .mov (.t 3)⟩,
   ⟨(some 15), none, .mov (.t 4)⟩,
   ⟨(some 16), none, .mov (.t 0)⟩,
   ⟨(some 17), none, .mov (.t 4)⟩,
   ⟨(some 18), none, .idxS 1 (.t 16) (.t 17)⟩,
   ⟨(some 19), none, .ld none (.t 18)⟩,
   ⟨(some 20), none, .idxS 1 (.t 14) (.t 15)⟩,
   ⟨none, none, .st 1 (.t 20) (.t 19)⟩]))
 (.reg [⟨(some 12), none, .mov (.t 4)⟩,
   ⟨(some 13), none, .bin .add (.t 12) (.c (.p (.int .i64 1)))⟩,
   ⟨(some 4), none, .mov (.t 13)⟩]))))))
 (.seq (.reg [⟨(some 21), none, .mov (.t 3)⟩,
   ⟨(some 2), none, .mov (.t 21)⟩])
 (.ret))))⟩
theorem k_laws_toStringS : compF Tryd.prog n_laws_toStringS = some F_laws_toStringS := by kernel_rfl

def F_laws_toObject : FK := ⟨26, [.c 2 (some 6)],
 .seq (.reg [⟨(some 1), none, .box 6 (.t 0)⟩,
   ⟨(some 2), none, .alloc [(.p (.str [])), (.p (.int .i64 0)), (.p (.int .i64 0)), .nils, .nils, .nils]⟩])
 (.seq (.reg [⟨(some 3), none, .alloc [(.p (.str [])), (.p (.int .i64 0)), (.p (.int .i64 0)), .nils, .nils, .nils]⟩])
 (.seq (.reg [⟨(some 4), none, .fldA 0 (.t 1)⟩,
   ⟨(some 5), none, .ld none (.t 4)⟩,
   ⟨(some 6), none, .fldA 0 (.t 3)⟩,
   ⟨none, none, .st 1 (.t 6) (.t 5)⟩])
 (.seq (.reg [⟨(some 7), none, .fldA 1 (.t 1)⟩,
   ⟨(some 8), none, .ld none (.t 7)⟩,
   ⟨(some 9), none, .fldA 1 (.t 3)⟩,
   ⟨none, none, .st 1 (.t 9) (.t 8)⟩])
 (.seq (.reg [⟨(some 10), none, .fldA 2 (.t 1)⟩,
   ⟨(some 11), none, .ld none (.t 10)⟩,
   ⟨(some 12), none, .fldA 2 (.t 3)⟩,
   ⟨none, none, .st 1 (.t 12) (.t 11)⟩])
 (.seq (.reg [⟨(some 13), none, .fldA 3 (.t 1)⟩,
   ⟨(some 14), none, .ld none (.t 13)⟩,
   ⟨(some 15), none, .call n_laws_toByteS [(.t 14)]⟩,
   ⟨(some 16), none, .fldA 3 (.t 3)⟩,
   ⟨none, none, .st 1 (.t 16) (.t 15)⟩])
 (.seq (.reg [⟨(some 17), none, .fldA 4 (.t 1)⟩,
   ⟨(some 18), none, .ld none (.t 17)⟩,
   ⟨(some 19), none, .call n_laws_toIntS [(.t 18)]⟩,
   ⟨(some 20), none, .fldA 4 (.t 3)⟩,
   ⟨none, none, .st 1 (.t 20) (.t 19)⟩])
 (.seq (.reg [⟨(some 21), none, .fldA 5 (.t 1)⟩,
   ⟨(some 22), none, .ld none (.t 21)⟩,
   ⟨(some 23), none, .call n_laws_toStringS [(.t 22)]⟩,
   ⟨(some 24), none, .fldA 5 (.t 3)⟩,
   ⟨none, none, .st 1 (.t 24) (.t 23)⟩])
 (.seq (.reg [⟨(some 25), none, .ld (some 6) (.t 3)⟩,
   ⟨none, none, .st 6 (.t 2) (.t 25)⟩])
 (.ret)))))))))⟩
theorem k_laws_toObject : compF Tryd.prog n_laws_toObject = some F_laws_toObject := by kernel_rfl

def F_spec_l30Find : FK := ⟨18, [.t 4],
 .seq (.reg [⟨(some 4), none, .mov (.c (.p (.int .i64 0)))⟩])
 (.seq (.seq (.reg [⟨(some 5), none, .mov (.c (.p (.int .i64 0)))⟩])
 (.blk 0 (.loop (.seq (.seq (.reg [⟨(some 6), none, .mov (.t 5)⟩,
   ⟨(some 7), none, .mov (.t 0)⟩,
   ⟨(some 8), none, .len true (.t 7)⟩,
   ⟨(some 9), none, .bin .lss (.t 6) (.t 8)⟩])
 (.cond (.t 9)
  (.skip)
  (.exit 0)))
 (.seq (.blk 1 (.seq (.reg [⟨(some 12), none, .mov (.t 0)⟩,
   ⟨(some 13), none, .mov (.t 5)⟩,
   ⟨(some 14), none, .idxStr (.t 12) (.t 13)⟩,
   ⟨(some 15), none, .mov (.t 1)⟩,
   ⟨(some 16), none, .bin .eql (.t 14) (.t 15)⟩])
 (.cond (.t 16)
  (.seq (.reg [⟨(some 17), none, .mov (.t 5)⟩,
    ⟨(some 4), none, .mov (.t 17)⟩])
  (.ret))
  (.skip))))
 (.reg [⟨(some 10), none, .mov (.t 5)⟩,
   ⟨(some 11), none, .bin .add (.t 10) (.c (.p (.int .i64 1)))⟩,
   ⟨(some 5), none, .mov (.t 11)⟩]))))))
 (.seq (.reg [⟨(some 4), none, .mov (.c (.p (.int .i64 (-1))))⟩])
 (.ret)))⟩
theorem k_spec_l30Find : compF Tryd.prog n_spec_l30Find = some F_spec_l30Find := by kernel_rfl

def F_spec_l1Class : FK := ⟨28, [.t 2],
 .seq (.reg [⟨(some 2), none, .mov (.c (.p (.int .i64 0)))⟩])
 (.seq (.blk 0 (.seq (.reg [⟨(some 4), none, .mov (.t 0)⟩,
   ⟨(some 5), none, .bin .geq (.t 4) (.c (.p (.int .u8 97)))⟩,
   ⟨(some 6), none, .mov (.t 5)⟩,
   ⟨(some 7), (some (6, true)), .mov (.t 0)⟩,
   ⟨(some 8), (some (6, true)), .bin .leq (.t 7) (.c (.p (.int .u8 122)))⟩,
   ⟨(some 9), none, .pick (.t 6) (.t 8) (.c (.p (.bool false)))⟩,
   ⟨(some 3), none, .mov (.t 9)⟩])
 (.cond (.t 3)
  (.seq (.reg [⟨(some 2), none, .mov (.c (.p (.int .i64 1)))⟩])
  (.ret))
  (.seq (.reg [⟨(some 11), none, .mov (.t 0)⟩,
    ⟨(some 12), none, .bin .geq (.t 11) (.c (.p (.int .u8 48)))⟩,
    ⟨(some 13), none, .mov (.t 12)⟩,
    ⟨(some 14), (some (13, true)), .mov (.t 0)⟩,
    ⟨(some 15), (some (13, true)), .bin .leq (.t 14) (.c (.p (.int .u8 57)))⟩,
    ⟨(some 16), none, .pick (.t 13) (.t 15) (.c (.p (.bool false)))⟩,
    ⟨(some 10), none, .mov (.t 16)⟩])
  (.cond (.t 10)
   (.seq (.reg [⟨(some 2), none, .mov (.c (.p (.int .i64 2)))⟩])
   (.ret))
   (.seq (.reg [⟨(some 18), none, .mov (.t 0)⟩,
     ⟨(some 19), none, .call n_spec_l30Find [(.c (.p (.str [40, 41, 123, 125, 59, 44, 43, 45, 42, 47, 37, 60, 61, 38, 33, 64]))), (.t 18)]⟩,
     ⟨(some 20), none, .bin .geq (.t 19) (.c (.p (.int .i64 0)))⟩,
     ⟨(some 17), none, .mov (.t 20)⟩])
   (.cond (.t 17)
    (.seq (.reg [⟨(some 2), none, .mov (.c (.p (.int .i64 3)))⟩])
    (.ret))
    (.seq (.reg [⟨(some 22), none, .mov (.t 0)⟩,
      ⟨(some 23), none, .bin .eql (.t 22) (.c (.p (.int .u8 32)))⟩,
      ⟨(some 24), none, .mov (.t 23)⟩,
      ⟨(some 25), (some (24, false)), .mov (.t 0)⟩,
      ⟨(some 26), (some (24, false)), .bin .eql (.t 25) (.c (.p (.int .u8 10)))⟩,
      ⟨(some 27), none, .pick (.t 24) (.c (.p (.bool true))) (.t 26)⟩,
      ⟨(some 21), none, .mov (.t 27)⟩])
    (.cond (.t 21)
     (.seq (.reg [⟨(some 2), none, .mov (.c (.p (.int .i64 4)))⟩])
     (.ret))
     (.skip))))))))))
 (.seq (.reg [⟨(some 2), none, .mov (.c (.p (.int .i64 0)))⟩])
 (.ret)))⟩
theorem k_spec_l1Class : compF Tryd.prog n_spec_l1Class = some F_spec_l1Class := by kernel_rfl

def F_spec_l1All : FK := ⟨21, [.t 4],
 .seq (.reg [⟨(some 4), none, .mov (.c (.p (.bool false)))⟩])
 (.seq (.seq (.reg [⟨(some 5), none, .mov (.c (.p (.int .i64 0)))⟩])
 (.blk 0 (.loop (.seq (.seq (.reg [⟨(some 6), none, .mov (.t 5)⟩,
   ⟨(some 7), none, .mov (.t 0)⟩,
   ⟨(some 8), none, .len true (.t 7)⟩,
   ⟨(some 9), none, .bin .lss (.t 6) (.t 8)⟩])
 (.cond (.t 9)
  (.skip)
  (.exit 0)))
 (.seq (.blk 1 (.seq (.reg [⟨(some 12), none, .mov (.t 0)⟩,
   ⟨(some 13), none, .mov (.t 5)⟩,
   ⟨(some 14), none, .idxStr (.t 12) (.t 13)⟩,
   ⟨(some 15), none, .call n_spec_l1Class [(.t 14)]⟩,
   ⟨(some 16), none, .mov (.t 1)⟩,
   ⟨(some 17), none, .bin .neq (.t 15) (.t 16)⟩])
 (.cond (.t 17)
  (.seq (.reg [⟨(some 4), none, .mov (.c (.p (.bool false)))⟩])
  (.ret))
  (.skip))))
 (.reg [⟨(some 10), none, .mov (.t 5)⟩,
   ⟨(some 11), none, .bin .add (.t 10) (.c (.p (.int .i64 1)))⟩,
   ⟨(some 5), none, .mov (.t 11)⟩]))))))
 (.seq (.reg [⟨(some 18), none, .mov (.t 0)⟩,
   ⟨(some 19), none, .len true (.t 18)⟩,
   ⟨(some 20), none, .bin .gtr (.t 19) (.c (.p (.int .i64 0)))⟩,
   ⟨(some 4), none, .mov (.t 20)⟩])
 (.ret)))⟩
theorem k_spec_l1All : compF Tryd.prog n_spec_l1All = some F_spec_l1All := by kernel_rfl

def F_spec_KeyWords : FK := ⟨2, [.t 0],
 .seq (.reg [⟨(some 0), none, .mov (.c .nils)⟩])
 (.seq (.reg [⟨(some 1), none, .bsl 1 [(.p (.str []))] 9 [(0, 1, (.c (.p (.str [102, 110])))), (1, 1, (.c (.p (.str [108, 101, 116])))), (2, 1, (.c (.p (.str [115, 97, 121])))), (3, 1, (.c (.p (.str [112, 117, 116])))), (4, 1, (.c (.p (.str [105, 102])))), (5, 1, (.c (.p (.str [101, 108, 115, 101])))), (6, 1, (.c (.p (.str [108, 111, 111, 112])))), (7, 1, (.c (.p (.str [98, 97, 99, 107])))), (8, 1, (.c (.p (.str [100, 111]))))]⟩,
   ⟨(some 0), none, .mov (.t 1)⟩])
 (.ret))⟩
theorem k_spec_KeyWords : compF Tryd.prog n_spec_KeyWords = some F_spec_KeyWords := by kernel_rfl

def F_spec_l1Key : FK := ⟨18, [.t 2],
 .seq (.reg [⟨(some 2), none, .mov (.c (.p (.bool false)))⟩])
 (.seq (.reg [⟨(some 5), none, .call n_spec_KeyWords []⟩,
   ⟨(some 3), none, .mov (.t 5)⟩])
 (.seq (.seq (.reg [⟨(some 4), none, .mov (.c (.p (.int .i64 0)))⟩])
 (.blk 0 (.loop (.seq (.seq (.reg [⟨(some 6), none, .mov (.t 4)⟩,
   ⟨(some 7), none, .mov (.t 3)⟩,
   ⟨(some 8), none, .len false (.t 7)⟩,
   ⟨(some 9), none, .bin .lss (.t 6) (.t 8)⟩])
 (.cond (.t 9)
  (.skip)
  (.exit 0)))
 (.seq (.blk 1 (.seq (.reg [⟨(some 12), none, .mov (.t 3)⟩,
   ⟨(some 13), none, .mov (.t 4)⟩,
   ⟨(some 14), none, .idxS 1 (.t 12) (.t 13)⟩,
   ⟨(some 15), none, .ld none (.t 14)⟩,
   ⟨(some 16), none, .mov (.t 0)⟩,
   ⟨(some 17), none, .bins .eql (.t 15) (.t 16)⟩])
 (.cond (.t 17)
  (.seq (.reg [⟨(some 2), none, .mov (.c (.p (.bool true)))⟩])
  (.ret))
  (.skip))))
 (.reg [⟨(some 10), none, .mov (.t 4)⟩,
   ⟨(some 11), none, .bin .add (.t 10) (.c (.p (.int .i64 1)))⟩,
   ⟨(some 4), none, .mov (.t 11)⟩]))))))
 (.seq (.reg [⟨(some 2), none, .mov (.c (.p (.bool false)))⟩])
 (.ret))))⟩
theorem k_spec_l1Key : compF Tryd.prog n_spec_l1Key = some F_spec_l1Key := by kernel_rfl

def F_spec_IsName : FK := ⟨15, [.t 2],
 .seq (.reg [⟨(some 2), none, .mov (.c (.p (.bool false)))⟩])
 (.seq (.reg [⟨(some 3), none, .mov (.t 0)⟩,
   ⟨(some 4), none, .call n_spec_l1All [(.t 3), (.c (.p (.int .i64 1)))]⟩,
   ⟨(some 5), none, .mov (.t 4)⟩,
   ⟨(some 6), (some (5, true)), .mov (.t 0)⟩,
   ⟨(some 7), (some (5, true)), .len true (.t 6)⟩,
   ⟨(some 8), (some (5, true)), .bin .leq (.t 7) (.c (.p (.int .i64 4)))⟩,
   ⟨(some 9), none, .pick (.t 5) (.t 8) (.c (.p (.bool false)))⟩,
   ⟨(some 10), none, .mov (.t 9)⟩,
   ⟨(some 11), (some (10, true)), .mov (.t 0)⟩,
   ⟨(some 12), (some (10, true)), .call n_spec_l1Key [(.t 11)]⟩,
   ⟨(some 13), (some (10, true)), .not (.t 12)⟩,
   ⟨(some 14), none, .pick (.t 10) (.t 13) (.c (.p (.bool false)))⟩,
   ⟨(some 2), none, .mov (.t 14)⟩])
 (.ret))⟩
theorem k_spec_IsName : compF Tryd.prog n_spec_IsName = some F_spec_IsName := by kernel_rfl

def F_spec_MinsPlaces : FK := ⟨17, [.t 2],
 .seq (.reg [⟨(some 1), none, .box 3 (.t 0)⟩,
   ⟨(some 2), none, .mov (.c .nils)⟩])
 (.seq (.seq (.reg [⟨(some 5), none, .ld (some 3) (.t 1)⟩,
   ⟨(some 6), none, .call n_spec_l25Can [(.t 5)]⟩,
   ⟨(some 7), none, .not (.t 6)⟩])
 (.cond (.t 7)
  (.seq (.reg [⟨(some 8), none, .bsl 1 [(.p (.int .i64 0))] 0 []⟩,
    ⟨(some 2), none, .mov (.t 8)⟩])
  (.ret))
  (.skip)))
 (.seq (.reg [⟨(some 10), none, .ld (some 3) (.t 1)⟩,
   ⟨(some 11), none, .ld (some 3) (.t 1)⟩,
   ⟨(some 12), none, .call n_spec_l25Long [(.t 11)]⟩,
   ⟨none, none, .chk (some 3) 1 10⟩,
   ⟨(some 13), none, .call n_spec_l25Places [(.t 10), (.t 12)]⟩,
   ⟨(some 9), none, .mov (.t 13)⟩,
   ⟨(some 14), none, .ext 0 (.t 9)⟩,
   ⟨(some 15), none, .ext 1 (.t 9)⟩,
   ⟨(some 3), none, .mov (.t 14)⟩,
   ⟨(some 4), none, .mov (.t 15)⟩])
 (.seq (.reg [⟨(some 16), none, .mov (.t 3)⟩,
   ⟨(some 2), none, .mov (.t 16)⟩])
 (.ret))))⟩
theorem k_spec_MinsPlaces : compF Tryd.prog n_spec_MinsPlaces = some F_spec_MinsPlaces := by kernel_rfl

def F_spec_l26Calls : FK := ⟨31, [.t 2],
 .seq (.reg [⟨(some 1), none, .box 3 (.t 0)⟩,
   ⟨(some 2), none, .mov (.c .nils)⟩])
 (.seq (.reg [⟨(some 6), none, .bsl 1 [(.p (.int .i64 0))] 0 []⟩,
   ⟨(some 3), none, .mov (.t 6)⟩])
 (.seq (.reg [⟨(some 7), none, .ld (some 3) (.t 1)⟩,
   ⟨(some 8), none, .call n_spec_MinsPlaces [(.t 7)]⟩,
   ⟨(some 4), none, .mov (.t 8)⟩])
 (.seq (.seq (.reg [⟨(some 5), none, .mov (.c (.p (.int .i64 0)))⟩])
 (.blk 0 (.loop (.seq (.seq (.reg [⟨(some 9), none, .mov (.t 5)⟩,
   ⟨(some 10), none, .mov (.t 4)⟩,
   ⟨(some 11), none, .len false (.t 10)⟩,
   ⟨(some 12), none, .bin .lss (.t 9) (.t 11)⟩])
 (.cond (.t 12)
  (.skip)
  (.exit 0)))
 (.seq (.blk 1 (.seq (.reg [⟨(some 15), none, .fldA 2 (.t 1)⟩,
   ⟨(some 16), none, .ld none (.t 15)⟩,
   ⟨(some 17), none, .mov (.t 5)⟩,
   ⟨(some 18), none, .idxS 5 (.t 16) (.t 17)⟩,
   ⟨(some 19), none, .fldA 0 (.t 18)⟩,
   ⟨(some 20), none, .ld none (.t 19)⟩,
   ⟨(some 21), none, .bin .eql (.t 20) (.c (.p (.int .i64 14)))⟩])
 (.cond (.t 21)
  (.reg [⟨(some 22), none, .mov (.t 3)⟩,
    ⟨(some 23), none, .mov (.t 4)⟩,
    ⟨(some 24), none, .mov (.t 5)⟩,
    ⟨(some 25), none, .idxS 1 (.t 23) (.t 24)⟩,
    ⟨(some 26), none, .ld none (.t 25)⟩,
    ⟨(some 27), none, .bin .add (.t 26) (.c (.p (.int .i64 1)))⟩,
    ⟨(some 28), none, .bsl 1 [(.p (.int .i64 0))] 1 [(0, 1, (.t 27))]⟩,
    ⟨(some 29), none, .app 1 8 (.t 22) (.t 28)⟩,
    ⟨(some 3), none, .mov (.t 29)⟩])
  (.skip))))
 (.reg [⟨(some 13), none, .mov (.t 5)⟩,
   ⟨(some 14), none, .bin .add (.t 13) (.c (.p (.int .i64 1)))⟩,
   ⟨(some 5), none, .mov (.t 14)⟩]))))))
 (.seq (.reg [⟨(some 30), none, .mov (.t 3)⟩,
   ⟨(some 2), none, .mov (.t 30)⟩])
 (.ret)))))⟩
theorem k_spec_l26Calls : compF Tryd.prog n_spec_l26Calls = some F_spec_l26Calls := by kernel_rfl

def F_spec_l5Ints : FK := ⟨26, [.t 4],
 .seq (.reg [⟨(some 4), none, .mov (.c (.p (.bool false)))⟩])
 (.seq (.seq (.reg [⟨(some 6), none, .mov (.t 0)⟩,
   ⟨(some 7), none, .len false (.t 6)⟩,
   ⟨(some 8), none, .mov (.t 1)⟩,
   ⟨(some 9), none, .len false (.t 8)⟩,
   ⟨(some 10), none, .bin .neq (.t 7) (.t 9)⟩])
 (.cond (.t 10)
  (.seq (.reg [⟨(some 4), none, .mov (.c (.p (.bool false)))⟩])
  (.ret))
  (.skip)))
 (.seq (.seq (.reg [⟨(some 5), none, .mov (.c (.p (.int .i64 0)))⟩])
 (.blk 0 (.loop (.seq (.seq (.reg [⟨(some 11), none, .mov (.t 5)⟩,
   ⟨(some 12), none, .mov (.t 0)⟩,
   ⟨(some 13), none, .len false (.t 12)⟩,
   ⟨(some 14), none, .bin .lss (.t 11) (.t 13)⟩])
 (.cond (.t 14)
  (.skip)
  (.exit 0)))
 (.seq (.blk 1 (.seq (.reg [⟨(some 17), none, .mov (.t 0)⟩,
   ⟨(some 18), none, .mov (.t 5)⟩,
   ⟨(some 19), none, .idxS 1 (.t 17) (.t 18)⟩,
   ⟨(some 21), none, .mov (.t 1)⟩,
   ⟨(some 22), none, .mov (.t 5)⟩,
   ⟨(some 23), none, .idxS 1 (.t 21) (.t 22)⟩,
   ⟨(some 20), none, .ld none (.t 19)⟩,
   ⟨(some 24), none, .ld none (.t 23)⟩,
   ⟨(some 25), none, .bin .neq (.t 20) (.t 24)⟩])
 (.cond (.t 25)
  (.seq (.reg [⟨(some 4), none, .mov (.c (.p (.bool false)))⟩])
  (.ret))
  (.skip))))
 (.reg [⟨(some 15), none, .mov (.t 5)⟩,
   ⟨(some 16), none, .bin .add (.t 15) (.c (.p (.int .i64 1)))⟩,
   ⟨(some 5), none, .mov (.t 16)⟩]))))))
 (.seq (.reg [⟨(some 4), none, .mov (.c (.p (.bool true)))⟩])
 (.ret))))⟩
theorem k_spec_l5Ints : compF Tryd.prog n_spec_l5Ints = some F_spec_l5Ints := by kernel_rfl

def F_spec_ObjectValid : FK := ⟨67, [.t 2],
 .seq (.reg [⟨(some 1), none, .box 6 (.t 0)⟩,
   ⟨(some 2), none, .mov (.c (.p (.bool false)))⟩])
 (.seq (.reg [⟨(some 7), none, .fldA 1 (.t 1)⟩,
   ⟨(some 8), none, .ld none (.t 7)⟩,
   ⟨(some 9), none, .fldA 2 (.t 1)⟩,
   ⟨(some 10), none, .ld none (.t 9)⟩,
   ⟨(some 11), none, .fldA 3 (.t 1)⟩,
   ⟨(some 12), none, .ld none (.t 11)⟩,
   ⟨(some 13), none, .call n_spec_DecodeFn [(.t 8), (.t 10), (.t 12)]⟩,
   ⟨(some 6), none, .mov (.t 13)⟩,
   ⟨(some 14), none, .ext 0 (.t 6)⟩,
   ⟨(some 15), none, .ext 1 (.t 6)⟩,
   ⟨(some 3), none, .alloc [(.p (.int .i64 0)), (.p (.int .i64 0)), .nils]⟩,
   ⟨none, none, .st 3 (.t 3) (.t 14)⟩,
   ⟨(some 4), none, .mov (.t 15)⟩])
 (.seq (.seq (.reg [⟨(some 16), none, .mov (.t 4)⟩,
   ⟨(some 17), none, .not (.t 16)⟩,
   ⟨(some 18), none, .mov (.t 17)⟩,
   ⟨(some 19), (some (18, false)), .fldA 0 (.t 1)⟩,
   ⟨(some 20), (some (18, false)), .ld none (.t 19)⟩,
   ⟨(some 21), (some (18, false)), .call n_spec_IsName [(.t 20)]⟩,
   ⟨(some 22), (some (18, false)), .not (.t 21)⟩,
   ⟨(some 23), none, .pick (.t 18) (.c (.p (.bool true))) (.t 22)⟩,
   ⟨(some 24), none, .mov (.t 23)⟩,
   ⟨(some 27), (some (24, false)), .fldA 4 (.t 1)⟩,
   ⟨(some 25), (some (24, false)), .ld (some 3) (.t 3)⟩,
   ⟨(some 26), (some (24, false)), .qcall n_spec_l26Calls [(.t 25)]⟩,
   ⟨(some 28), (some (24, false)), .ld none (.t 27)⟩,
   ⟨(some 29), (some (24, false)), .call n_spec_l5Ints [(.t 26), (.t 28)]⟩,
   ⟨(some 30), (some (24, false)), .not (.t 29)⟩,
   ⟨(some 31), none, .pick (.t 24) (.c (.p (.bool true))) (.t 30)⟩,
   ⟨(some 32), none, .mov (.t 31)⟩,
   ⟨(some 33), (some (32, false)), .fldA 5 (.t 1)⟩,
   ⟨(some 36), (some (32, false)), .fldA 4 (.t 1)⟩,
   ⟨(some 34), (some (32, false)), .ld none (.t 33)⟩,
   ⟨(some 35), (some (32, false)), .len false (.t 34)⟩,
   ⟨(some 37), (some (32, false)), .ld none (.t 36)⟩,
   ⟨(some 38), (some (32, false)), .len false (.t 37)⟩,
   ⟨(some 39), (some (32, false)), .bin .neq (.t 35) (.t 38)⟩,
   ⟨(some 40), none, .pick (.t 32) (.c (.p (.bool true))) (.t 39)⟩])
 (.cond (.t 40)
  (.seq (.reg [⟨(some 2), none, .mov (.c (.p (.bool false)))⟩])
  (.ret))
  (.skip)))
 (.seq (.seq (.reg [⟨(some 5), none, .mov (.c (.p (.int .i64 0)))⟩])
 (.blk 0 (.loop (.seq (.seq (.reg [⟨(some 41), none, .mov (.t 5)⟩,
   ⟨(some 42), none, .fldA 4 (.t 1)⟩,
   ⟨(some 43), none, .ld none (.t 42)⟩,
   ⟨(some 44), none, .len false (.t 43)⟩,
   ⟨(some 45), none, .bin .lss (.t 41) (.t 44)⟩])
 (.cond (.t 45)
  (.skip)
  (.exit 0)))
 (.seq (.blk 1 (.seq (.reg [⟨(some 48), none, .fldA 5 (.t 1)⟩,
   ⟨(some 50), none, .mov (.t 5)⟩,
   ⟨(some 49), none, .ld none (.t 48)⟩,
   ⟨(some 51), none, .idxS 1 (.t 49) (.t 50)⟩,
   ⟨(some 52), none, .ld none (.t 51)⟩,
   ⟨(some 53), none, .call n_spec_IsName [(.t 52)]⟩,
   ⟨(some 54), none, .not (.t 53)⟩,
   ⟨(some 55), none, .mov (.t 54)⟩,
   ⟨(some 56), (some (55, false)), .fldA 3 (.t 1)⟩,
   ⟨(some 58), (some (55, false)), .fldA 4 (.t 1)⟩,
   ⟨(some 60), (some (55, false)), .mov (.t 5)⟩,
   ⟨(some 57), (some (55, false)), .ld none (.t 56)⟩,
   ⟨(some 59), (some (55, false)), .ld none (.t 58)⟩,
   ⟨(some 61), (some (55, false)), .idxS 1 (.t 59) (.t 60)⟩,
   ⟨(some 62), (some (55, false)), .ld none (.t 61)⟩,
   ⟨(some 63), (some (55, false)), .idxS 1 (.t 57) (.t 62)⟩,
   ⟨(some 64), (some (55, false)), .ld none (.t 63)⟩,
   ⟨(some 65), (some (55, false)), .bin .neq (.t 64) (.c (.p (.int .u8 0)))⟩,
   ⟨(some 66), none, .pick (.t 55) (.c (.p (.bool true))) (.t 65)⟩])
 (.cond (.t 66)
  (.seq (.reg [⟨(some 2), none, .mov (.c (.p (.bool false)))⟩])
  (.ret))
  (.skip))))
 (.reg [⟨(some 46), none, .mov (.t 5)⟩,
   ⟨(some 47), none, .bin .add (.t 46) (.c (.p (.int .i64 1)))⟩,
   ⟨(some 5), none, .mov (.t 47)⟩]))))))
 (.seq (.reg [⟨(some 2), none, .mov (.c (.p (.bool true)))⟩])
 (.ret)))))⟩
theorem k_spec_ObjectValid : compF Tryd.prog n_spec_ObjectValid = some F_spec_ObjectValid := by kernel_rfl

def F_strings_indexFunc : FK := ⟨21, [.t 6],
 .seq (.reg [⟨(some 6), none, .mov (.c (.p (.int .i64 0)))⟩])
 (.seq (.seq (.reg [⟨(some 9), none, .mov (.t 0)⟩,
   ⟨(some 10), none, .rngS (.t 9)⟩])
 (.blk 0 (.loop (.seq (.reg [⟨(some 11), none, .nxtS (.t 10)⟩,
   ⟨(some 12), none, .ext 0 (.t 11)⟩])
 (.seq (.cond (.t 12)
  (.skip)
  (.exit 0))
 (.blk 1 (.seq (.reg [⟨(some 13), none, .ext 1 (.t 11)⟩,
   ⟨(some 14), none, .ext 2 (.t 11)⟩,
   ⟨(some 7), none, .mov (.t 13)⟩,
   ⟨(some 8), none, .mov (.t 14)⟩])
 (.seq (.reg [⟨(some 15), none, .mov (.t 1)⟩,
   ⟨(some 16), none, .mov (.t 8)⟩,
   ⟨(some 17), none, .callv (.t 15) [(.t 16)]⟩,
   ⟨(some 18), none, .mov (.t 2)⟩,
   ⟨(some 19), none, .beq false (.t 17) (.t 18)⟩])
 (.cond (.t 19)
  (.seq (.reg [⟨(some 20), none, .mov (.t 7)⟩,
    ⟨(some 6), none, .mov (.t 20)⟩])
  (.ret))
  (.skip))))))))))
 (.seq (.reg [⟨(some 6), none, .mov (.c (.p (.int .i64 (-1))))⟩])
 (.ret)))⟩
theorem k_strings_indexFunc : compF Tryd.prog n_strings_indexFunc = some F_strings_indexFunc := by kernel_rfl

def F_strings_IndexFunc : FK := ⟨8, [.t 4],
 .seq (.reg [⟨(some 4), none, .mov (.c (.p (.int .i64 0)))⟩])
 (.seq (.reg [⟨(some 5), none, .mov (.t 0)⟩,
   ⟨(some 6), none, .mov (.t 1)⟩,
   ⟨(some 7), none, .call n_strings_indexFunc [(.t 5), (.t 6), (.c (.p (.bool true)))]⟩,
   ⟨(some 4), none, .mov (.t 7)⟩])
 (.ret))⟩
theorem k_strings_IndexFunc : compF Tryd.prog n_strings_IndexFunc = some F_strings_IndexFunc := by kernel_rfl

def F_slices_Index_string : FK := ⟨19, [.t 4],
 .seq (.reg [⟨(some 4), none, .mov (.c (.p (.int .i64 0)))⟩])
 (.seq (.seq (.reg [⟨(some 6), none, .mov (.t 0)⟩,
   ⟨(some 7), none, .len false (.t 6)⟩,
   ⟨(some 8), none, .mov (.c (.p (.int .i64 0)))⟩])
 (.blk 0 (.loop (.seq (.reg [⟨(some 9), none, .bin .lss (.t 8) (.t 7)⟩])
 (.seq (.cond (.t 9)
  (.skip)
  (.exit 0))
 (.seq (.blk 1 (.seq (.reg [⟨(some 10), none, .mov (.t 8)⟩,
   ⟨(some 5), none, .mov (.t 10)⟩])
 (.seq (.reg [⟨(some 11), none, .mov (.t 1)⟩,
   ⟨(some 12), none, .mov (.t 0)⟩,
   ⟨(some 13), none, .mov (.t 5)⟩,
   ⟨(some 14), none, .idxS 1 (.t 12) (.t 13)⟩,
   ⟨(some 15), none, .ld none (.t 14)⟩,
   ⟨(some 16), none, .bins .eql (.t 11) (.t 15)⟩])
 (.cond (.t 16)
  (.seq (.reg [⟨(some 17), none, .mov (.t 5)⟩,
    ⟨(some 4), none, .mov (.t 17)⟩])
  (.ret))
  (.skip)))))
 (.reg [⟨(some 18), none, .bin .add (.t 8) (.c (.p (.int .i64 1)))⟩,
   ⟨(some 8), none, .mov (.t 18)⟩])))))))
 (.seq (.reg [⟨(some 4), none, .mov (.c (.p (.int .i64 (-1))))⟩])
 (.ret)))⟩
theorem k_slices_Index_string : compF Tryd.prog n_slices_Index_string = some F_slices_Index_string := by kernel_rfl

def F_slices_Contains_string : FK := ⟨9, [.t 4],
 .seq (.reg [⟨(some 4), none, .mov (.c (.p (.bool false)))⟩])
 (.seq (.reg [⟨(some 5), none, .mov (.t 0)⟩,
   ⟨(some 6), none, .mov (.t 1)⟩,
   ⟨(some 7), none, .call n_slices_Index_string [(.t 5), (.t 6)]⟩,
   ⟨(some 8), none, .bin .geq (.t 7) (.c (.p (.int .i64 0)))⟩,
   ⟨(some 4), none, .mov (.t 8)⟩])
 (.ret))⟩
theorem k_slices_Contains_string : compF Tryd.prog n_slices_Contains_string = some F_slices_Contains_string := by kernel_rfl

def F_impl_IsName_1 : FK := ⟨9, [.t 2],
 .seq (.reg [⟨(some 2), none, .mov (.c (.p (.bool false)))⟩])
 (.seq (.reg [⟨(some 3), none, .mov (.t 0)⟩,
   ⟨(some 4), none, .bin .lss (.t 3) (.c (.p (.int .i32 97)))⟩,
   ⟨(some 5), none, .mov (.t 4)⟩,
   ⟨(some 6), (some (5, false)), .mov (.t 0)⟩,
   ⟨(some 7), (some (5, false)), .bin .gtr (.t 6) (.c (.p (.int .i32 122)))⟩,
   ⟨(some 8), none, .pick (.t 5) (.c (.p (.bool true))) (.t 7)⟩,
   ⟨(some 2), none, .mov (.t 8)⟩])
 (.ret))⟩
theorem k_impl_IsName_1 : compF Tryd.prog n_impl_IsName_1 = some F_impl_IsName_1 := by kernel_rfl

def F_impl_IsName : FK := ⟨17, [.t 2],
 .seq (.reg [⟨(some 2), none, .mov (.c (.p (.bool false)))⟩])
 (.seq (.reg [⟨(some 3), none, .mov (.t 0)⟩,
   ⟨(some 4), none, .len true (.t 3)⟩,
   ⟨(some 5), none, .call n_impl_within [(.t 4), (.c (.p (.int .i64 1))), (.c (.p (.int .i64 4)))]⟩,
   ⟨(some 6), none, .mov (.t 5)⟩,
   ⟨(some 7), (some (6, true)), .mov (.t 0)⟩,
   ⟨(some 8), (some (6, true)), .call n_strings_IndexFunc [(.t 7), (.c (.fn (.func n_impl_IsName_1) []))]⟩,
   ⟨(some 9), (some (6, true)), .bin .lss (.t 8) (.c (.p (.int .i64 0)))⟩,
   ⟨(some 10), none, .pick (.t 6) (.t 9) (.c (.p (.bool false)))⟩,
   ⟨(some 11), none, .mov (.t 10)⟩,
   ⟨(some 12), (some (11, true)), .slA 9 1 (.c (.gp 1 0)) none none⟩,
   ⟨(some 13), (some (11, true)), .mov (.t 0)⟩,
   ⟨(some 14), (some (11, true)), .call n_slices_Contains_string [(.t 12), (.t 13)]⟩,
   ⟨(some 15), (some (11, true)), .not (.t 14)⟩,
   ⟨(some 16), none, .pick (.t 11) (.t 15) (.c (.p (.bool false)))⟩,
   ⟨(some 2), none, .mov (.t 16)⟩])
 (.ret))⟩
theorem k_impl_IsName : compF Tryd.prog n_impl_IsName = some F_impl_IsName := by kernel_rfl

def F_slices_Clone_impl_Mins : FK := ⟨8, [.t 2],
 .seq (.reg [⟨(some 2), none, .mov (.c .nils)⟩])
 (.seq (.seq (.reg [⟨(some 3), none, .mov (.t 0)⟩,
   ⟨(some 4), none, .snil false (.t 3)⟩])
 (.cond (.t 4)
  (.seq (.reg [⟨(some 2), none, .mov (.c .nils)⟩])
  (.ret))
  (.skip)))
 (.seq (.reg [⟨(some 5), none, .bsl 5 [(.p (.int .i64 0)), (.p (.int .i64 0)), (.p (.int .i64 0)), (.p (.int .i64 0)), (.p (.int .i64 0))] 0 []⟩,
   ⟨(some 6), none, .mov (.t 0)⟩,
   ⟨(some 7), none, .app 5 40 (.t 5) (.t 6)⟩,
   ⟨(some 2), none, .mov (.t 7)⟩])
 (.ret)))⟩
theorem k_slices_Clone_impl_Mins : compF Tryd.prog n_slices_Clone_impl_Mins = some F_slices_Clone_impl_Mins := by kernel_rfl

def F_impl_cloneMfn : FK := ⟨8, [.c 2 (some 3)],
 .seq (.reg [⟨(some 1), none, .box 3 (.t 0)⟩,
   ⟨(some 2), none, .alloc [(.p (.int .i64 0)), (.p (.int .i64 0)), .nils]⟩])
 (.seq (.reg [⟨(some 3), none, .fldA 2 (.t 1)⟩,
   ⟨(some 4), none, .ld none (.t 3)⟩,
   ⟨(some 5), none, .call n_slices_Clone_impl_Mins [(.t 4)]⟩,
   ⟨(some 6), none, .fldA 2 (.t 1)⟩,
   ⟨none, none, .st 1 (.t 6) (.t 5)⟩])
 (.seq (.reg [⟨(some 7), none, .ld (some 3) (.t 1)⟩,
   ⟨none, none, .st 3 (.t 2) (.t 7)⟩])
 (.ret)))⟩
theorem k_impl_cloneMfn : compF Tryd.prog n_impl_cloneMfn = some F_impl_cloneMfn := by kernel_rfl

def F_impl_blank : FK := ⟨26, [.c 2 (some 3)],
 .seq (.reg [⟨(some 1), none, .box 3 (.t 0)⟩,
   ⟨(some 2), none, .alloc [(.p (.int .i64 0)), (.p (.int .i64 0)), .nils]⟩])
 (.seq (.reg [⟨(some 4), none, .ld (some 3) (.t 1)⟩,
   ⟨(some 5), none, .call n_impl_cloneMfn [(.t 4)]⟩,
   ⟨none, none, .st 3 (.t 1) (.t 5)⟩])
 (.seq (.seq (.reg [⟨(some 6), none, .fldA 2 (.t 1)⟩,
   ⟨(some 7), none, .ld none (.t 6)⟩,
   ⟨(some 8), none, .len false (.t 7)⟩,
   ⟨(some 9), none, .mov (.c (.p (.int .i64 0)))⟩])
 (.blk 0 (.loop (.seq (.reg [⟨(some 10), none, .bin .lss (.t 9) (.t 8)⟩])
 (.seq (.cond (.t 10)
  (.skip)
  (.exit 0))
 (.seq (.blk 1 (.seq (.reg [⟨(some 11), none, .mov (.t 9)⟩,
   ⟨(some 3), none, .mov (.t 11)⟩])
 (.seq (.reg [⟨(some 12), none, .fldA 2 (.t 1)⟩,
   ⟨(some 13), none, .ld none (.t 12)⟩,
   ⟨(some 14), none, .mov (.t 3)⟩,
   ⟨(some 15), none, .idxS 5 (.t 13) (.t 14)⟩,
   ⟨(some 16), none, .fldA 0 (.t 15)⟩,
   ⟨(some 17), none, .ld none (.t 16)⟩,
   ⟨(some 18), none, .bin .eql (.t 17) (.c (.p (.int .i64 14)))⟩])
 (.cond (.t 18)
  (.reg [⟨(some 19), none, .fldA 2 (.t 1)⟩,
    ⟨(some 20), none, .ld none (.t 19)⟩,
    ⟨(some 21), none, .mov (.t 3)⟩,
    ⟨(some 22), none, .idxS 5 (.t 20) (.t 21)⟩,
    ⟨(some 23), none, .fldA 4 (.t 22)⟩,
    ⟨none, none, .st 1 (.t 23) (.c (.p (.int .i64 0)))⟩])
  (.skip)))))
 (.reg [⟨(some 24), none, .bin .add (.t 9) (.c (.p (.int .i64 1)))⟩,
   ⟨(some 9), none, .mov (.t 24)⟩])))))))
 (.seq (.reg [⟨(some 25), none, .ld (some 3) (.t 1)⟩,
   ⟨none, none, .st 3 (.t 2) (.t 25)⟩])
 (.ret))))⟩
theorem k_impl_blank : compF Tryd.prog n_impl_blank = some F_impl_blank := by kernel_rfl

def F_slices_Equal_impl_Mins : FK := ⟨26, [.t 4],
 .seq (.reg [⟨(some 4), none, .mov (.c (.p (.bool false)))⟩])
 (.seq (.seq (.reg [⟨(some 6), none, .mov (.t 0)⟩,
   ⟨(some 7), none, .len false (.t 6)⟩,
   ⟨(some 8), none, .mov (.t 1)⟩,
   ⟨(some 9), none, .len false (.t 8)⟩,
   ⟨(some 10), none, .bin .neq (.t 7) (.t 9)⟩])
 (.cond (.t 10)
  (.seq (.reg [⟨(some 4), none, .mov (.c (.p (.bool false)))⟩])
  (.ret))
  (.skip)))
 (.seq (.seq (.reg [⟨(some 11), none, .mov (.t 0)⟩,
   ⟨(some 12), none, .len false (.t 11)⟩,
   ⟨(some 13), none, .mov (.c (.p (.int .i64 0)))⟩])
 (.blk 0 (.loop (.seq (.reg [⟨(some 14), none, .bin .lss (.t 13) (.t 12)⟩])
 (.seq (.cond (.t 14)
  (.skip)
  (.exit 0))
 (.seq (.blk 1 (.seq (.reg [⟨(some 15), none, .mov (.t 13)⟩,
   ⟨(some 5), none, .mov (.t 15)⟩])
 (.seq (.reg [⟨(some 16), none, .mov (.t 0)⟩,
   ⟨(some 17), none, .mov (.t 5)⟩,
   ⟨(some 18), none, .idxS 5 (.t 16) (.t 17)⟩,
   ⟨(some 20), none, .mov (.t 1)⟩,
   ⟨(some 21), none, .mov (.t 5)⟩,
   ⟨(some 22), none, .idxS 5 (.t 20) (.t 21)⟩,
   ⟨(some 19), none, .ld (some 5) (.t 18)⟩,
   ⟨(some 23), none, .ld (some 5) (.t 22)⟩,
   ⟨(some 24), none, .aeq [0, 0, 0, 0, 0] true (.t 19) (.t 23)⟩])
 (.cond (.t 24)
  (.seq (.reg [⟨(some 4), none, .mov (.c (.p (.bool false)))⟩])
  (.ret))
  (.skip)))))
 (.reg [⟨(some 25), none, .bin .add (.t 13) (.c (.p (.int .i64 1)))⟩,
   ⟨(some 13), none, .mov (.t 25)⟩])))))))
 (.seq (.reg [⟨(some 4), none, .mov (.c (.p (.bool true)))⟩])
 (.ret))))⟩
theorem k_slices_Equal_impl_Mins : compF Tryd.prog n_slices_Equal_impl_Mins = some F_slices_Equal_impl_Mins := by kernel_rfl

def F_impl_sameMfn : FK := ⟨24, [.t 4],
 .seq (.reg [⟨(some 2), none, .box 3 (.t 0)⟩,
   ⟨(some 3), none, .box 3 (.t 1)⟩,
   ⟨(some 4), none, .mov (.c (.p (.bool false)))⟩])
 (.seq (.reg [⟨(some 5), none, .fldA 0 (.t 2)⟩,
   ⟨(some 6), none, .ld none (.t 5)⟩,
   ⟨(some 7), none, .fldA 0 (.t 3)⟩,
   ⟨(some 8), none, .ld none (.t 7)⟩,
   ⟨(some 9), none, .bin .eql (.t 6) (.t 8)⟩,
   ⟨(some 10), none, .mov (.t 9)⟩,
   ⟨(some 11), (some (10, true)), .fldA 1 (.t 2)⟩,
   ⟨(some 12), (some (10, true)), .ld none (.t 11)⟩,
   ⟨(some 13), (some (10, true)), .fldA 1 (.t 3)⟩,
   ⟨(some 14), (some (10, true)), .ld none (.t 13)⟩,
   ⟨(some 15), (some (10, true)), .bin .eql (.t 12) (.t 14)⟩,
   ⟨(some 16), none, .pick (.t 10) (.t 15) (.c (.p (.bool false)))⟩,
   ⟨(some 17), none, .mov (.t 16)⟩,
   ⟨(some 18), (some (17, true)), .fldA 2 (.t 2)⟩,
   ⟨(some 19), (some (17, true)), .ld none (.t 18)⟩,
   ⟨(some 20), (some (17, true)), .fldA 2 (.t 3)⟩,
   ⟨(some 21), (some (17, true)), .ld none (.t 20)⟩,
   ⟨(some 22), (some (17, true)), .call n_slices_Equal_impl_Mins [(.t 19), (.t 21)]⟩,
   ⟨(some 23), none, .pick (.t 17) (.t 22) (.c (.p (.bool false)))⟩,
   ⟨(some 4), none, .mov (.t 23)⟩])
 (.ret))⟩
theorem k_impl_sameMfn : compF Tryd.prog n_impl_sameMfn = some F_impl_sameMfn := by kernel_rfl

def F_impl_MinsPlaces : FK := ⟨12, [.t 2],
 .seq (.reg [⟨(some 1), none, .box 3 (.t 0)⟩,
   ⟨(some 2), none, .mov (.c .nils)⟩])
 (.seq (.seq (.reg [⟨(some 4), none, .ld (some 3) (.t 1)⟩,
   ⟨(some 5), none, .call n_impl_layoutOf [(.t 4)]⟩,
   ⟨(some 3), none, .mov (.t 5)⟩])
 (.seq (.reg [⟨(some 6), none, .mov (.t 3)⟩,
   ⟨(some 7), none, .pnil 0 true (.t 6)⟩])
 (.cond (.t 7)
  (.seq (.reg [⟨(some 8), none, .mov (.t 3)⟩,
    ⟨(some 9), none, .nilck (.t 8)⟩,
    ⟨(some 10), none, .fldA 5 (.t 9)⟩,
    ⟨(some 11), none, .ld none (.t 10)⟩,
    ⟨(some 2), none, .mov (.t 11)⟩])
  (.ret))
  (.skip))))
 (.seq (.reg [⟨(some 2), none, .mov (.c .nils)⟩])
 (.ret)))⟩
theorem k_impl_MinsPlaces : compF Tryd.prog n_impl_MinsPlaces = some F_impl_MinsPlaces := by kernel_rfl

def F_impl_callBytes : FK := ⟨28, [.t 2],
 .seq (.reg [⟨(some 1), none, .box 3 (.t 0)⟩,
   ⟨(some 2), none, .mov (.c .nils)⟩])
 (.seq (.reg [⟨(some 3), none, .mov (.c .nils)⟩])
 (.seq (.seq (.reg [⟨(some 6), none, .ld (some 3) (.t 1)⟩,
   ⟨(some 7), none, .call n_impl_MinsPlaces [(.t 6)]⟩,
   ⟨(some 8), none, .len false (.t 7)⟩,
   ⟨(some 9), none, .mov (.c (.p (.int .i64 0)))⟩])
 (.blk 0 (.loop (.seq (.reg [⟨(some 10), none, .bin .lss (.t 9) (.t 8)⟩])
 (.seq (.cond (.t 10)
  (.skip)
  (.exit 0))
 (.seq (.blk 1 (.seq (.reg [⟨(some 11), none, .mov (.t 9)⟩,
   ⟨(some 12), none, .idxS 1 (.t 7) (.t 9)⟩,
   ⟨(some 13), none, .ld none (.t 12)⟩,
   ⟨(some 4), none, .mov (.t 11)⟩,
   ⟨(some 5), none, .mov (.t 13)⟩])
 (.seq (.reg [⟨(some 14), none, .fldA 2 (.t 1)⟩,
   ⟨(some 15), none, .ld none (.t 14)⟩,
   ⟨(some 16), none, .mov (.t 4)⟩,
   ⟨(some 17), none, .idxS 5 (.t 15) (.t 16)⟩,
   ⟨(some 18), none, .fldA 0 (.t 17)⟩,
   ⟨(some 19), none, .ld none (.t 18)⟩,
   ⟨(some 20), none, .bin .eql (.t 19) (.c (.p (.int .i64 14)))⟩])
 (.cond (.t 20)
  (.reg [⟨(some 21), none, .mov (.t 3)⟩,
    ⟨(some 22), none, .mov (.t 5)⟩,
    ⟨(some 23), none, .bin .add (.t 22) (.c (.p (.int .i64 1)))⟩,
    ⟨(some 24), none, .bsl 1 [(.p (.int .i64 0))] 1 [(0, 1, (.t 23))]⟩,
    ⟨(some 25), none, .app 1 8 (.t 21) (.t 24)⟩,
    ⟨(some 3), none, .mov (.t 25)⟩])
  (.skip)))))
 (.reg [⟨(some 26), none, .bin .add (.t 9) (.c (.p (.int .i64 1)))⟩,
   ⟨(some 9), none, .mov (.t 26)⟩])))))))
 (.seq (.reg [⟨(some 27), none, .mov (.t 3)⟩,
   ⟨(some 2), none, .mov (.t 27)⟩])
 (.ret))))⟩
theorem k_impl_callBytes : compF Tryd.prog n_impl_callBytes = some F_impl_callBytes := by kernel_rfl

def F_slices_Equal_int : FK := ⟨26, [.t 4],
 .seq (.reg [⟨(some 4), none, .mov (.c (.p (.bool false)))⟩])
 (.seq (.seq (.reg [⟨(some 6), none, .mov (.t 0)⟩,
   ⟨(some 7), none, .len false (.t 6)⟩,
   ⟨(some 8), none, .mov (.t 1)⟩,
   ⟨(some 9), none, .len false (.t 8)⟩,
   ⟨(some 10), none, .bin .neq (.t 7) (.t 9)⟩])
 (.cond (.t 10)
  (.seq (.reg [⟨(some 4), none, .mov (.c (.p (.bool false)))⟩])
  (.ret))
  (.skip)))
 (.seq (.seq (.reg [⟨(some 11), none, .mov (.t 0)⟩,
   ⟨(some 12), none, .len false (.t 11)⟩,
   ⟨(some 13), none, .mov (.c (.p (.int .i64 0)))⟩])
 (.blk 0 (.loop (.seq (.reg [⟨(some 14), none, .bin .lss (.t 13) (.t 12)⟩])
 (.seq (.cond (.t 14)
  (.skip)
  (.exit 0))
 (.seq (.blk 1 (.seq (.reg [⟨(some 15), none, .mov (.t 13)⟩,
   ⟨(some 5), none, .mov (.t 15)⟩])
 (.seq (.reg [⟨(some 16), none, .mov (.t 0)⟩,
   ⟨(some 17), none, .mov (.t 5)⟩,
   ⟨(some 18), none, .idxS 1 (.t 16) (.t 17)⟩,
   ⟨(some 20), none, .mov (.t 1)⟩,
   ⟨(some 21), none, .mov (.t 5)⟩,
   ⟨(some 22), none, .idxS 1 (.t 20) (.t 21)⟩,
   ⟨(some 19), none, .ld none (.t 18)⟩,
   ⟨(some 23), none, .ld none (.t 22)⟩,
   ⟨(some 24), none, .bin .neq (.t 19) (.t 23)⟩])
 (.cond (.t 24)
  (.seq (.reg [⟨(some 4), none, .mov (.c (.p (.bool false)))⟩])
  (.ret))
  (.skip)))))
 (.reg [⟨(some 25), none, .bin .add (.t 13) (.c (.p (.int .i64 1)))⟩,
   ⟨(some 13), none, .mov (.t 25)⟩])))))))
 (.seq (.reg [⟨(some 4), none, .mov (.c (.p (.bool true)))⟩])
 (.ret))))⟩
theorem k_slices_Equal_int : compF Tryd.prog n_slices_Equal_int = some F_slices_Equal_int := by kernel_rfl

def F_slices_IndexFunc_string : FK := ⟨19, [.t 4],
 .seq (.reg [⟨(some 4), none, .mov (.c (.p (.int .i64 0)))⟩])
 (.seq (.seq (.reg [⟨(some 6), none, .mov (.t 0)⟩,
   ⟨(some 7), none, .len false (.t 6)⟩,
   ⟨(some 8), none, .mov (.c (.p (.int .i64 0)))⟩])
 (.blk 0 (.loop (.seq (.reg [⟨(some 9), none, .bin .lss (.t 8) (.t 7)⟩])
 (.seq (.cond (.t 9)
  (.skip)
  (.exit 0))
 (.seq (.blk 1 (.seq (.reg [⟨(some 10), none, .mov (.t 8)⟩,
   ⟨(some 5), none, .mov (.t 10)⟩])
 (.seq (.reg [⟨(some 11), none, .mov (.t 1)⟩,
   ⟨(some 12), none, .mov (.t 0)⟩,
   ⟨(some 13), none, .mov (.t 5)⟩,
   ⟨(some 14), none, .idxS 1 (.t 12) (.t 13)⟩,
   ⟨(some 15), none, .ld none (.t 14)⟩,
   ⟨(some 16), none, .callv (.t 11) [(.t 15)]⟩])
 (.cond (.t 16)
  (.seq (.reg [⟨(some 17), none, .mov (.t 5)⟩,
    ⟨(some 4), none, .mov (.t 17)⟩])
  (.ret))
  (.skip)))))
 (.reg [⟨(some 18), none, .bin .add (.t 8) (.c (.p (.int .i64 1)))⟩,
   ⟨(some 8), none, .mov (.t 18)⟩])))))))
 (.seq (.reg [⟨(some 4), none, .mov (.c (.p (.int .i64 (-1))))⟩])
 (.ret)))⟩
theorem k_slices_IndexFunc_string : compF Tryd.prog n_slices_IndexFunc_string = some F_slices_IndexFunc_string := by kernel_rfl

def F_slices_ContainsFunc_string : FK := ⟨9, [.t 4],
 .seq (.reg [⟨(some 4), none, .mov (.c (.p (.bool false)))⟩])
 (.seq (.reg [⟨(some 5), none, .mov (.t 0)⟩,
   ⟨(some 6), none, .mov (.t 1)⟩,
   ⟨(some 7), none, .call n_slices_IndexFunc_string [(.t 5), (.t 6)]⟩,
   ⟨(some 8), none, .bin .geq (.t 7) (.c (.p (.int .i64 0)))⟩,
   ⟨(some 4), none, .mov (.t 8)⟩])
 (.ret))⟩
theorem k_slices_ContainsFunc_string : compF Tryd.prog n_slices_ContainsFunc_string = some F_slices_ContainsFunc_string := by kernel_rfl

def F_impl_fnOf_1 : FK := ⟨6, [.t 2],
 .seq (.reg [⟨(some 2), none, .mov (.c (.p (.bool false)))⟩])
 (.seq (.reg [⟨(some 3), none, .mov (.t 0)⟩,
   ⟨(some 4), none, .call n_impl_IsName [(.t 3)]⟩,
   ⟨(some 5), none, .not (.t 4)⟩,
   ⟨(some 2), none, .mov (.t 5)⟩])
 (.ret))⟩
theorem k_impl_fnOf_1 : compF Tryd.prog n_impl_fnOf_1 = some F_impl_fnOf_1 := by kernel_rfl

def F_impl_fnOf : FK := ⟨52, [.c 2 (some 3), .t 3],
 .seq (.reg [⟨(some 1), none, .box 6 (.t 0)⟩,
   ⟨(some 2), none, .alloc [(.p (.int .i64 0)), (.p (.int .i64 0)), .nils]⟩,
   ⟨(some 3), none, .mov (.c (.p (.bool false)))⟩])
 (.seq (.reg [⟨(some 7), none, .fldA 1 (.t 1)⟩,
   ⟨(some 8), none, .ld none (.t 7)⟩,
   ⟨(some 9), none, .fldA 2 (.t 1)⟩,
   ⟨(some 10), none, .ld none (.t 9)⟩,
   ⟨(some 11), none, .fldA 3 (.t 1)⟩,
   ⟨(some 12), none, .ld none (.t 11)⟩,
   ⟨(some 13), none, .call n_impl_DecodeFn [(.t 8), (.t 10), (.t 12)]⟩,
   ⟨(some 6), none, .mov (.t 13)⟩,
   ⟨(some 14), none, .ext 0 (.t 6)⟩,
   ⟨(some 15), none, .ext 1 (.t 6)⟩,
   ⟨(some 4), none, .alloc [(.p (.int .i64 0)), (.p (.int .i64 0)), .nils]⟩,
   ⟨none, none, .st 3 (.t 4) (.t 14)⟩,
   ⟨(some 5), none, .mov (.t 15)⟩])
 (.seq (.reg [⟨(some 16), none, .mov (.t 5)⟩,
   ⟨(some 17), none, .mov (.t 16)⟩,
   ⟨(some 18), (some (17, true)), .fldA 0 (.t 1)⟩,
   ⟨(some 19), (some (17, true)), .ld none (.t 18)⟩,
   ⟨(some 20), (some (17, true)), .call n_impl_IsName [(.t 19)]⟩,
   ⟨(some 21), none, .pick (.t 17) (.t 20) (.c (.p (.bool false)))⟩,
   ⟨(some 22), none, .mov (.t 21)⟩,
   ⟨(some 23), (some (22, true)), .ld (some 3) (.t 4)⟩,
   ⟨(some 24), (some (22, true)), .ld (some 3) (.t 4)⟩,
   ⟨(some 25), (some (22, true)), .qcall n_impl_blank [(.t 24)]⟩,
   ⟨(some 26), (some (22, true)), .call n_impl_sameMfn [(.t 23), (.t 25)]⟩,
   ⟨(some 27), none, .pick (.t 22) (.t 26) (.c (.p (.bool false)))⟩,
   ⟨(some 28), none, .mov (.t 27)⟩,
   ⟨(some 31), (some (28, true)), .fldA 4 (.t 1)⟩,
   ⟨(some 29), (some (28, true)), .ld (some 3) (.t 4)⟩,
   ⟨(some 30), (some (28, true)), .qcall n_impl_callBytes [(.t 29)]⟩,
   ⟨(some 32), (some (28, true)), .ld none (.t 31)⟩,
   ⟨(some 33), (some (28, true)), .call n_slices_Equal_int [(.t 30), (.t 32)]⟩,
   ⟨(some 34), none, .pick (.t 28) (.t 33) (.c (.p (.bool false)))⟩,
   ⟨(some 35), none, .mov (.t 34)⟩,
   ⟨(some 36), (some (35, true)), .fldA 5 (.t 1)⟩,
   ⟨(some 39), (some (35, true)), .fldA 4 (.t 1)⟩,
   ⟨(some 37), (some (35, true)), .ld none (.t 36)⟩,
   ⟨(some 38), (some (35, true)), .len false (.t 37)⟩,
   ⟨(some 40), (some (35, true)), .ld none (.t 39)⟩,
   ⟨(some 41), (some (35, true)), .len false (.t 40)⟩,
   ⟨(some 42), (some (35, true)), .bin .eql (.t 38) (.t 41)⟩,
   ⟨(some 43), none, .pick (.t 35) (.t 42) (.c (.p (.bool false)))⟩,
   ⟨(some 5), none, .mov (.t 43)⟩])
 (.seq (.reg [⟨(some 45), none, .mov (.t 5)⟩,
   ⟨(some 46), none, .mov (.t 45)⟩,
   ⟨(some 47), (some (46, true)), .fldA 5 (.t 1)⟩,
   ⟨(some 44), none, .ld (some 3) (.t 4)⟩,
   ⟨(some 48), (some (46, true)), .ld none (.t 47)⟩,
   ⟨(some 49), (some (46, true)), .call n_slices_ContainsFunc_string [(.t 48), (.c (.fn (.func n_impl_fnOf_1) []))]⟩,
   ⟨none, none, .chk (some 3) 4 44⟩,
   ⟨(some 50), (some (46, true)), .not (.t 49)⟩,
   ⟨(some 51), none, .pick (.t 46) (.t 50) (.c (.p (.bool false)))⟩,
   ⟨none, none, .st 3 (.t 2) (.t 44)⟩,
   ⟨(some 3), none, .mov (.t 51)⟩])
 (.ret))))⟩
theorem k_impl_fnOf : compF Tryd.prog n_impl_fnOf = some F_impl_fnOf := by kernel_rfl

def F_impl_ObjectValid : FK := ⟨11, [.t 2],
 .seq (.reg [⟨(some 1), none, .box 6 (.t 0)⟩,
   ⟨(some 2), none, .mov (.c (.p (.bool false)))⟩])
 (.seq (.reg [⟨(some 6), none, .ld (some 6) (.t 1)⟩,
   ⟨(some 7), none, .call n_impl_fnOf [(.t 6)]⟩,
   ⟨(some 5), none, .mov (.t 7)⟩,
   ⟨(some 8), none, .ext 0 (.t 5)⟩,
   ⟨(some 9), none, .ext 1 (.t 5)⟩,
   ⟨(some 3), none, .alloc [(.p (.int .i64 0)), (.p (.int .i64 0)), .nils]⟩,
   ⟨none, none, .st 3 (.t 3) (.t 8)⟩,
   ⟨(some 4), none, .mov (.t 9)⟩])
 (.seq (.reg [⟨(some 10), none, .mov (.t 4)⟩,
   ⟨(some 2), none, .mov (.t 10)⟩])
 (.ret)))⟩
theorem k_impl_ObjectValid : compF Tryd.prog n_impl_ObjectValid = some F_impl_ObjectValid := by kernel_rfl

def F_laws_eqIntS : FK := ⟨26, [.t 4],
 .seq (.reg [⟨(some 4), none, .mov (.c (.p (.bool false)))⟩])
 (.seq (.seq (.reg [⟨(some 6), none, .mov (.t 0)⟩,
   ⟨(some 7), none, .len false (.t 6)⟩,
   ⟨(some 8), none, .mov (.t 1)⟩,
   ⟨(some 9), none, .len false (.t 8)⟩,
   ⟨(some 10), none, .bin .neq (.t 7) (.t 9)⟩])
 (.cond (.t 10)
  (.seq (.reg [⟨(some 4), none, .mov (.c (.p (.bool false)))⟩])
  (.ret))
  (.skip)))
 (.seq (.seq (.reg [⟨(some 5), none, .mov (.c (.p (.int .i64 0)))⟩])
 (.blk 0 (.loop (.seq (.seq (.reg [⟨(some 11), none, .mov (.t 5)⟩,
   ⟨(some 12), none, .mov (.t 0)⟩,
   ⟨(some 13), none, .len false (.t 12)⟩,
   ⟨(some 14), none, .bin .lss (.t 11) (.t 13)⟩])
 (.cond (.t 14)
  (.skip)
  (.exit 0)))
 (.seq (.blk 1 (.seq (.reg [⟨(some 17), none, .mov (.t 0)⟩,
   ⟨(some 18), none, .mov (.t 5)⟩,
   ⟨(some 19), none, .idxS 1 (.t 17) (.t 18)⟩,
   ⟨(some 21), none, .mov (.t 1)⟩,
   ⟨(some 22), none, .mov (.t 5)⟩,
   ⟨(some 23), none, .idxS 1 (.t 21) (.t 22)⟩,
   ⟨(some 20), none, .ld none (.t 19)⟩,
   ⟨(some 24), none, .ld none (.t 23)⟩,
   ⟨(some 25), none, .bin .neq (.t 20) (.t 24)⟩])
 (.cond (.t 25)
  (.seq (.reg [⟨(some 4), none, .mov (.c (.p (.bool false)))⟩])
  (.ret))
  (.skip))))
 (.reg [⟨(some 15), none, .mov (.t 5)⟩,
   ⟨(some 16), none, .bin .add (.t 15) (.c (.p (.int .i64 1)))⟩,
   ⟨(some 5), none, .mov (.t 16)⟩]))))))
 (.seq (.reg [⟨(some 4), none, .mov (.c (.p (.bool true)))⟩])
 (.ret))))⟩
theorem k_laws_eqIntS : compF Tryd.prog n_laws_eqIntS = some F_laws_eqIntS := by kernel_rfl

def F_laws_eqStringS : FK := ⟨26, [.t 4],
 .seq (.reg [⟨(some 4), none, .mov (.c (.p (.bool false)))⟩])
 (.seq (.seq (.reg [⟨(some 6), none, .mov (.t 0)⟩,
   ⟨(some 7), none, .len false (.t 6)⟩,
   ⟨(some 8), none, .mov (.t 1)⟩,
   ⟨(some 9), none, .len false (.t 8)⟩,
   ⟨(some 10), none, .bin .neq (.t 7) (.t 9)⟩])
 (.cond (.t 10)
  (.seq (.reg [⟨(some 4), none, .mov (.c (.p (.bool false)))⟩])
  (.ret))
  (.skip)))
 (.seq (.seq (.reg [⟨(some 5), none, .mov (.c (.p (.int .i64 0)))⟩])
 (.blk 0 (.loop (.seq (.seq (.reg [⟨(some 11), none, .mov (.t 5)⟩,
   ⟨(some 12), none, .mov (.t 0)⟩,
   ⟨(some 13), none, .len false (.t 12)⟩,
   ⟨(some 14), none, .bin .lss (.t 11) (.t 13)⟩])
 (.cond (.t 14)
  (.skip)
  (.exit 0)))
 (.seq (.blk 1 (.seq (.reg [⟨(some 17), none, .mov (.t 0)⟩,
   ⟨(some 18), none, .mov (.t 5)⟩,
   ⟨(some 19), none, .idxS 1 (.t 17) (.t 18)⟩,
   ⟨(some 21), none, .mov (.t 1)⟩,
   ⟨(some 22), none, .mov (.t 5)⟩,
   ⟨(some 23), none, .idxS 1 (.t 21) (.t 22)⟩,
   ⟨(some 20), none, .ld none (.t 19)⟩,
   ⟨(some 24), none, .ld none (.t 23)⟩,
   ⟨(some 25), none, .bins .neq (.t 20) (.t 24)⟩])
 (.cond (.t 25)
  (.seq (.reg [⟨(some 4), none, .mov (.c (.p (.bool false)))⟩])
  (.ret))
  (.skip))))
 (.reg [⟨(some 15), none, .mov (.t 5)⟩,
   ⟨(some 16), none, .bin .add (.t 15) (.c (.p (.int .i64 1)))⟩,
   ⟨(some 5), none, .mov (.t 16)⟩]))))))
 (.seq (.reg [⟨(some 4), none, .mov (.c (.p (.bool true)))⟩])
 (.ret))))⟩
theorem k_laws_eqStringS : compF Tryd.prog n_laws_eqStringS = some F_laws_eqStringS := by kernel_rfl

def F_laws_eqObject : FK := ⟨38, [.t 4],
 .seq (.reg [⟨(some 2), none, .box 6 (.t 0)⟩,
   ⟨(some 3), none, .box 6 (.t 1)⟩,
   ⟨(some 4), none, .mov (.c (.p (.bool false)))⟩])
 (.seq (.seq (.reg [⟨(some 5), none, .fldA 0 (.t 2)⟩,
   ⟨(some 6), none, .ld none (.t 5)⟩,
   ⟨(some 7), none, .fldA 0 (.t 3)⟩,
   ⟨(some 8), none, .ld none (.t 7)⟩,
   ⟨(some 9), none, .bins .neq (.t 6) (.t 8)⟩])
 (.cond (.t 9)
  (.seq (.reg [⟨(some 4), none, .mov (.c (.p (.bool false)))⟩])
  (.ret))
  (.skip)))
 (.seq (.seq (.reg [⟨(some 10), none, .fldA 1 (.t 2)⟩,
   ⟨(some 11), none, .ld none (.t 10)⟩,
   ⟨(some 12), none, .fldA 1 (.t 3)⟩,
   ⟨(some 13), none, .ld none (.t 12)⟩,
   ⟨(some 14), none, .bin .neq (.t 11) (.t 13)⟩])
 (.cond (.t 14)
  (.seq (.reg [⟨(some 4), none, .mov (.c (.p (.bool false)))⟩])
  (.ret))
  (.skip)))
 (.seq (.seq (.reg [⟨(some 15), none, .fldA 2 (.t 2)⟩,
   ⟨(some 16), none, .ld none (.t 15)⟩,
   ⟨(some 17), none, .fldA 2 (.t 3)⟩,
   ⟨(some 18), none, .ld none (.t 17)⟩,
   ⟨(some 19), none, .bin .neq (.t 16) (.t 18)⟩])
 (.cond (.t 19)
  (.seq (.reg [⟨(some 4), none, .mov (.c (.p (.bool false)))⟩])
  (.ret))
  (.skip)))
 (.seq (.seq (.reg [⟨(some 20), none, .fldA 3 (.t 2)⟩,
   ⟨(some 21), none, .ld none (.t 20)⟩,
   ⟨(some 22), none, .fldA 3 (.t 3)⟩,
   ⟨(some 23), none, .ld none (.t 22)⟩,
   ⟨(some 24), none, .call n_laws_eqByteS [(.t 21), (.t 23)]⟩,
   ⟨(some 25), none, .not (.t 24)⟩])
 (.cond (.t 25)
  (.seq (.reg [⟨(some 4), none, .mov (.c (.p (.bool false)))⟩])
  (.ret))
  (.skip)))
 (.seq (.seq (.reg [⟨(some 26), none, .fldA 4 (.t 2)⟩,
   ⟨(some 27), none, .ld none (.t 26)⟩,
   ⟨(some 28), none, .fldA 4 (.t 3)⟩,
   ⟨(some 29), none, .ld none (.t 28)⟩,
   ⟨(some 30), none, .call n_laws_eqIntS [(.t 27), (.t 29)]⟩,
   ⟨(some 31), none, .not (.t 30)⟩])
 (.cond (.t 31)
  (.seq (.reg [⟨(some 4), none, .mov (.c (.p (.bool false)))⟩])
  (.ret))
  (.skip)))
 (.seq (.seq (.reg [⟨(some 32), none, .fldA 5 (.t 2)⟩,
   ⟨(some 33), none, .ld none (.t 32)⟩,
   ⟨(some 34), none, .fldA 5 (.t 3)⟩,
   ⟨(some 35), none, .ld none (.t 34)⟩,
   ⟨(some 36), none, .call n_laws_eqStringS [(.t 33), (.t 35)]⟩,
   ⟨(some 37), none, .not (.t 36)⟩])
 (.cond (.t 37)
  (.seq (.reg [⟨(some 4), none, .mov (.c (.p (.bool false)))⟩])
  (.ret))
  (.skip)))
 (.seq (.reg [⟨(some 4), none, .mov (.c (.p (.bool true)))⟩])
 (.ret))))))))⟩
theorem k_laws_eqObject : compF Tryd.prog n_laws_eqObject = some F_laws_eqObject := by kernel_rfl

def F_laws_FnExactObjectValid : FK := ⟨27, [.t 2],
 .seq (.reg [⟨(some 1), none, .box 6 (.t 0)⟩,
   ⟨(some 2), none, .mov (.c (.p (.bool false)))⟩])
 (.seq (.reg [⟨(some 3), none, .mov (.c (.p (.int .i64 1048576)))⟩])
 (.seq (.reg [⟨(some 7), none, .ld (some 6) (.t 1)⟩,
   ⟨(some 8), none, .mov (.t 3)⟩,
   ⟨(some 9), none, .call n_laws_szObject [(.t 7), (.t 8)]⟩,
   ⟨(some 3), none, .mov (.t 9)⟩])
 (.seq (.seq (.reg [⟨(some 10), none, .mov (.t 3)⟩,
   ⟨(some 11), none, .bin .lss (.t 10) (.c (.p (.int .i64 0)))⟩])
 (.cond (.t 11)
  (.seq (.reg [⟨(some 2), none, .mov (.c (.p (.bool true)))⟩])
  (.ret))
  (.skip)))
 (.seq (.reg [⟨(some 12), none, .ld (some 6) (.t 1)⟩,
   ⟨(some 13), none, .call n_laws_toObject [(.t 12)]⟩,
   ⟨(some 14), none, .call n_spec_ObjectValid [(.t 13)]⟩,
   ⟨(some 4), none, .mov (.t 14)⟩])
 (.seq (.reg [⟨(some 15), none, .ld (some 6) (.t 1)⟩,
   ⟨(some 16), none, .call n_laws_toObject [(.t 15)]⟩,
   ⟨(some 5), none, .alloc [(.p (.str [])), (.p (.int .i64 0)), (.p (.int .i64 0)), .nils, .nils, .nils]⟩,
   ⟨none, none, .st 6 (.t 5) (.t 16)⟩])
 (.seq (.reg [⟨(some 17), none, .ld (some 6) (.t 5)⟩,
   ⟨(some 18), none, .call n_impl_ObjectValid [(.t 17)]⟩,
   ⟨(some 6), none, .mov (.t 18)⟩])
 (.seq (.seq (.reg [⟨(some 19), none, .mov (.t 6)⟩,
   ⟨(some 20), none, .mov (.t 4)⟩,
   ⟨(some 21), none, .beq true (.t 19) (.t 20)⟩])
 (.cond (.t 21)
  (.seq (.reg [⟨(some 2), none, .mov (.c (.p (.bool false)))⟩])
  (.ret))
  (.skip)))
 (.seq (.seq (.reg [⟨(some 22), none, .ld (some 6) (.t 5)⟩,
   ⟨(some 23), none, .ld (some 6) (.t 1)⟩,
   ⟨(some 24), none, .call n_laws_toObject [(.t 23)]⟩,
   ⟨none, none, .chk (some 6) 5 22⟩,
   ⟨(some 25), none, .call n_laws_eqObject [(.t 22), (.t 24)]⟩,
   ⟨(some 26), none, .not (.t 25)⟩])
 (.cond (.t 26)
  (.seq (.reg [⟨(some 2), none, .mov (.c (.p (.bool false)))⟩])
  (.ret))
  (.skip)))
 (.seq (.reg [⟨(some 2), none, .mov (.c (.p (.bool true)))⟩])
 (.ret))))))))))⟩
theorem k_laws_FnExactObjectValid : compF Tryd.prog n_laws_FnExactObjectValid = some F_laws_FnExactObjectValid := by kernel_rfl
end Go.Proofs.YtbbobekgnclkfaaDoor
