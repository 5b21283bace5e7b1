/-
  The compiled texts of functions, printed by a program.
-/
import Derived.Test.YtbbobekgnclkfaaDoorCode3
namespace Go.Proofs.YtbbobekgnclkfaaDoor
open Go Go.Aw
set_option maxRecDepth 100000
abbrev n_spec_l2Has : FuncId := 78
abbrev n_spec_ObjectCalls : FuncId := 37
abbrev n_impl_uniq : FuncId := 79
abbrev n_impl_ObjectCalls : FuncId := 38
abbrev n_laws_markIntS : FuncId := 76
abbrev n_laws_markText : FuncId := 75
abbrev n_laws_markStringS : FuncId := 34
abbrev n_laws_markObject : FuncId := 35
abbrev n_laws_heldStringS : FuncId := 39
abbrev n_laws_FnExactObjectCalls : FuncId := 8
def F_spec_l2Has : FK := ⟨18, [.t 4],
 .seq (.reg [⟨(some 4), none, .mov (.c (.p (.bool false)))⟩])
 (.seq (.seq (.reg [⟨(some 5), none, .mov (.c (.p (.int .i64 0)))⟩])
 (.blk 0 (.loop (.seq (.seq (.reg [⟨(some 6), none, .mov (.t 5)⟩,
   ⟨(some 7), none, .mov (.t 0)⟩,
   ⟨(some 8), none, .len false (.t 7)⟩,
   ⟨(some 9), none, .bin .lss (.t 6) (.t 8)⟩])
 (.cond (.t 9)
  (.skip)
  (.exit 0)))
 (.seq (.blk 1 (.seq (.reg [⟨(some 12), none, .mov (.t 0)⟩,
   ⟨(some 13), none, .mov (.t 5)⟩,
   ⟨(some 14), none, .idxS 1 (.t 12) (.t 13)⟩,
   ⟨(some 15), none, .ld none (.t 14)⟩,
   ⟨(some 16), none, .mov (.t 1)⟩,
   ⟨(some 17), none, .bins .eql (.t 15) (.t 16)⟩])
 (.cond (.t 17)
  (.seq (.reg [⟨(some 4), none, .mov (.c (.p (.bool true)))⟩])
  (.ret))
  (.skip))))
 (.reg [⟨(some 10), none, .mov (.t 5)⟩,
   ⟨(some 11), none, .bin .add (.t 10) (.c (.p (.int .i64 1)))⟩,
   ⟨(some 5), none, .mov (.t 11)⟩]))))))
 (.seq (.reg [⟨(some 4), none, .mov (.c (.p (.bool false)))⟩])
 (.ret)))⟩
theorem k_spec_l2Has : compF Tryd.prog n_spec_l2Has = some F_spec_l2Has := by kernel_rfl

def F_spec_ObjectCalls : FK := ⟨34, [.t 2],
 .seq (.reg [⟨(some 1), none, .box 6 (.t 0)⟩,
   ⟨(some 2), none, .mov (.c .nils)⟩])
 (.seq (.reg [⟨(some 5), none, .bsl 1 [(.p (.str []))] 0 []⟩,
   ⟨(some 3), none, .mov (.t 5)⟩])
 (.seq (.seq (.reg [⟨(some 4), none, .mov (.c (.p (.int .i64 0)))⟩])
 (.blk 0 (.loop (.seq (.seq (.reg [⟨(some 6), none, .mov (.t 4)⟩,
   ⟨(some 7), none, .fldA 5 (.t 1)⟩,
   ⟨(some 8), none, .ld none (.t 7)⟩,
   ⟨(some 9), none, .len false (.t 8)⟩,
   ⟨(some 10), none, .bin .lss (.t 6) (.t 9)⟩,
   ⟨(some 11), none, .mov (.t 10)⟩,
   ⟨(some 12), (some (11, true)), .ld (some 6) (.t 1)⟩,
   ⟨(some 13), (some (11, true)), .call n_spec_ObjectValid [(.t 12)]⟩,
   ⟨(some 14), none, .pick (.t 11) (.t 13) (.c (.p (.bool false)))⟩])
 (.cond (.t 14)
  (.skip)
  (.exit 0)))
 (.seq (.blk 1 (.seq (.reg [⟨(some 17), none, .mov (.t 3)⟩,
   ⟨(some 18), none, .fldA 5 (.t 1)⟩,
   ⟨(some 19), none, .ld none (.t 18)⟩,
   ⟨(some 20), none, .mov (.t 4)⟩,
   ⟨(some 21), none, .idxS 1 (.t 19) (.t 20)⟩,
   ⟨(some 22), none, .ld none (.t 21)⟩,
   ⟨(some 23), none, .call n_spec_l2Has [(.t 17), (.t 22)]⟩,
   ⟨(some 24), none, .not (.t 23)⟩])
 (.cond (.t 24)
  (.reg [⟨(some 25), none, .mov (.t 3)⟩,
    ⟨(some 26), none, .fldA 5 (.t 1)⟩,
    ⟨(some 27), none, .ld none (.t 26)⟩,
    ⟨(some 28), none, .mov (.t 4)⟩,
    ⟨(some 29), none, .idxS 1 (.t 27) (.t 28)⟩,
    ⟨(some 30), none, .ld none (.t 29)⟩,
    ⟨(some 31), none, .bsl 1 [(.p (.str []))] 1 [(0, 1, (.t 30))]⟩,
    ⟨(some 32), none, .app 1 16 (.t 25) (.t 31)⟩,
    ⟨(some 3), none, .mov (.t 32)⟩])
  (.skip))))
 (.reg [⟨(some 15), none, .mov (.t 4)⟩,
   ⟨(some 16), none, .bin .add (.t 15) (.c (.p (.int .i64 1)))⟩,
   ⟨(some 4), none, .mov (.t 16)⟩]))))))
 (.seq (.reg [⟨(some 33), none, .mov (.t 3)⟩,
   ⟨(some 2), none, .mov (.t 33)⟩])
 (.ret))))⟩
theorem k_spec_ObjectCalls : compF Tryd.prog n_spec_ObjectCalls = some F_spec_ObjectCalls := by kernel_rfl

def F_impl_uniq : FK := ⟨22, [.t 2],
 .seq (.reg [⟨(some 2), none, .mov (.c .nils)⟩])
 (.seq (.reg [⟨(some 3), none, .mov (.c .nils)⟩])
 (.seq (.seq (.reg [⟨(some 6), none, .mov (.t 0)⟩,
   ⟨(some 7), none, .len false (.t 6)⟩,
   ⟨(some 8), none, .mov (.c (.p (.int .i64 0)))⟩])
 (.blk 0 (.loop (.seq (.reg [⟨(some 9), none, .bin .lss (.t 8) (.t 7)⟩])
 (.seq (.cond (.t 9)
  (.skip)
  (.exit 0))
 (.seq (.blk 1 (.seq (.reg [⟨(some 10), none, .idxS 1 (.t 6) (.t 8)⟩,
   ⟨(some 11), none, .ld none (.t 10)⟩,
   ⟨(some 5), none, .mov (.t 11)⟩])
 (.seq (.reg [⟨(some 12), none, .mov (.t 3)⟩,
   ⟨(some 13), none, .mov (.t 5)⟩,
   ⟨(some 14), none, .call n_slices_Contains_string [(.t 12), (.t 13)]⟩,
   ⟨(some 15), none, .not (.t 14)⟩])
 (.cond (.t 15)
  (.reg [⟨(some 16), none, .mov (.t 3)⟩,
    ⟨(some 17), none, .mov (.t 5)⟩,
    ⟨(some 18), none, .bsl 1 [(.p (.str []))] 1 [(0, 1, (.t 17))]⟩,
    ⟨(some 19), none, .app 1 16 (.t 16) (.t 18)⟩,
    ⟨(some 3), none, .mov (.t 19)⟩])
  (.skip)))))
 (.reg [⟨(some 20), none, .bin .add (.t 8) (.c (.p (.int .i64 1)))⟩,
   ⟨(some 8), none, .mov (.t 20)⟩])))))))
 (.seq (.reg [⟨(some 21), none, .mov (.t 3)⟩,
   ⟨(some 2), none, .mov (.t 21)⟩])
 (.ret))))⟩
theorem k_impl_uniq : compF Tryd.prog n_impl_uniq = some F_impl_uniq := by kernel_rfl

def F_impl_ObjectCalls : FK := ⟨9, [.t 2],
 .seq (.reg [⟨(some 1), none, .box 6 (.t 0)⟩,
   ⟨(some 2), none, .mov (.c .nils)⟩])
 (.seq (.seq (.reg [⟨(some 3), none, .ld (some 6) (.t 1)⟩,
   ⟨(some 4), none, .call n_impl_ObjectValid [(.t 3)]⟩,
   ⟨(some 5), none, .not (.t 4)⟩])
 (.cond (.t 5)
  (.seq (.reg [⟨(some 2), none, .mov (.c .nils)⟩])
  (.ret))
  (.skip)))
 (.seq (.reg [⟨(some 6), none, .fldA 5 (.t 1)⟩,
   ⟨(some 7), none, .ld none (.t 6)⟩,
   ⟨(some 8), none, .call n_impl_uniq [(.t 7)]⟩,
   ⟨(some 2), none, .mov (.t 8)⟩])
 (.ret)))⟩
theorem k_impl_ObjectCalls : compF Tryd.prog n_impl_ObjectCalls = some F_impl_ObjectCalls := by kernel_rfl

def F_laws_markIntS : FK := ⟨19, [.t 4],
 .seq (.reg [⟨(some 4), none, .mov (.c (.p (.int .i64 0)))⟩])
 (.seq (.seq (.reg [⟨(some 5), none, .mov (.c (.p (.int .i64 0)))⟩])
 (.blk 0 (.loop (.seq (.seq (.reg [⟨(some 6), none, .mov (.t 5)⟩,
   ⟨(some 7), none, .mov (.t 0)⟩,
   ⟨(some 8), none, .len false (.t 7)⟩,
   ⟨(some 9), none, .bin .lss (.t 6) (.t 8)⟩])
 (.cond (.t 9)
  (.skip)
  (.exit 0)))
 (.seq (.blk 1 (.seq (.reg [⟨(some 12), none, .mov (.t 0)⟩,
   ⟨(some 13), none, .mov (.t 5)⟩,
   ⟨(some 14), none, .mov (.t 1)⟩,
   ⟨(some 15), none, .idxS 1 (.t 12) (.t 13)⟩,
   ⟨none, none, .st 1 (.t 15) (.t 14)⟩])
 (.reg [⟨(some 16), none, .mov (.t 1)⟩,
   ⟨(some 17), none, .bin .add (.t 16) (.c (.p (.int .i64 1)))⟩,
   ⟨(some 1), none, .mov (.t 17)⟩])))
 (.reg [⟨(some 10), none, .mov (.t 5)⟩,
   ⟨(some 11), none, .bin .add (.t 10) (.c (.p (.int .i64 1)))⟩,
   ⟨(some 5), none, .mov (.t 11)⟩]))))))
 (.seq (.reg [⟨(some 18), none, .mov (.t 1)⟩,
   ⟨(some 4), none, .mov (.t 18)⟩])
 (.ret)))⟩
theorem k_laws_markIntS : compF Tryd.prog n_laws_markIntS = some F_laws_markIntS := by kernel_rfl

def F_laws_markText : FK := ⟨20, [.t 2],
 .seq (.reg [⟨(some 2), none, .mov (.c (.p (.str [])))⟩])
 (.seq (.seq (.reg [⟨(some 4), none, .mov (.t 0)⟩,
   ⟨(some 5), none, .bin .leq (.t 4) (.c (.p (.int .i64 0)))⟩])
 (.cond (.t 5)
  (.seq (.reg [⟨(some 2), none, .mov (.c (.p (.str [109, 48])))⟩])
  (.ret))
  (.skip)))
 (.seq (.reg [⟨(some 3), none, .mov (.c (.p (.str [])))⟩])
 (.seq (.blk 0 (.loop (.seq (.seq (.reg [⟨(some 6), none, .mov (.t 0)⟩,
   ⟨(some 7), none, .bin .gtr (.t 6) (.c (.p (.int .i64 0)))⟩])
 (.cond (.t 7)
  (.skip)
  (.exit 0)))
 (.blk 1 (.seq (.reg [⟨(some 8), none, .mov (.t 0)⟩,
   ⟨(some 9), none, .bin .rem (.t 8) (.c (.p (.int .i64 10)))⟩,
   ⟨(some 10), none, .bin .add (.c (.p (.int .i64 48))) (.t 9)⟩,
   ⟨(some 11), none, .conv .u8 (.t 10)⟩,
   ⟨(some 12), none, .bsl 1 [(.p (.int .u8 0))] 1 [(0, 1, (.t 11))]⟩,
   ⟨(some 13), none, .btos (.t 12)⟩,
   ⟨(some 14), none, .mov (.t 3)⟩,
   ⟨(some 15), none, .bins .add (.t 13) (.t 14)⟩,
   ⟨(some 3), none, .mov (.t 15)⟩])
 (.reg [⟨(some 16), none, .mov (.t 0)⟩,
   ⟨(some 17), none, .bin .quo (.t 16) (.c (.p (.int .i64 10)))⟩,
   ⟨(some 0), none, .mov (.t 17)⟩]))))))
 (.seq (.reg [⟨(some 18), none, .mov (.t 3)⟩,
   ⟨(some 19), none, .bins .add (.c (.p (.str [109]))) (.t 18)⟩,
   ⟨(some 2), none, .mov (.t 19)⟩])
 (.ret)))))⟩
theorem k_laws_markText : compF Tryd.prog n_laws_markText = some F_laws_markText := by kernel_rfl

def F_laws_markStringS : FK := ⟨20, [.t 4],
 .seq (.reg [⟨(some 4), none, .mov (.c (.p (.int .i64 0)))⟩])
 (.seq (.seq (.reg [⟨(some 5), none, .mov (.c (.p (.int .i64 0)))⟩])
 (.blk 0 (.loop (.seq (.seq (.reg [⟨(some 6), none, .mov (.t 5)⟩,
   ⟨(some 7), none, .mov (.t 0)⟩,
   ⟨(some 8), none, .len false (.t 7)⟩,
   ⟨(some 9), none, .bin .lss (.t 6) (.t 8)⟩])
 (.cond (.t 9)
  (.skip)
  (.exit 0)))
 (.seq (.blk 1 (.seq (.reg [⟨(some 12), none, .mov (.t 0)⟩,
   ⟨(some 13), none, .mov (.t 5)⟩,
   ⟨(some 14), none, .mov (.t 1)⟩,
   ⟨(some 15), none, .call n_laws_markText [(.t 14)]⟩,
   ⟨(some 16), none, .idxS 1 (.t 12) (.t 13)⟩,
   ⟨none, none, .st 1 (.t 16) (.t 15)⟩])
 (.reg [⟨(some 17), none, .mov (.t 1)⟩,
   ⟨(some 18), none, .bin .add (.t 17) (.c (.p (.int .i64 1)))⟩,
   ⟨(some 1), none, .mov (.t 18)⟩])))
 (.reg [⟨(some 10), none, .mov (.t 5)⟩,
   ⟨(some 11), none, .bin .add (.t 10) (.c (.p (.int .i64 1)))⟩,
   ⟨(some 5), none, .mov (.t 11)⟩]))))))
 (.seq (.reg [⟨(some 19), none, .mov (.t 1)⟩,
   ⟨(some 4), none, .mov (.t 19)⟩])
 (.ret)))⟩
theorem k_laws_markStringS : compF Tryd.prog n_laws_markStringS = some F_laws_markStringS := by kernel_rfl

def F_laws_markObject : FK := ⟨18, [.t 4],
 .seq (.reg [⟨(some 2), none, .box 6 (.t 0)⟩,
   ⟨(some 4), none, .mov (.c (.p (.int .i64 0)))⟩])
 (.seq (.reg [⟨(some 5), none, .fldA 3 (.t 2)⟩,
   ⟨(some 6), none, .ld none (.t 5)⟩,
   ⟨(some 7), none, .mov (.t 1)⟩,
   ⟨(some 8), none, .call n_laws_markByteS [(.t 6), (.t 7)]⟩,
   ⟨(some 1), none, .mov (.t 8)⟩])
 (.seq (.reg [⟨(some 9), none, .fldA 4 (.t 2)⟩,
   ⟨(some 10), none, .ld none (.t 9)⟩,
   ⟨(some 11), none, .mov (.t 1)⟩,
   ⟨(some 12), none, .call n_laws_markIntS [(.t 10), (.t 11)]⟩,
   ⟨(some 1), none, .mov (.t 12)⟩])
 (.seq (.reg [⟨(some 13), none, .fldA 5 (.t 2)⟩,
   ⟨(some 14), none, .ld none (.t 13)⟩,
   ⟨(some 15), none, .mov (.t 1)⟩,
   ⟨(some 16), none, .call n_laws_markStringS [(.t 14), (.t 15)]⟩,
   ⟨(some 1), none, .mov (.t 16)⟩])
 (.seq (.reg [⟨(some 17), none, .mov (.t 1)⟩,
   ⟨(some 4), none, .mov (.t 17)⟩])
 (.ret)))))⟩
theorem k_laws_markObject : compF Tryd.prog n_laws_markObject = some F_laws_markObject := by kernel_rfl

def F_laws_heldStringS : FK := ⟨22, [.t 4],
 .seq (.reg [⟨(some 4), none, .mov (.c (.p (.int .i64 0)))⟩])
 (.seq (.seq (.reg [⟨(some 5), none, .mov (.c (.p (.int .i64 0)))⟩])
 (.blk 0 (.loop (.seq (.seq (.reg [⟨(some 6), none, .mov (.t 5)⟩,
   ⟨(some 7), none, .mov (.t 0)⟩,
   ⟨(some 8), none, .len false (.t 7)⟩,
   ⟨(some 9), none, .bin .lss (.t 6) (.t 8)⟩])
 (.cond (.t 9)
  (.skip)
  (.exit 0)))
 (.seq (.blk 1 (.seq (.seq (.reg [⟨(some 12), none, .mov (.t 0)⟩,
   ⟨(some 13), none, .mov (.t 5)⟩,
   ⟨(some 14), none, .idxS 1 (.t 12) (.t 13)⟩,
   ⟨(some 16), none, .mov (.t 1)⟩,
   ⟨(some 15), none, .ld none (.t 14)⟩,
   ⟨(some 17), none, .call n_laws_markText [(.t 16)]⟩,
   ⟨none, none, .chk none 14 15⟩,
   ⟨(some 18), none, .bins .neq (.t 15) (.t 17)⟩])
 (.cond (.t 18)
  (.seq (.reg [⟨(some 4), none, .mov (.c (.p (.int .i64 (-1))))⟩])
  (.ret))
  (.skip)))
 (.reg [⟨(some 19), none, .mov (.t 1)⟩,
   ⟨(some 20), none, .bin .add (.t 19) (.c (.p (.int .i64 1)))⟩,
   ⟨(some 1), none, .mov (.t 20)⟩])))
 (.reg [⟨(some 10), none, .mov (.t 5)⟩,
   ⟨(some 11), none, .bin .add (.t 10) (.c (.p (.int .i64 1)))⟩,
   ⟨(some 5), none, .mov (.t 11)⟩]))))))
 (.seq (.reg [⟨(some 21), none, .mov (.t 1)⟩,
   ⟨(some 4), none, .mov (.t 21)⟩])
 (.ret)))⟩
theorem k_laws_heldStringS : compF Tryd.prog n_laws_heldStringS = some F_laws_heldStringS := by kernel_rfl

def F_laws_FnExactObjectCalls : FK := ⟨69, [.t 2],
 .seq (.reg [⟨(some 1), none, .box 6 (.t 0)⟩,
   ⟨(some 2), none, .mov (.c (.p (.bool false)))⟩])
 (.seq (.reg [⟨(some 3), none, .mov (.c (.p (.int .i64 1048576)))⟩])
 (.seq (.reg [⟨(some 11), none, .ld (some 6) (.t 1)⟩,
   ⟨(some 12), none, .mov (.t 3)⟩,
   ⟨(some 13), none, .call n_laws_szObject [(.t 11), (.t 12)]⟩,
   ⟨(some 3), none, .mov (.t 13)⟩])
 (.seq (.seq (.reg [⟨(some 14), none, .mov (.t 3)⟩,
   ⟨(some 15), none, .bin .lss (.t 14) (.c (.p (.int .i64 0)))⟩])
 (.cond (.t 15)
  (.seq (.reg [⟨(some 2), none, .mov (.c (.p (.bool true)))⟩])
  (.ret))
  (.skip)))
 (.seq (.reg [⟨(some 16), none, .ld (some 6) (.t 1)⟩,
   ⟨(some 17), none, .call n_laws_toObject [(.t 16)]⟩,
   ⟨(some 18), none, .call n_spec_ObjectCalls [(.t 17)]⟩,
   ⟨(some 4), none, .mov (.t 18)⟩])
 (.seq (.reg [⟨(some 19), none, .ld (some 6) (.t 1)⟩,
   ⟨(some 20), none, .call n_laws_toObject [(.t 19)]⟩,
   ⟨(some 5), none, .alloc [(.p (.str [])), (.p (.int .i64 0)), (.p (.int .i64 0)), .nils, .nils, .nils]⟩,
   ⟨none, none, .st 6 (.t 5) (.t 20)⟩])
 (.seq (.reg [⟨(some 21), none, .ld (some 6) (.t 5)⟩,
   ⟨(some 22), none, .call n_impl_ObjectCalls [(.t 21)]⟩,
   ⟨(some 6), none, .mov (.t 22)⟩])
 (.seq (.seq (.reg [⟨(some 23), none, .mov (.t 6)⟩,
   ⟨(some 24), none, .mov (.t 4)⟩,
   ⟨(some 25), none, .call n_laws_eqStringS [(.t 23), (.t 24)]⟩,
   ⟨(some 26), none, .not (.t 25)⟩])
 (.cond (.t 26)
  (.seq (.reg [⟨(some 2), none, .mov (.c (.p (.bool false)))⟩])
  (.ret))
  (.skip)))
 (.seq (.seq (.reg [⟨(some 27), none, .ld (some 6) (.t 5)⟩,
   ⟨(some 28), none, .ld (some 6) (.t 1)⟩,
   ⟨(some 29), none, .call n_laws_toObject [(.t 28)]⟩,
   ⟨none, none, .chk (some 6) 5 27⟩,
   ⟨(some 30), none, .call n_laws_eqObject [(.t 27), (.t 29)]⟩,
   ⟨(some 31), none, .not (.t 30)⟩])
 (.cond (.t 31)
  (.seq (.reg [⟨(some 2), none, .mov (.c (.p (.bool false)))⟩])
  (.ret))
  (.skip)))
 (.seq (.reg [⟨(some 7), none, .mov (.c (.p (.int .i64 1)))⟩])
 (.seq (.reg [⟨(some 32), none, .ld (some 6) (.t 5)⟩,
   ⟨(some 33), none, .mov (.t 7)⟩,
   ⟨(some 34), none, .call n_laws_markObject [(.t 32), (.t 33)]⟩,
   ⟨(some 7), none, .mov (.t 34)⟩])
 (.seq (.seq (.reg [⟨(some 35), none, .mov (.t 7)⟩,
   ⟨(some 36), none, .bin .lss (.t 35) (.c (.p (.int .i64 0)))⟩,
   ⟨(some 37), none, .mov (.t 36)⟩,
   ⟨(some 38), (some (37, false)), .mov (.t 6)⟩,
   ⟨(some 39), (some (37, false)), .mov (.t 4)⟩,
   ⟨(some 40), (some (37, false)), .call n_laws_eqStringS [(.t 38), (.t 39)]⟩,
   ⟨(some 41), (some (37, false)), .not (.t 40)⟩,
   ⟨(some 42), none, .pick (.t 37) (.c (.p (.bool true))) (.t 41)⟩])
 (.cond (.t 42)
  (.seq (.reg [⟨(some 2), none, .mov (.c (.p (.bool false)))⟩])
  (.ret))
  (.skip)))
 (.seq (.reg [⟨(some 8), none, .mov (.c (.p (.int .i64 1)))⟩])
 (.seq (.reg [⟨(some 43), none, .mov (.t 6)⟩,
   ⟨(some 44), none, .mov (.t 8)⟩,
   ⟨(some 45), none, .call n_laws_markStringS [(.t 43), (.t 44)]⟩,
   ⟨(some 8), none, .mov (.t 45)⟩])
 (.seq (.reg [⟨(some 9), none, .mov (.c (.p (.int .i64 1)))⟩])
 (.seq (.reg [⟨(some 46), none, .mov (.t 6)⟩,
   ⟨(some 47), none, .mov (.t 9)⟩,
   ⟨(some 48), none, .call n_laws_heldStringS [(.t 46), (.t 47)]⟩,
   ⟨(some 9), none, .mov (.t 48)⟩])
 (.seq (.seq (.reg [⟨(some 49), none, .mov (.t 9)⟩,
   ⟨(some 50), none, .bin .lss (.t 49) (.c (.p (.int .i64 0)))⟩])
 (.cond (.t 50)
  (.seq (.reg [⟨(some 2), none, .mov (.c (.p (.bool false)))⟩])
  (.ret))
  (.skip)))
 (.seq (.seq (.reg [⟨(some 51), none, .mov (.t 9)⟩,
   ⟨(some 52), none, .mov (.t 8)⟩,
   ⟨(some 53), none, .bin .neq (.t 51) (.t 52)⟩])
 (.cond (.t 53)
  (.seq (.reg [⟨(some 2), none, .mov (.c (.p (.bool false)))⟩])
  (.ret))
  (.skip)))
 (.seq (.reg [⟨(some 54), none, .ld (some 6) (.t 1)⟩,
   ⟨(some 55), none, .call n_laws_toObject [(.t 54)]⟩,
   ⟨(some 56), none, .call n_impl_ObjectCalls [(.t 55)]⟩,
   ⟨(some 10), none, .mov (.t 56)⟩])
 (.seq (.seq (.reg [⟨(some 57), none, .mov (.t 10)⟩,
   ⟨(some 58), none, .mov (.t 4)⟩,
   ⟨(some 59), none, .call n_laws_eqStringS [(.t 57), (.t 58)]⟩,
   ⟨(some 60), none, .not (.t 59)⟩])
 (.cond (.t 60)
  (.seq (.reg [⟨(some 2), none, .mov (.c (.p (.bool false)))⟩])
  (.ret))
  (.skip)))
 (.seq (.reg [⟨(some 9), none, .mov (.c (.p (.int .i64 1)))⟩])
 (.seq (.reg [⟨(some 61), none, .mov (.t 6)⟩,
   ⟨(some 62), none, .mov (.t 9)⟩,
   ⟨(some 63), none, .call n_laws_heldStringS [(.t 61), (.t 62)]⟩,
   ⟨(some 9), none, .mov (.t 63)⟩])
 (.seq (.seq (.reg [⟨(some 64), none, .mov (.t 9)⟩,
   ⟨(some 65), none, .bin .lss (.t 64) (.c (.p (.int .i64 0)))⟩])
 (.cond (.t 65)
  (.seq (.reg [⟨(some 2), none, .mov (.c (.p (.bool false)))⟩])
  (.ret))
  (.skip)))
 (.seq (.seq (.reg [⟨(some 66), none, .mov (.t 9)⟩,
   ⟨(some 67), none, .mov (.t 8)⟩,
   ⟨(some 68), none, .bin .neq (.t 66) (.t 67)⟩])
 (.cond (.t 68)
  (.seq (.reg [⟨(some 2), none, .mov (.c (.p (.bool false)))⟩])
  (.ret))
  (.skip)))
 (.seq (.reg [⟨(some 2), none, .mov (.c (.p (.bool true)))⟩])
 (.ret)))))))))))))))))))))))))⟩
theorem k_laws_FnExactObjectCalls : compF Tryd.prog n_laws_FnExactObjectCalls = some F_laws_FnExactObjectCalls := by kernel_rfl
end Go.Proofs.YtbbobekgnclkfaaDoor
