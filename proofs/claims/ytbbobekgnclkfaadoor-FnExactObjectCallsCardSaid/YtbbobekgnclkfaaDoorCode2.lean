/-
  The compiled texts of functions, printed by a program.
-/
import Derived.Test.YtbbobekgnclkfaaDoorCode1
namespace Go.Proofs.YtbbobekgnclkfaaDoor
open Go Go.Aw
set_option maxRecDepth 100000
abbrev n_laws_toByteS : FuncId := 19
abbrev n_spec_l25One : FuncId := 98
abbrev n_spec_l10At : FuncId := 99
abbrev n_spec_DecodeFn : FuncId := 49
abbrev n_spec_ReadImage : FuncId := 18
abbrev n_bytes_Equal : FuncId := 52
abbrev n_bytes_HasPrefix : FuncId := 100
abbrev n_impl_sections : FuncId := 50
abbrev n_impl_mapped_int : FuncId := 128
abbrev n_impl_decoded_1 : FuncId := 129
abbrev n_impl_decoded : FuncId := 101
abbrev n_impl_DecodeFn : FuncId := 51
abbrev n_impl_ReadImage : FuncId := 20
abbrev n_laws_heldMinsS : FuncId := 102
abbrev n_laws_heldMfnS : FuncId := 53
abbrev n_laws_heldMach : FuncId := 21
abbrev n_laws_FnExactReadImage : FuncId := 4
def F_laws_toByteS : FK := ⟨22, [.t 2],
 .seq (.reg [⟨(some 2), none, .mov (.c .nils)⟩])
 (.seq (.reg [⟨(some 5), none, .mov (.t 0)⟩,
   ⟨(some 6), none, .len false (.t 5)⟩,
   ⟨(some 7), none, .mks 1 1 [(.p (.int .u8 0))] (.t 6) (.t 6)⟩,
   ⟨(some 3), none, .mov (.t 7)⟩])
 (.seq (.seq (.reg [⟨(some 4), none, .mov (.c (.p (.int .i64 0)))⟩])
 (.blk 0 (.loop (.seq (.seq (.reg [⟨(some 8), none, .mov (.t 4)⟩,
   ⟨(some 9), none, .mov (.t 0)⟩,
   ⟨(some 10), none, .len false (.t 9)⟩,
   ⟨(some 11), none, .bin .lss (.t 8) (.t 10)⟩])
 (.cond (.t 11)
  (.skip)
  (.exit 0)))
 (.seq (.blk 1 (.reg [⟨(some 14), none, .mov (.t 3)⟩,
   ⟨(some 15), none, .mov (.t 4)⟩,
   ⟨(some 16), none, .mov (.t 0)⟩,
   ⟨(some 17), none, .mov (.t 4)⟩,
   ⟨(some 18), none, .idxS 1 (.t 16) (.t 17)⟩,
   ⟨(some 19), none, .ld none (.t 18)⟩,
   ⟨(some 20), none, .idxS 1 (.t 14) (.t 15)⟩,
   ⟨none, none, .st 1 (.t 20) (.t 19)⟩]))
 (.reg [⟨(some 12), none, .mov (.t 4)⟩,
   ⟨(some 13), none, .bin .add (.t 12) (.c (.p (.int .i64 1)))⟩,
   ⟨(some 4), none, .mov (.t 13)⟩]))))))
 (.seq (.reg [⟨(some 21), none, .mov (.t 3)⟩,
   ⟨(some 2), none, .mov (.t 21)⟩])
 (.ret))))⟩
theorem k_laws_toByteS : compF Tryd.prog n_laws_toByteS = some F_laws_toByteS := by kernel_rfl

def F_spec_l25One : FK := ⟨204, [.c 4 (some 5), .t 5, .t 6],
 .seq (.reg [⟨(some 4), none, .alloc [(.p (.int .i64 0)), (.p (.int .i64 0)), (.p (.int .i64 0)), (.p (.int .i64 0)), (.p (.int .i64 0))]⟩,
   ⟨(some 5), none, .mov (.c (.p (.int .i64 0)))⟩,
   ⟨(some 6), none, .mov (.c (.p (.bool false)))⟩])
 (.seq (.reg [⟨(some 12), none, .mov (.t 0)⟩,
   ⟨(some 13), none, .mov (.t 1)⟩,
   ⟨(some 14), none, .idxS 1 (.t 12) (.t 13)⟩,
   ⟨(some 15), none, .ld none (.t 14)⟩,
   ⟨(some 16), none, .bin .geq (.t 15) (.c (.p (.int .u8 128)))⟩,
   ⟨(some 7), none, .mov (.t 16)⟩])
 (.seq (.reg [⟨(some 17), none, .mov (.t 0)⟩,
   ⟨(some 18), none, .mov (.t 1)⟩,
   ⟨(some 19), none, .idxS 1 (.t 17) (.t 18)⟩,
   ⟨(some 20), none, .ld none (.t 19)⟩,
   ⟨(some 21), none, .bin .rem (.t 20) (.c (.p (.int .u8 128)))⟩,
   ⟨(some 22), none, .conv .i64 (.t 21)⟩,
   ⟨(some 23), none, .bld [(.p (.int .i64 0)), (.p (.int .i64 0)), (.p (.int .i64 0)), (.p (.int .i64 0)), (.p (.int .i64 0))] [(0, 1, (.t 22))]⟩,
   ⟨(some 8), none, .alloc [(.p (.int .i64 0)), (.p (.int .i64 0)), (.p (.int .i64 0)), (.p (.int .i64 0)), (.p (.int .i64 0))]⟩,
   ⟨none, none, .st 5 (.t 8) (.t 23)⟩])
 (.seq (.reg [⟨(some 9), none, .mov (.c (.p (.int .i64 0)))⟩])
 (.seq (.seq (.reg [⟨(some 25), none, .fldA 0 (.t 8)⟩,
   ⟨(some 26), none, .ld none (.t 25)⟩,
   ⟨(some 27), none, .call n_spec_l22Word [(.t 26)]⟩,
   ⟨(some 24), none, .mov (.t 27)⟩,
   ⟨(some 28), none, .ext 0 (.t 24)⟩,
   ⟨(some 29), none, .ext 1 (.t 24)⟩,
   ⟨(some 10), none, .mov (.t 28)⟩,
   ⟨(some 11), none, .mov (.t 29)⟩])
 (.seq (.reg [⟨(some 30), none, .mov (.t 11)⟩,
   ⟨(some 31), none, .bins .eql (.t 30) (.c (.p (.str [])))⟩,
   ⟨(some 32), none, .mov (.t 31)⟩,
   ⟨(some 33), (some (32, false)), .mov (.t 7)⟩,
   ⟨(some 34), (some (32, false)), .mov (.t 33)⟩,
   ⟨(some 35), (some (34, true)), .ld (some 5) (.t 8)⟩,
   ⟨(some 36), (some (34, true)), .call n_spec_l24Jumps [(.t 35)]⟩,
   ⟨(some 37), (some (34, true)), .not (.t 36)⟩,
   ⟨(some 38), (some (32, false)), .pick (.t 34) (.t 37) (.c (.p (.bool false)))⟩,
   ⟨(some 39), none, .pick (.t 32) (.c (.p (.bool true))) (.t 38)⟩])
 (.cond (.t 39)
  (.seq (.reg [⟨(some 40), none, .ld (some 5) (.t 8)⟩,
    ⟨none, none, .st 5 (.t 4) (.t 40)⟩,
    ⟨(some 5), none, .mov (.c (.p (.int .i64 0)))⟩,
    ⟨(some 6), none, .mov (.c (.p (.bool false)))⟩])
  (.ret))
  (.skip))))
 (.seq (.reg [⟨(some 41), none, .ld (some 5) (.t 8)⟩,
   ⟨(some 42), none, .mov (.t 7)⟩,
   ⟨(some 43), none, .call n_spec_l25Size [(.t 41), (.t 42)]⟩,
   ⟨(some 9), none, .mov (.t 43)⟩])
 (.seq (.seq (.reg [⟨(some 44), none, .mov (.t 1)⟩,
   ⟨(some 45), none, .mov (.t 9)⟩,
   ⟨(some 46), none, .bin .add (.t 44) (.t 45)⟩,
   ⟨(some 47), none, .mov (.t 0)⟩,
   ⟨(some 48), none, .len false (.t 47)⟩,
   ⟨(some 49), none, .bin .gtr (.t 46) (.t 48)⟩])
 (.cond (.t 49)
  (.seq (.reg [⟨(some 50), none, .ld (some 5) (.t 8)⟩,
    ⟨none, none, .st 5 (.t 4) (.t 50)⟩,
    ⟨(some 5), none, .mov (.c (.p (.int .i64 0)))⟩,
    ⟨(some 6), none, .mov (.c (.p (.bool false)))⟩])
  (.ret))
  (.skip)))
 (.seq (.blk 0 (.seq (.reg [⟨(some 59), none, .ld (some 5) (.t 8)⟩,
   ⟨(some 60), none, .call n_spec_l24Jumps [(.t 59)]⟩,
   ⟨(some 58), none, .mov (.t 60)⟩])
 (.cond (.t 58)
  (.seq (.seq (.reg [⟨(some 61), none, .fldA 0 (.t 8)⟩,
    ⟨(some 62), none, .ld none (.t 61)⟩,
    ⟨(some 63), none, .bin .eql (.t 62) (.c (.p (.int .i64 21)))⟩])
  (.cond (.t 63)
   (.reg [⟨(some 64), none, .mov (.t 0)⟩,
     ⟨(some 65), none, .mov (.t 1)⟩,
     ⟨(some 66), none, .bin .add (.t 65) (.c (.p (.int .i64 1)))⟩,
     ⟨(some 67), none, .idxS 1 (.t 64) (.t 66)⟩,
     ⟨(some 68), none, .ld none (.t 67)⟩,
     ⟨(some 69), none, .conv .i64 (.t 68)⟩,
     ⟨(some 70), none, .fldA 1 (.t 8)⟩,
     ⟨none, none, .st 1 (.t 70) (.t 69)⟩])
   (.skip)))
  (.seq (.reg [⟨(some 71), none, .mov (.t 7)⟩])
  (.cond (.t 71)
   (.reg [⟨(some 72), none, .mov (.t 0)⟩,
     ⟨(some 73), none, .mov (.t 1)⟩,
     ⟨(some 74), none, .mov (.t 9)⟩,
     ⟨(some 75), none, .bin .add (.t 73) (.t 74)⟩,
     ⟨(some 76), none, .bin .sub (.t 75) (.c (.p (.int .i64 2)))⟩,
     ⟨(some 77), none, .idxS 1 (.t 72) (.t 76)⟩,
     ⟨(some 80), none, .mov (.t 0)⟩,
     ⟨(some 81), none, .mov (.t 1)⟩,
     ⟨(some 82), none, .mov (.t 9)⟩,
     ⟨(some 83), none, .bin .add (.t 81) (.t 82)⟩,
     ⟨(some 84), none, .bin .sub (.t 83) (.c (.p (.int .i64 1)))⟩,
     ⟨(some 85), none, .idxS 1 (.t 80) (.t 84)⟩,
     ⟨(some 78), none, .ld none (.t 77)⟩,
     ⟨(some 79), none, .conv .i64 (.t 78)⟩,
     ⟨(some 86), none, .ld none (.t 85)⟩,
     ⟨(some 87), none, .conv .i64 (.t 86)⟩,
     ⟨(some 88), none, .bin .mul (.c (.p (.int .i64 256))) (.t 87)⟩,
     ⟨(some 89), none, .bin .add (.t 79) (.t 88)⟩,
     ⟨(some 90), none, .fldA 4 (.t 8)⟩,
     ⟨none, none, .st 1 (.t 90) (.t 89)⟩])
   (.reg [⟨(some 91), none, .mov (.t 1)⟩,
     ⟨(some 92), none, .mov (.t 9)⟩,
     ⟨(some 93), none, .bin .add (.t 91) (.t 92)⟩,
     ⟨(some 94), none, .mov (.t 0)⟩,
     ⟨(some 95), none, .mov (.t 1)⟩,
     ⟨(some 96), none, .mov (.t 9)⟩,
     ⟨(some 97), none, .bin .add (.t 95) (.t 96)⟩,
     ⟨(some 98), none, .bin .sub (.t 97) (.c (.p (.int .i64 1)))⟩,
     ⟨(some 99), none, .idxS 1 (.t 94) (.t 98)⟩,
     ⟨(some 103), none, .mov (.t 0)⟩,
     ⟨(some 104), none, .mov (.t 1)⟩,
     ⟨(some 105), none, .mov (.t 9)⟩,
     ⟨(some 106), none, .bin .add (.t 104) (.t 105)⟩,
     ⟨(some 107), none, .bin .sub (.t 106) (.c (.p (.int .i64 1)))⟩,
     ⟨(some 108), none, .idxS 1 (.t 103) (.t 107)⟩,
     ⟨(some 100), none, .ld none (.t 99)⟩,
     ⟨(some 101), none, .conv .i64 (.t 100)⟩,
     ⟨(some 102), none, .bin .add (.t 93) (.t 101)⟩,
     ⟨(some 109), none, .ld none (.t 108)⟩,
     ⟨(some 110), none, .conv .i64 (.t 109)⟩,
     ⟨(some 111), none, .bin .gtr (.t 110) (.c (.p (.int .i64 127)))⟩,
     ⟨(some 112), none, .call n_spec_l5Truth [(.t 111)]⟩,
     ⟨none, none, .chk none 99 100⟩,
     ⟨(some 113), none, .bin .mul (.c (.p (.int .i64 256))) (.t 112)⟩,
     ⟨(some 114), none, .bin .sub (.t 102) (.t 113)⟩,
     ⟨(some 115), none, .fldA 4 (.t 8)⟩,
     ⟨none, none, .st 1 (.t 115) (.t 114)⟩]))))
  (.seq (.reg [⟨(some 117), none, .fldA 0 (.t 8)⟩,
    ⟨(some 118), none, .ld none (.t 117)⟩,
    ⟨(some 119), none, .bin .eql (.t 118) (.c (.p (.int .i64 1)))⟩,
    ⟨(some 120), none, .mov (.t 119)⟩,
    ⟨(some 121), (some (120, false)), .fldA 0 (.t 8)⟩,
    ⟨(some 122), (some (120, false)), .ld none (.t 121)⟩,
    ⟨(some 123), (some (120, false)), .call n_spec_l1In [(.t 122), (.c (.p (.int .i64 15))), (.c (.p (.int .i64 18)))]⟩,
    ⟨(some 124), none, .pick (.t 120) (.c (.p (.bool true))) (.t 123)⟩,
    ⟨(some 116), none, .mov (.t 124)⟩])
  (.cond (.t 116)
   (.seq (.reg [⟨(some 125), none, .mov (.t 0)⟩,
     ⟨(some 126), none, .mov (.t 1)⟩,
     ⟨(some 127), none, .bin .add (.t 126) (.c (.p (.int .i64 1)))⟩,
     ⟨(some 128), none, .idxS 1 (.t 125) (.t 127)⟩,
     ⟨(some 129), none, .ld none (.t 128)⟩,
     ⟨(some 130), none, .conv .i64 (.t 129)⟩,
     ⟨(some 131), none, .fldA 1 (.t 8)⟩,
     ⟨none, none, .st 1 (.t 131) (.t 130)⟩])
   (.reg [⟨(some 132), none, .mov (.t 0)⟩,
     ⟨(some 133), none, .mov (.t 1)⟩,
     ⟨(some 134), none, .bin .add (.t 133) (.c (.p (.int .i64 2)))⟩,
     ⟨(some 135), none, .idxS 1 (.t 132) (.t 134)⟩,
     ⟨(some 136), none, .ld none (.t 135)⟩,
     ⟨(some 137), none, .conv .i64 (.t 136)⟩,
     ⟨(some 138), none, .fldA 4 (.t 8)⟩,
     ⟨none, none, .st 1 (.t 138) (.t 137)⟩]))
   (.seq (.reg [⟨(some 140), none, .fldA 0 (.t 8)⟩,
     ⟨(some 141), none, .ld none (.t 140)⟩,
     ⟨(some 142), none, .call n_spec_l1In [(.t 141), (.c (.p (.int .i64 3))), (.c (.p (.int .i64 9)))]⟩,
     ⟨(some 139), none, .mov (.t 142)⟩])
   (.cond (.t 139)
    (.seq (.reg [⟨(some 143), none, .mov (.t 0)⟩,
      ⟨(some 144), none, .mov (.t 1)⟩,
      ⟨(some 145), none, .bin .add (.t 144) (.c (.p (.int .i64 1)))⟩,
      ⟨(some 146), none, .idxS 1 (.t 143) (.t 145)⟩,
      ⟨(some 147), none, .ld none (.t 146)⟩,
      ⟨(some 148), none, .conv .i64 (.t 147)⟩,
      ⟨(some 149), none, .bin .rem (.t 148) (.c (.p (.int .i64 8)))⟩,
      ⟨(some 150), none, .fldA 1 (.t 8)⟩,
      ⟨none, none, .st 1 (.t 150) (.t 149)⟩])
    (.seq (.reg [⟨(some 151), none, .mov (.t 0)⟩,
      ⟨(some 152), none, .mov (.t 1)⟩,
      ⟨(some 153), none, .bin .add (.t 152) (.c (.p (.int .i64 1)))⟩,
      ⟨(some 154), none, .idxS 1 (.t 151) (.t 153)⟩,
      ⟨(some 155), none, .ld none (.t 154)⟩,
      ⟨(some 156), none, .conv .i64 (.t 155)⟩,
      ⟨(some 157), none, .bin .quo (.t 156) (.c (.p (.int .i64 8)))⟩,
      ⟨(some 158), none, .fldA 2 (.t 8)⟩,
      ⟨none, none, .st 1 (.t 158) (.t 157)⟩])
    (.reg [⟨(some 159), none, .mov (.t 0)⟩,
      ⟨(some 160), none, .mov (.t 1)⟩,
      ⟨(some 161), none, .bin .add (.t 160) (.c (.p (.int .i64 2)))⟩,
      ⟨(some 162), none, .idxS 1 (.t 159) (.t 161)⟩,
      ⟨(some 163), none, .ld none (.t 162)⟩,
      ⟨(some 164), none, .conv .i64 (.t 163)⟩,
      ⟨(some 165), none, .fldA 3 (.t 8)⟩,
      ⟨none, none, .st 1 (.t 165) (.t 164)⟩])))
    (.seq (.reg [⟨(some 167), none, .fldA 0 (.t 8)⟩,
      ⟨(some 168), none, .ld none (.t 167)⟩,
      ⟨(some 169), none, .bin .eql (.t 168) (.c (.p (.int .i64 2)))⟩,
      ⟨(some 170), none, .mov (.t 169)⟩,
      ⟨(some 171), (some (170, false)), .fldA 0 (.t 8)⟩,
      ⟨(some 172), (some (170, false)), .ld none (.t 171)⟩,
      ⟨(some 173), (some (170, false)), .call n_spec_l1In [(.t 172), (.c (.p (.int .i64 10))), (.c (.p (.int .i64 12)))]⟩,
      ⟨(some 174), none, .pick (.t 170) (.c (.p (.bool true))) (.t 173)⟩,
      ⟨(some 166), none, .mov (.t 174)⟩])
    (.cond (.t 166)
     (.seq (.reg [⟨(some 175), none, .mov (.t 0)⟩,
       ⟨(some 176), none, .mov (.t 1)⟩,
       ⟨(some 177), none, .bin .add (.t 176) (.c (.p (.int .i64 1)))⟩,
       ⟨(some 178), none, .idxS 1 (.t 175) (.t 177)⟩,
       ⟨(some 179), none, .ld none (.t 178)⟩,
       ⟨(some 180), none, .conv .i64 (.t 179)⟩,
       ⟨(some 181), none, .bin .rem (.t 180) (.c (.p (.int .i64 8)))⟩,
       ⟨(some 182), none, .fldA 1 (.t 8)⟩,
       ⟨none, none, .st 1 (.t 182) (.t 181)⟩])
     (.reg [⟨(some 183), none, .mov (.t 0)⟩,
       ⟨(some 184), none, .mov (.t 1)⟩,
       ⟨(some 185), none, .bin .add (.t 184) (.c (.p (.int .i64 1)))⟩,
       ⟨(some 186), none, .idxS 1 (.t 183) (.t 185)⟩,
       ⟨(some 187), none, .ld none (.t 186)⟩,
       ⟨(some 188), none, .conv .i64 (.t 187)⟩,
       ⟨(some 189), none, .bin .quo (.t 188) (.c (.p (.int .i64 8)))⟩,
       ⟨(some 190), none, .fldA 2 (.t 8)⟩,
       ⟨none, none, .st 1 (.t 190) (.t 189)⟩]))
     (.seq (.reg [⟨(some 192), none, .fldA 0 (.t 8)⟩,
       ⟨(some 193), none, .ld none (.t 192)⟩,
       ⟨(some 194), none, .bin .eql (.t 193) (.c (.p (.int .i64 14)))⟩,
       ⟨(some 191), none, .mov (.t 194)⟩])
     (.cond (.t 191)
      (.reg [⟨(some 195), none, .mov (.t 0)⟩,
        ⟨(some 196), none, .mov (.t 1)⟩,
        ⟨(some 197), none, .bin .add (.t 196) (.c (.p (.int .i64 1)))⟩,
        ⟨(some 198), none, .idxS 1 (.t 195) (.t 197)⟩,
        ⟨(some 199), none, .ld none (.t 198)⟩,
        ⟨(some 200), none, .conv .i64 (.t 199)⟩,
        ⟨(some 201), none, .fldA 4 (.t 8)⟩,
        ⟨none, none, .st 1 (.t 201) (.t 200)⟩])
      (.reg [⟨(some 51), none, .mov (.t 0)⟩,
        ⟨(some 52), none, .mov (.t 1)⟩,
        ⟨(some 53), none, .bin .add (.t 52) (.c (.p (.int .i64 1)))⟩,
        ⟨(some 54), none, .idxS 1 (.t 51) (.t 53)⟩,
        ⟨(some 55), none, .ld none (.t 54)⟩,
        ⟨(some 56), none, .conv .i64 (.t 55)⟩,
        ⟨(some 57), none, .fldA 1 (.t 8)⟩,
        ⟨none, none, .st 1 (.t 57) (.t 56)⟩]))))))))))))
 (.seq (.reg [⟨(some 202), none, .ld (some 5) (.t 8)⟩,
   ⟨(some 203), none, .mov (.t 9)⟩,
   ⟨none, none, .st 5 (.t 4) (.t 202)⟩,
   ⟨(some 5), none, .mov (.t 203)⟩,
   ⟨(some 6), none, .mov (.c (.p (.bool true)))⟩])
 (.ret)))))))))⟩
theorem k_spec_l25One : compF Tryd.prog n_spec_l25One = some F_spec_l25One := by kernel_rfl

def F_spec_l10At : FK := ⟨19, [.t 4],
 .seq (.reg [⟨(some 4), none, .mov (.c (.p (.int .i64 0)))⟩])
 (.seq (.seq (.reg [⟨(some 5), none, .mov (.c (.p (.int .i64 0)))⟩])
 (.blk 0 (.loop (.seq (.seq (.reg [⟨(some 6), none, .mov (.t 5)⟩,
   ⟨(some 7), none, .mov (.t 0)⟩,
   ⟨(some 8), none, .len false (.t 7)⟩,
   ⟨(some 9), none, .bin .lss (.t 6) (.t 8)⟩])
 (.cond (.t 9)
  (.skip)
  (.exit 0)))
 (.seq (.blk 1 (.seq (.reg [⟨(some 12), none, .mov (.t 0)⟩,
   ⟨(some 13), none, .mov (.t 5)⟩,
   ⟨(some 14), none, .idxS 1 (.t 12) (.t 13)⟩,
   ⟨(some 15), none, .ld none (.t 14)⟩,
   ⟨(some 16), none, .mov (.t 1)⟩,
   ⟨(some 17), none, .bin .eql (.t 15) (.t 16)⟩])
 (.cond (.t 17)
  (.seq (.reg [⟨(some 18), none, .mov (.t 5)⟩,
    ⟨(some 4), none, .mov (.t 18)⟩])
  (.ret))
  (.skip))))
 (.reg [⟨(some 10), none, .mov (.t 5)⟩,
   ⟨(some 11), none, .bin .add (.t 10) (.c (.p (.int .i64 1)))⟩,
   ⟨(some 5), none, .mov (.t 11)⟩]))))))
 (.seq (.reg [⟨(some 4), none, .mov (.c (.p (.int .i64 (-1))))⟩])
 (.ret)))⟩
theorem k_spec_l10At : compF Tryd.prog n_spec_l10At = some F_spec_l10At := by kernel_rfl

def F_spec_DecodeFn : FK := ⟨95, [.c 6 (some 3), .t 7],
 .seq (.reg [⟨(some 6), none, .alloc [(.p (.int .i64 0)), (.p (.int .i64 0)), .nils]⟩,
   ⟨(some 7), none, .mov (.c (.p (.bool false)))⟩])
 (.seq (.reg [⟨(some 17), none, .mov (.t 0)⟩,
   ⟨(some 18), none, .mov (.t 1)⟩,
   ⟨(some 19), none, .bld [(.p (.int .i64 0)), (.p (.int .i64 0)), .nils] [(0, 1, (.t 17)), (1, 1, (.t 18))]⟩,
   ⟨(some 8), none, .alloc [(.p (.int .i64 0)), (.p (.int .i64 0)), .nils]⟩,
   ⟨none, none, .st 3 (.t 8) (.t 19)⟩])
 (.seq (.reg [⟨(some 20), none, .bsl 1 [(.p (.int .i64 0))] 0 []⟩,
   ⟨(some 9), none, .mov (.t 20)⟩])
 (.seq (.seq (.reg [⟨(some 10), none, .mov (.c (.p (.int .i64 0)))⟩])
 (.blk 0 (.loop (.seq (.seq (.reg [⟨(some 21), none, .mov (.t 10)⟩,
   ⟨(some 22), none, .mov (.t 2)⟩,
   ⟨(some 23), none, .len false (.t 22)⟩,
   ⟨(some 24), none, .bin .lss (.t 21) (.t 23)⟩,
   ⟨(some 25), none, .mov (.t 24)⟩,
   ⟨(some 26), (some (25, true)), .mov (.t 2)⟩,
   ⟨(some 27), (some (25, true)), .len false (.t 26)⟩,
   ⟨(some 28), (some (25, true)), .bin .leq (.t 27) (.c (.p (.int .i64 8000)))⟩,
   ⟨(some 29), none, .pick (.t 25) (.t 28) (.c (.p (.bool false)))⟩])
 (.cond (.t 29)
  (.skip)
  (.exit 0)))
 (.blk 1 (.seq (.reg [⟨(some 31), none, .mov (.t 2)⟩,
   ⟨(some 32), none, .mov (.t 10)⟩,
   ⟨(some 33), none, .call n_spec_l25One [(.t 31), (.t 32)]⟩,
   ⟨(some 30), none, .mov (.t 33)⟩,
   ⟨(some 34), none, .ext 0 (.t 30)⟩,
   ⟨(some 35), none, .ext 1 (.t 30)⟩,
   ⟨(some 36), none, .ext 2 (.t 30)⟩,
   ⟨(some 11), none, .alloc [(.p (.int .i64 0)), (.p (.int .i64 0)), (.p (.int .i64 0)), (.p (.int .i64 0)), (.p (.int .i64 0))]⟩,
   ⟨none, none, .st 5 (.t 11) (.t 34)⟩,
   ⟨(some 12), none, .mov (.t 35)⟩,
   ⟨(some 13), none, .mov (.t 36)⟩])
 (.seq (.seq (.reg [⟨(some 37), none, .mov (.t 13)⟩,
   ⟨(some 38), none, .not (.t 37)⟩])
 (.cond (.t 38)
  (.seq (.reg [⟨(some 39), none, .bld [(.p (.int .i64 0)), (.p (.int .i64 0)), .nils] []⟩,
    ⟨none, none, .st 3 (.t 6) (.t 39)⟩,
    ⟨(some 7), none, .mov (.c (.p (.bool false)))⟩])
  (.ret))
  (.skip)))
 (.seq (.reg [⟨(some 40), none, .fldA 2 (.t 8)⟩,
   ⟨(some 41), none, .ld none (.t 40)⟩,
   ⟨(some 42), none, .ld (some 5) (.t 11)⟩,
   ⟨(some 43), none, .bsl 5 [(.p (.int .i64 0)), (.p (.int .i64 0)), (.p (.int .i64 0)), (.p (.int .i64 0)), (.p (.int .i64 0))] 1 [(0, 5, (.t 42))]⟩,
   ⟨(some 44), none, .app 5 40 (.t 41) (.t 43)⟩,
   ⟨(some 45), none, .fldA 2 (.t 8)⟩,
   ⟨none, none, .st 1 (.t 45) (.t 44)⟩])
 (.seq (.reg [⟨(some 46), none, .mov (.t 9)⟩,
   ⟨(some 47), none, .mov (.t 10)⟩,
   ⟨(some 48), none, .bsl 1 [(.p (.int .i64 0))] 1 [(0, 1, (.t 47))]⟩,
   ⟨(some 49), none, .app 1 8 (.t 46) (.t 48)⟩,
   ⟨(some 9), none, .mov (.t 49)⟩])
 (.reg [⟨(some 50), none, .mov (.t 10)⟩,
   ⟨(some 51), none, .mov (.t 12)⟩,
   ⟨(some 52), none, .bin .add (.t 50) (.t 51)⟩,
   ⟨(some 10), none, .mov (.t 52)⟩]))))))))))
 (.seq (.seq (.reg [⟨(some 14), none, .mov (.c (.p (.int .i64 0)))⟩])
 (.blk 2 (.loop (.seq (.seq (.reg [⟨(some 53), none, .mov (.t 14)⟩,
   ⟨(some 54), none, .fldA 2 (.t 8)⟩,
   ⟨(some 55), none, .ld none (.t 54)⟩,
   ⟨(some 56), none, .len false (.t 55)⟩,
   ⟨(some 57), none, .bin .lss (.t 53) (.t 56)⟩])
 (.cond (.t 57)
  (.skip)
  (.exit 2)))
 (.seq (.blk 3 (.seq (.reg [⟨(some 60), none, .fldA 2 (.t 8)⟩,
   ⟨(some 61), none, .ld none (.t 60)⟩,
   ⟨(some 62), none, .mov (.t 14)⟩,
   ⟨(some 63), none, .idxS 5 (.t 61) (.t 62)⟩,
   ⟨(some 64), none, .ld (some 5) (.t 63)⟩,
   ⟨(some 65), none, .call n_spec_l24Jumps [(.t 64)]⟩])
 (.cond (.t 65)
  (.reg [⟨(some 66), none, .fldA 2 (.t 8)⟩,
    ⟨(some 68), none, .mov (.t 14)⟩,
    ⟨(some 69), none, .mov (.t 9)⟩,
    ⟨(some 70), none, .fldA 2 (.t 8)⟩,
    ⟨(some 72), none, .mov (.t 14)⟩,
    ⟨(some 67), none, .ld none (.t 66)⟩,
    ⟨(some 71), none, .ld none (.t 70)⟩,
    ⟨(some 73), none, .idxS 5 (.t 71) (.t 72)⟩,
    ⟨(some 74), none, .fldA 4 (.t 73)⟩,
    ⟨(some 75), none, .ld none (.t 74)⟩,
    ⟨(some 76), none, .call n_spec_l10At [(.t 69), (.t 75)]⟩,
    ⟨none, none, .chk none 66 67⟩,
    ⟨(some 77), none, .idxS 5 (.t 67) (.t 68)⟩,
    ⟨(some 78), none, .fldA 4 (.t 77)⟩,
    ⟨none, none, .st 1 (.t 78) (.t 76)⟩])
  (.skip))))
 (.reg [⟨(some 58), none, .mov (.t 14)⟩,
   ⟨(some 59), none, .bin .add (.t 58) (.c (.p (.int .i64 1)))⟩,
   ⟨(some 14), none, .mov (.t 59)⟩]))))))
 (.seq (.reg [⟨(some 80), none, .ld (some 3) (.t 8)⟩,
   ⟨(some 81), none, .call n_spec_EncodeFn [(.t 80)]⟩,
   ⟨(some 79), none, .mov (.t 81)⟩,
   ⟨(some 82), none, .ext 0 (.t 79)⟩,
   ⟨(some 83), none, .ext 1 (.t 79)⟩,
   ⟨(some 15), none, .mov (.t 82)⟩,
   ⟨(some 16), none, .mov (.t 83)⟩])
 (.seq (.seq (.reg [⟨(some 84), none, .mov (.t 16)⟩,
   ⟨(some 85), none, .not (.t 84)⟩,
   ⟨(some 86), none, .mov (.t 85)⟩,
   ⟨(some 87), (some (86, false)), .mov (.t 15)⟩,
   ⟨(some 88), (some (86, false)), .btos (.t 87)⟩,
   ⟨(some 89), (some (86, false)), .mov (.t 2)⟩,
   ⟨(some 90), (some (86, false)), .btos (.t 89)⟩,
   ⟨(some 91), (some (86, false)), .bins .neq (.t 88) (.t 90)⟩,
   ⟨(some 92), none, .pick (.t 86) (.c (.p (.bool true))) (.t 91)⟩])
 (.cond (.t 92)
  (.seq (.reg [⟨(some 93), none, .bld [(.p (.int .i64 0)), (.p (.int .i64 0)), .nils] []⟩,
    ⟨none, none, .st 3 (.t 6) (.t 93)⟩,
    ⟨(some 7), none, .mov (.c (.p (.bool false)))⟩])
  (.ret))
  (.skip)))
 (.seq (.reg [⟨(some 94), none, .ld (some 3) (.t 8)⟩,
   ⟨none, none, .st 3 (.t 6) (.t 94)⟩,
   ⟨(some 7), none, .mov (.c (.p (.bool true)))⟩])
 (.ret))))))))⟩
theorem k_spec_DecodeFn : compF Tryd.prog n_spec_DecodeFn = some F_spec_DecodeFn := by kernel_rfl

def F_spec_ReadImage : FK := ⟨110, [.c 2 (some 1), .t 3],
 .seq (.reg [⟨(some 2), none, .alloc [.nils]⟩,
   ⟨(some 3), none, .mov (.c (.p (.bool false)))⟩])
 (.seq (.seq (.reg [⟨(some 10), none, .mov (.t 0)⟩,
   ⟨(some 11), none, .len false (.t 10)⟩,
   ⟨(some 12), none, .bin .lss (.t 11) (.c (.p (.int .i64 3)))⟩,
   ⟨(some 13), none, .mov (.t 12)⟩,
   ⟨(some 14), (some (13, false)), .mov (.t 0)⟩,
   ⟨(some 15), (some (13, false)), .idxS 1 (.t 14) (.c (.p (.int .i64 0)))⟩,
   ⟨(some 16), (some (13, false)), .ld none (.t 15)⟩,
   ⟨(some 17), (some (13, false)), .bin .neq (.t 16) (.c (.p (.int .u8 87)))⟩,
   ⟨(some 18), none, .pick (.t 13) (.c (.p (.bool true))) (.t 17)⟩,
   ⟨(some 19), none, .mov (.t 18)⟩,
   ⟨(some 20), (some (19, false)), .mov (.t 0)⟩,
   ⟨(some 21), (some (19, false)), .idxS 1 (.t 20) (.c (.p (.int .i64 1)))⟩,
   ⟨(some 22), (some (19, false)), .ld none (.t 21)⟩,
   ⟨(some 23), (some (19, false)), .bin .neq (.t 22) (.c (.p (.int .u8 119)))⟩,
   ⟨(some 24), none, .pick (.t 19) (.c (.p (.bool true))) (.t 23)⟩])
 (.cond (.t 24)
  (.seq (.reg [⟨(some 25), none, .bld [.nils] []⟩,
    ⟨none, none, .st 1 (.t 2) (.t 25)⟩,
    ⟨(some 3), none, .mov (.c (.p (.bool false)))⟩])
  (.ret))
  (.skip)))
 (.seq (.reg [⟨(some 26), none, .bld [.nils] []⟩,
   ⟨(some 4), none, .alloc [.nils]⟩,
   ⟨none, none, .st 1 (.t 4) (.t 26)⟩])
 (.seq (.reg [⟨(some 5), none, .mov (.c (.p (.int .i64 3)))⟩])
 (.seq (.seq (.reg [⟨(some 6), none, .mov (.c (.p (.int .i64 0)))⟩])
 (.blk 0 (.loop (.seq (.seq (.reg [⟨(some 27), none, .mov (.t 6)⟩,
   ⟨(some 28), none, .mov (.t 0)⟩,
   ⟨(some 29), none, .idxS 1 (.t 28) (.c (.p (.int .i64 2)))⟩,
   ⟨(some 30), none, .ld none (.t 29)⟩,
   ⟨(some 31), none, .conv .i64 (.t 30)⟩,
   ⟨(some 32), none, .bin .lss (.t 27) (.t 31)⟩])
 (.cond (.t 32)
  (.skip)
  (.exit 0)))
 (.seq (.blk 1 (.seq (.seq (.reg [⟨(some 35), none, .mov (.t 5)⟩,
   ⟨(some 36), none, .bin .add (.t 35) (.c (.p (.int .i64 4)))⟩,
   ⟨(some 37), none, .mov (.t 0)⟩,
   ⟨(some 38), none, .len false (.t 37)⟩,
   ⟨(some 39), none, .bin .gtr (.t 36) (.t 38)⟩])
 (.cond (.t 39)
  (.seq (.reg [⟨(some 40), none, .bld [.nils] []⟩,
    ⟨none, none, .st 1 (.t 2) (.t 40)⟩,
    ⟨(some 3), none, .mov (.c (.p (.bool false)))⟩])
  (.ret))
  (.skip)))
 (.seq (.reg [⟨(some 41), none, .mov (.t 0)⟩,
   ⟨(some 42), none, .mov (.t 5)⟩,
   ⟨(some 43), none, .bin .add (.t 42) (.c (.p (.int .i64 2)))⟩,
   ⟨(some 44), none, .idxS 1 (.t 41) (.t 43)⟩,
   ⟨(some 47), none, .mov (.t 0)⟩,
   ⟨(some 48), none, .mov (.t 5)⟩,
   ⟨(some 49), none, .bin .add (.t 48) (.c (.p (.int .i64 3)))⟩,
   ⟨(some 50), none, .idxS 1 (.t 47) (.t 49)⟩,
   ⟨(some 45), none, .ld none (.t 44)⟩,
   ⟨(some 46), none, .conv .i64 (.t 45)⟩,
   ⟨(some 51), none, .ld none (.t 50)⟩,
   ⟨(some 52), none, .conv .i64 (.t 51)⟩,
   ⟨(some 53), none, .bin .mul (.c (.p (.int .i64 256))) (.t 52)⟩,
   ⟨(some 54), none, .bin .add (.t 46) (.t 53)⟩,
   ⟨(some 7), none, .mov (.t 54)⟩])
 (.seq (.seq (.reg [⟨(some 55), none, .mov (.t 5)⟩,
   ⟨(some 56), none, .bin .add (.t 55) (.c (.p (.int .i64 4)))⟩,
   ⟨(some 57), none, .mov (.t 7)⟩,
   ⟨(some 58), none, .bin .add (.t 56) (.t 57)⟩,
   ⟨(some 59), none, .mov (.t 0)⟩,
   ⟨(some 60), none, .len false (.t 59)⟩,
   ⟨(some 61), none, .bin .gtr (.t 58) (.t 60)⟩])
 (.cond (.t 61)
  (.seq (.reg [⟨(some 62), none, .bld [.nils] []⟩,
    ⟨none, none, .st 1 (.t 2) (.t 62)⟩,
    ⟨(some 3), none, .mov (.c (.p (.bool false)))⟩])
  (.ret))
  (.skip)))
 (.seq (.reg [⟨(some 8), none, .mov (.c .any)⟩,
   ⟨(some 64), none, .mov (.t 0)⟩,
   ⟨(some 65), none, .mov (.t 5)⟩,
   ⟨(some 66), none, .idxS 1 (.t 64) (.t 65)⟩,
   ⟨(some 69), none, .mov (.t 0)⟩,
   ⟨(some 70), none, .mov (.t 5)⟩,
   ⟨(some 71), none, .bin .add (.t 70) (.c (.p (.int .i64 1)))⟩,
   ⟨(some 72), none, .idxS 1 (.t 69) (.t 71)⟩,
   ⟨(some 75), none, .mov (.t 0)⟩,
   ⟨(some 76), none, .mov (.t 5)⟩,
   ⟨(some 77), none, .bin .add (.t 76) (.c (.p (.int .i64 4)))⟩,
   ⟨(some 78), none, .mov (.t 5)⟩,
   ⟨(some 79), none, .bin .add (.t 78) (.c (.p (.int .i64 4)))⟩,
   ⟨(some 80), none, .mov (.t 7)⟩,
   ⟨(some 81), none, .bin .add (.t 79) (.t 80)⟩,
   ⟨(some 82), none, .slS 1 (.t 75) (some (.t 77)) (some (.t 81))⟩,
   ⟨(some 67), none, .ld none (.t 66)⟩,
   ⟨(some 68), none, .conv .i64 (.t 67)⟩,
   ⟨(some 73), none, .ld none (.t 72)⟩,
   ⟨(some 74), none, .conv .i64 (.t 73)⟩,
   ⟨(some 83), none, .call n_spec_DecodeFn [(.t 68), (.t 74), (.t 82)]⟩,
   ⟨(some 63), none, .mov (.t 83)⟩,
   ⟨(some 84), none, .ext 0 (.t 63)⟩,
   ⟨(some 85), none, .ext 1 (.t 63)⟩,
   ⟨(some 8), none, .alloc [(.p (.int .i64 0)), (.p (.int .i64 0)), .nils]⟩,
   ⟨none, none, .st 3 (.t 8) (.t 84)⟩,
   ⟨(some 9), none, .mov (.t 85)⟩])
 (.seq (.seq (.reg [⟨(some 86), none, .mov (.t 9)⟩,
   ⟨(some 87), none, .not (.t 86)⟩])
 (.cond (.t 87)
  (.seq (.reg [⟨(some 88), none, .bld [.nils] []⟩,
    ⟨none, none, .st 1 (.t 2) (.t 88)⟩,
    ⟨(some 3), none, .mov (.c (.p (.bool false)))⟩])
  (.ret))
  (.skip)))
 (.seq (.reg [⟨(some 89), none, .fldA 0 (.t 4)⟩,
   ⟨(some 90), none, .ld none (.t 89)⟩,
   ⟨(some 91), none, .ld (some 3) (.t 8)⟩,
   ⟨(some 92), none, .bsl 3 [(.p (.int .i64 0)), (.p (.int .i64 0)), .nils] 1 [(0, 3, (.t 91))]⟩,
   ⟨(some 93), none, .app 3 40 (.t 90) (.t 92)⟩,
   ⟨(some 94), none, .fldA 0 (.t 4)⟩,
   ⟨none, none, .st 1 (.t 94) (.t 93)⟩])
 (.reg [⟨(some 95), none, .mov (.t 5)⟩,
   ⟨(some 96), none, .bin .add (.t 95) (.c (.p (.int .i64 4)))⟩,
   ⟨(some 97), none, .mov (.t 7)⟩,
   ⟨(some 98), none, .bin .add (.t 96) (.t 97)⟩,
   ⟨(some 5), none, .mov (.t 98)⟩]))))))))
 (.reg [⟨(some 33), none, .mov (.t 6)⟩,
   ⟨(some 34), none, .bin .add (.t 33) (.c (.p (.int .i64 1)))⟩,
   ⟨(some 6), none, .mov (.t 34)⟩]))))))
 (.seq (.seq (.reg [⟨(some 99), none, .mov (.t 5)⟩,
   ⟨(some 100), none, .mov (.t 0)⟩,
   ⟨(some 101), none, .len false (.t 100)⟩,
   ⟨(some 102), none, .bin .neq (.t 99) (.t 101)⟩,
   ⟨(some 103), none, .mov (.t 102)⟩,
   ⟨(some 104), (some (103, false)), .ld (some 1) (.t 4)⟩,
   ⟨(some 105), (some (103, false)), .call n_spec_MachValid [(.t 104)]⟩,
   ⟨(some 106), (some (103, false)), .not (.t 105)⟩,
   ⟨(some 107), none, .pick (.t 103) (.c (.p (.bool true))) (.t 106)⟩])
 (.cond (.t 107)
  (.seq (.reg [⟨(some 108), none, .bld [.nils] []⟩,
    ⟨none, none, .st 1 (.t 2) (.t 108)⟩,
    ⟨(some 3), none, .mov (.c (.p (.bool false)))⟩])
  (.ret))
  (.skip)))
 (.seq (.reg [⟨(some 109), none, .ld (some 1) (.t 4)⟩,
   ⟨none, none, .st 1 (.t 2) (.t 109)⟩,
   ⟨(some 3), none, .mov (.c (.p (.bool true)))⟩])
 (.ret)))))))⟩
theorem k_spec_ReadImage : compF Tryd.prog n_spec_ReadImage = some F_spec_ReadImage := by kernel_rfl

def F_bytes_Equal : FK := ⟨10, [.t 4],
 .seq (.reg [⟨(some 4), none, .mov (.c (.p (.bool false)))⟩])
 (.seq (.reg [⟨(some 5), none, .mov (.t 0)⟩,
   ⟨(some 6), none, .btos (.t 5)⟩,
   ⟨(some 7), none, .mov (.t 1)⟩,
   ⟨(some 8), none, .btos (.t 7)⟩,
   ⟨(some 9), none, .bins .eql (.t 6) (.t 8)⟩,
   ⟨(some 4), none, .mov (.t 9)⟩])
 (.ret))⟩
theorem k_bytes_Equal : compF Tryd.prog n_bytes_Equal = some F_bytes_Equal := by kernel_rfl

def F_bytes_HasPrefix : FK := ⟨18, [.t 4],
 .seq (.reg [⟨(some 4), none, .mov (.c (.p (.bool false)))⟩])
 (.seq (.reg [⟨(some 5), none, .mov (.t 0)⟩,
   ⟨(some 6), none, .len false (.t 5)⟩,
   ⟨(some 7), none, .mov (.t 1)⟩,
   ⟨(some 8), none, .len false (.t 7)⟩,
   ⟨(some 9), none, .bin .geq (.t 6) (.t 8)⟩,
   ⟨(some 10), none, .mov (.t 9)⟩,
   ⟨(some 11), (some (10, true)), .mov (.t 0)⟩,
   ⟨(some 12), (some (10, true)), .mov (.t 1)⟩,
   ⟨(some 13), (some (10, true)), .len false (.t 12)⟩,
   ⟨(some 14), (some (10, true)), .slS 1 (.t 11) none (some (.t 13))⟩,
   ⟨(some 15), (some (10, true)), .mov (.t 1)⟩,
   ⟨(some 16), (some (10, true)), .call n_bytes_Equal [(.t 14), (.t 15)]⟩,
   ⟨(some 17), none, .pick (.t 10) (.t 16) (.c (.p (.bool false)))⟩,
   ⟨(some 4), none, .mov (.t 17)⟩])
 (.ret))⟩
theorem k_bytes_HasPrefix : compF Tryd.prog n_bytes_HasPrefix = some F_bytes_HasPrefix := by kernel_rfl

def F_impl_sections : FK := ⟨74, [.t 2, .t 3],
 .seq (.reg [⟨(some 2), none, .mov (.c .nils)⟩,
   ⟨(some 3), none, .mov (.c (.p (.bool false)))⟩])
 (.seq (.seq (.reg [⟨(some 7), none, .mov (.t 0)⟩,
   ⟨(some 8), none, .ld none (.c (.gp 0 0))⟩,
   ⟨(some 9), none, .call n_bytes_HasPrefix [(.t 7), (.t 8)]⟩,
   ⟨(some 10), none, .not (.t 9)⟩,
   ⟨(some 11), none, .mov (.t 10)⟩,
   ⟨(some 12), (some (11, false)), .mov (.t 0)⟩,
   ⟨(some 13), (some (11, false)), .len false (.t 12)⟩,
   ⟨(some 14), (some (11, false)), .bin .lss (.t 13) (.c (.p (.int .i64 3)))⟩,
   ⟨(some 15), none, .pick (.t 11) (.c (.p (.bool true))) (.t 14)⟩])
 (.cond (.t 15)
  (.seq (.reg [⟨(some 2), none, .mov (.c .nils)⟩,
    ⟨(some 3), none, .mov (.c (.p (.bool false)))⟩])
  (.ret))
  (.skip)))
 (.seq (.reg [⟨(some 4), none, .mov (.c .nils)⟩])
 (.seq (.reg [⟨(some 5), none, .mov (.c (.p (.int .i64 3)))⟩])
 (.seq (.seq (.reg [⟨(some 16), none, .mov (.t 0)⟩,
   ⟨(some 17), none, .idxS 1 (.t 16) (.c (.p (.int .i64 2)))⟩,
   ⟨(some 18), none, .ld none (.t 17)⟩,
   ⟨(some 19), none, .conv .i64 (.t 18)⟩,
   ⟨(some 20), none, .mov (.c (.p (.int .i64 0)))⟩])
 (.blk 0 (.loop (.seq (.reg [⟨(some 21), none, .bin .lss (.t 20) (.t 19)⟩])
 (.seq (.cond (.t 21)
  (.skip)
  (.exit 0))
 (.seq (.blk 1 (.seq (.seq (.reg [⟨(some 22), none, .mov (.t 0)⟩,
   ⟨(some 23), none, .len false (.t 22)⟩,
   ⟨(some 24), none, .mov (.t 5)⟩,
   ⟨(some 25), none, .bin .add (.t 24) (.c (.p (.int .i64 4)))⟩,
   ⟨(some 26), none, .bin .lss (.t 23) (.t 25)⟩])
 (.cond (.t 26)
  (.seq (.reg [⟨(some 2), none, .mov (.c .nils)⟩,
    ⟨(some 3), none, .mov (.c (.p (.bool false)))⟩])
  (.ret))
  (.skip)))
 (.seq (.reg [⟨(some 6), none, .mov (.c .any)⟩,
   ⟨(some 27), none, .mov (.t 0)⟩,
   ⟨(some 28), none, .mov (.t 5)⟩,
   ⟨(some 29), none, .idxS 1 (.t 27) (.t 28)⟩,
   ⟨(some 32), none, .mov (.t 0)⟩,
   ⟨(some 33), none, .mov (.t 5)⟩,
   ⟨(some 34), none, .bin .add (.t 33) (.c (.p (.int .i64 1)))⟩,
   ⟨(some 35), none, .idxS 1 (.t 32) (.t 34)⟩,
   ⟨(some 38), none, .mov (.t 5)⟩,
   ⟨(some 39), none, .bin .add (.t 38) (.c (.p (.int .i64 4)))⟩,
   ⟨(some 40), none, .mov (.t 0)⟩,
   ⟨(some 41), none, .mov (.t 5)⟩,
   ⟨(some 42), none, .bin .add (.t 41) (.c (.p (.int .i64 2)))⟩,
   ⟨(some 43), none, .idxS 1 (.t 40) (.t 42)⟩,
   ⟨(some 46), none, .mov (.t 0)⟩,
   ⟨(some 47), none, .mov (.t 5)⟩,
   ⟨(some 48), none, .bin .add (.t 47) (.c (.p (.int .i64 3)))⟩,
   ⟨(some 49), none, .idxS 1 (.t 46) (.t 48)⟩,
   ⟨(some 30), none, .ld none (.t 29)⟩,
   ⟨(some 31), none, .conv .i64 (.t 30)⟩,
   ⟨(some 36), none, .ld none (.t 35)⟩,
   ⟨(some 37), none, .conv .i64 (.t 36)⟩,
   ⟨(some 44), none, .ld none (.t 43)⟩,
   ⟨(some 45), none, .conv .i64 (.t 44)⟩,
   ⟨(some 50), none, .ld none (.t 49)⟩,
   ⟨(some 51), none, .conv .i64 (.t 50)⟩,
   ⟨(some 52), none, .bin .mul (.c (.p (.int .i64 256))) (.t 51)⟩,
   ⟨(some 53), none, .bin .add (.t 45) (.t 52)⟩,
   ⟨(some 54), none, .bld [(.p (.int .i64 0)), (.p (.int .i64 0)), (.p (.int .i64 0)), (.p (.int .i64 0))] [(0, 1, (.t 31)), (1, 1, (.t 37)), (2, 1, (.t 39)), (3, 1, (.t 53))]⟩,
   ⟨(some 6), none, .alloc [(.p (.int .i64 0)), (.p (.int .i64 0)), (.p (.int .i64 0)), (.p (.int .i64 0))]⟩,
   ⟨none, none, .st 4 (.t 6) (.t 54)⟩])
 (.seq (.reg [⟨(some 55), none, .fldA 2 (.t 6)⟩,
   ⟨(some 56), none, .ld none (.t 55)⟩,
   ⟨(some 57), none, .fldA 3 (.t 6)⟩,
   ⟨(some 58), none, .ld none (.t 57)⟩,
   ⟨(some 59), none, .bin .add (.t 56) (.t 58)⟩,
   ⟨(some 5), none, .mov (.t 59)⟩])
 (.seq (.seq (.reg [⟨(some 60), none, .mov (.t 0)⟩,
   ⟨(some 61), none, .len false (.t 60)⟩,
   ⟨(some 62), none, .mov (.t 5)⟩,
   ⟨(some 63), none, .bin .lss (.t 61) (.t 62)⟩])
 (.cond (.t 63)
  (.seq (.reg [⟨(some 2), none, .mov (.c .nils)⟩,
    ⟨(some 3), none, .mov (.c (.p (.bool false)))⟩])
  (.ret))
  (.skip)))
 (.reg [⟨(some 64), none, .mov (.t 4)⟩,
   ⟨(some 65), none, .ld (some 4) (.t 6)⟩,
   ⟨(some 66), none, .bsl 4 [(.p (.int .i64 0)), (.p (.int .i64 0)), (.p (.int .i64 0)), (.p (.int .i64 0))] 1 [(0, 4, (.t 65))]⟩,
   ⟨(some 67), none, .app 4 32 (.t 64) (.t 66)⟩,
   ⟨(some 4), none, .mov (.t 67)⟩]))))))
 (.reg [⟨(some 68), none, .bin .add (.t 20) (.c (.p (.int .i64 1)))⟩,
   ⟨(some 20), none, .mov (.t 68)⟩])))))))
 (.seq (.reg [⟨(some 69), none, .mov (.t 4)⟩,
   ⟨(some 70), none, .mov (.t 5)⟩,
   ⟨(some 71), none, .mov (.t 0)⟩,
   ⟨(some 72), none, .len false (.t 71)⟩,
   ⟨(some 73), none, .bin .eql (.t 70) (.t 72)⟩,
   ⟨(some 2), none, .mov (.t 69)⟩,
   ⟨(some 3), none, .mov (.t 73)⟩])
 (.ret))))))⟩
theorem k_impl_sections : compF Tryd.prog n_impl_sections = some F_impl_sections := by kernel_rfl

def F_impl_mapped_int : FK := ⟨22, [.t 4],
 .seq (.reg [⟨(some 4), none, .mov (.c .nils)⟩])
 (.seq (.reg [⟨(some 5), none, .mov (.c .nils)⟩])
 (.seq (.seq (.reg [⟨(some 8), none, .mov (.t 0)⟩,
   ⟨(some 9), none, .len false (.t 8)⟩,
   ⟨(some 10), none, .mov (.c (.p (.int .i64 0)))⟩])
 (.blk 0 (.loop (.seq (.reg [⟨(some 11), none, .bin .lss (.t 10) (.t 9)⟩])
 (.seq (.cond (.t 11)
  (.skip)
  (.exit 0))
 (.seq (.blk 1 (.seq (.reg [⟨(some 12), none, .idxS 1 (.t 8) (.t 10)⟩,
   ⟨(some 13), none, .ld none (.t 12)⟩,
   ⟨(some 7), none, .mov (.t 13)⟩])
 (.reg [⟨(some 14), none, .mov (.t 5)⟩,
   ⟨(some 15), none, .mov (.t 1)⟩,
   ⟨(some 16), none, .mov (.t 7)⟩,
   ⟨(some 17), none, .callv (.t 15) [(.t 16)]⟩,
   ⟨(some 18), none, .bsl 1 [(.p (.int .i64 0))] 1 [(0, 1, (.t 17))]⟩,
   ⟨(some 19), none, .app 1 8 (.t 14) (.t 18)⟩,
   ⟨(some 5), none, .mov (.t 19)⟩])))
 (.reg [⟨(some 20), none, .bin .add (.t 10) (.c (.p (.int .i64 1)))⟩,
   ⟨(some 10), none, .mov (.t 20)⟩])))))))
 (.seq (.reg [⟨(some 21), none, .mov (.t 5)⟩,
   ⟨(some 4), none, .mov (.t 21)⟩])
 (.ret))))⟩
theorem k_impl_mapped_int : compF Tryd.prog n_impl_mapped_int = some F_impl_mapped_int := by kernel_rfl

def F_impl_decoded_1 : FK := ⟨5, [.t 2],
 .seq (.reg [⟨(some 2), none, .mov (.c (.p (.int .i64 0)))⟩])
 (.seq (.reg [⟨(some 3), none, .mov (.t 0)⟩,
   ⟨(some 4), none, .conv .i64 (.t 3)⟩,
   ⟨(some 2), none, .mov (.t 4)⟩])
 (.ret))⟩
theorem k_impl_decoded_1 : compF Tryd.prog n_impl_decoded_1 = some F_impl_decoded_1 := by kernel_rfl

def F_impl_decoded : FK := ⟨145, [.c 4 (some 5), .t 5],
 .seq (.reg [⟨(some 4), none, .alloc [(.p (.int .i64 0)), (.p (.int .i64 0)), (.p (.int .i64 0)), (.p (.int .i64 0)), (.p (.int .i64 0))]⟩,
   ⟨(some 5), none, .mov (.c (.p (.int .i64 0)))⟩])
 (.seq (.reg [⟨(some 12), none, .mov (.t 0)⟩,
   ⟨(some 13), none, .mov (.t 1)⟩,
   ⟨(some 14), none, .slS 1 (.t 12) (some (.t 13)) none⟩,
   ⟨(some 6), none, .mov (.t 14)⟩])
 (.seq (.reg [⟨(some 15), none, .mov (.t 6)⟩,
   ⟨(some 16), none, .idxS 1 (.t 15) (.c (.p (.int .i64 0)))⟩,
   ⟨(some 17), none, .ld none (.t 16)⟩,
   ⟨(some 18), none, .conv .i64 (.t 17)⟩,
   ⟨(some 7), none, .mov (.t 18)⟩])
 (.seq (.reg [⟨(some 19), none, .mov (.t 7)⟩,
   ⟨(some 20), none, .bin .geq (.t 19) (.c (.p (.int .i64 128)))⟩,
   ⟨(some 8), none, .mov (.t 20)⟩])
 (.seq (.seq (.reg [⟨(some 21), none, .mov (.t 8)⟩])
 (.cond (.t 21)
  (.reg [⟨(some 22), none, .mov (.t 7)⟩,
    ⟨(some 23), none, .bin .sub (.t 22) (.c (.p (.int .i64 128)))⟩,
    ⟨(some 7), none, .mov (.t 23)⟩])
  (.skip)))
 (.seq (.seq (.reg [⟨(some 24), none, .mov (.t 7)⟩,
   ⟨(some 25), none, .call n_impl_within [(.t 24), (.c (.p (.int .i64 1))), (.c (.p (.int .i64 22)))]⟩,
   ⟨(some 26), none, .not (.t 25)⟩,
   ⟨(some 27), none, .mov (.t 26)⟩,
   ⟨(some 28), (some (27, false)), .mov (.t 8)⟩,
   ⟨(some 29), (some (27, false)), .mov (.t 28)⟩,
   ⟨(some 30), (some (29, true)), .mov (.t 7)⟩,
   ⟨(some 31), (some (29, true)), .call n_impl_jumpOp [(.t 30)]⟩,
   ⟨(some 32), (some (29, true)), .not (.t 31)⟩,
   ⟨(some 33), (some (27, false)), .pick (.t 29) (.t 32) (.c (.p (.bool false)))⟩,
   ⟨(some 34), none, .pick (.t 27) (.c (.p (.bool true))) (.t 33)⟩])
 (.cond (.t 34)
  (.seq (.reg [⟨(some 35), none, .bld [(.p (.int .i64 0)), (.p (.int .i64 0)), (.p (.int .i64 0)), (.p (.int .i64 0)), (.p (.int .i64 0))] []⟩,
    ⟨none, none, .st 5 (.t 4) (.t 35)⟩,
    ⟨(some 5), none, .mov (.c (.p (.int .i64 0)))⟩])
  (.ret))
  (.skip)))
 (.seq (.reg [⟨(some 36), none, .mov (.t 7)⟩,
   ⟨(some 37), none, .bld [(.p (.int .i64 0)), (.p (.int .i64 0)), (.p (.int .i64 0)), (.p (.int .i64 0)), (.p (.int .i64 0))] [(0, 1, (.t 36))]⟩,
   ⟨(some 9), none, .alloc [(.p (.int .i64 0)), (.p (.int .i64 0)), (.p (.int .i64 0)), (.p (.int .i64 0)), (.p (.int .i64 0))]⟩,
   ⟨none, none, .st 5 (.t 9) (.t 37)⟩])
 (.seq (.reg [⟨(some 38), none, .mkm⟩,
   ⟨none, none, .mup 0 (.t 38) (.c (.p (.int .i64 0))) (.c (.p (.int .i64 3)))⟩,
   ⟨none, none, .mup 0 (.t 38) (.c (.p (.int .i64 1))) (.c (.p (.int .i64 2)))⟩,
   ⟨none, none, .mup 0 (.t 38) (.c (.p (.int .i64 2))) (.c (.p (.int .i64 3)))⟩,
   ⟨none, none, .mup 0 (.t 38) (.c (.p (.int .i64 3))) (.c (.p (.int .i64 2)))⟩,
   ⟨none, none, .mup 0 (.t 38) (.c (.p (.int .i64 4))) (.c (.p (.int .i64 2)))⟩,
   ⟨none, none, .mup 0 (.t 38) (.c (.p (.int .i64 5))) (.c (.p (.int .i64 2)))⟩,
   ⟨(some 39), none, .mov (.t 38)⟩,
   ⟨(some 40), none, .mov (.t 7)⟩,
   ⟨(some 41), none, .call n_impl_shapeOf [(.t 40)]⟩,
   ⟨(some 42), none, .lk 0 (.p (.int .i64 0)) false (.t 39) (.t 41)⟩,
   ⟨(some 10), none, .mov (.t 42)⟩])
 (.seq (.seq (.reg [⟨(some 43), none, .mov (.t 7)⟩,
   ⟨(some 44), none, .bin .eql (.t 43) (.c (.p (.int .i64 21)))⟩])
 (.cond (.t 44)
  (.reg [⟨(some 45), none, .mov (.t 10)⟩,
    ⟨(some 46), none, .bin .add (.t 45) (.c (.p (.int .i64 1)))⟩,
    ⟨(some 10), none, .mov (.t 46)⟩])
  (.skip)))
 (.seq (.seq (.reg [⟨(some 47), none, .mov (.t 8)⟩])
 (.cond (.t 47)
  (.reg [⟨(some 48), none, .mov (.t 10)⟩,
    ⟨(some 49), none, .bin .add (.t 48) (.c (.p (.int .i64 1)))⟩,
    ⟨(some 10), none, .mov (.t 49)⟩])
  (.skip)))
 (.seq (.seq (.reg [⟨(some 50), none, .mov (.t 6)⟩,
   ⟨(some 51), none, .len false (.t 50)⟩,
   ⟨(some 52), none, .mov (.t 10)⟩,
   ⟨(some 53), none, .bin .lss (.t 51) (.t 52)⟩])
 (.cond (.t 53)
  (.seq (.reg [⟨(some 54), none, .bld [(.p (.int .i64 0)), (.p (.int .i64 0)), (.p (.int .i64 0)), (.p (.int .i64 0)), (.p (.int .i64 0))] []⟩,
    ⟨none, none, .st 5 (.t 4) (.t 54)⟩,
    ⟨(some 5), none, .mov (.c (.p (.int .i64 0)))⟩])
  (.ret))
  (.skip)))
 (.seq (.reg [⟨(some 55), none, .mov (.t 6)⟩,
   ⟨(some 56), none, .mov (.t 10)⟩,
   ⟨(some 57), none, .slS 1 (.t 55) none (some (.t 56))⟩,
   ⟨(some 58), none, .call n_impl_mapped_int [(.t 57), (.c (.fn (.func n_impl_decoded_1) []))]⟩,
   ⟨(some 11), none, .mov (.t 58)⟩])
 (.seq (.seq (.reg [⟨(some 59), none, .mov (.t 7)⟩,
   ⟨(some 60), none, .call n_impl_shapeOf [(.t 59)]⟩])
 (.blk 0 (.seq (.reg [⟨(some 94), none, .bin .eql (.t 60) (.c (.p (.int .i64 0)))⟩,
   ⟨(some 93), none, .mov (.t 94)⟩])
 (.cond (.t 93)
  (.reg [⟨(some 95), none, .mov (.t 11)⟩,
    ⟨(some 96), none, .idxS 1 (.t 95) (.c (.p (.int .i64 1)))⟩,
    ⟨(some 98), none, .mov (.t 11)⟩,
    ⟨(some 99), none, .idxS 1 (.t 98) (.c (.p (.int .i64 2)))⟩,
    ⟨(some 97), none, .ld none (.t 96)⟩,
    ⟨(some 101), none, .fldA 1 (.t 9)⟩,
    ⟨(some 100), none, .ld none (.t 99)⟩,
    ⟨none, none, .st 1 (.t 101) (.t 97)⟩,
    ⟨none, none, .chk none 99 100⟩,
    ⟨(some 102), none, .fldA 4 (.t 9)⟩,
    ⟨none, none, .st 1 (.t 102) (.t 100)⟩])
  (.seq (.reg [⟨(some 104), none, .bin .eql (.t 60) (.c (.p (.int .i64 1)))⟩,
    ⟨(some 103), none, .mov (.t 104)⟩])
  (.cond (.t 103)
   (.reg [⟨(some 105), none, .mov (.t 11)⟩,
     ⟨(some 106), none, .idxS 1 (.t 105) (.c (.p (.int .i64 1)))⟩,
     ⟨(some 109), none, .mov (.t 11)⟩,
     ⟨(some 110), none, .idxS 1 (.t 109) (.c (.p (.int .i64 1)))⟩,
     ⟨(some 107), none, .ld none (.t 106)⟩,
     ⟨(some 108), none, .bin .rem (.t 107) (.c (.p (.int .i64 8)))⟩,
     ⟨(some 113), none, .fldA 1 (.t 9)⟩,
     ⟨(some 111), none, .ld none (.t 110)⟩,
     ⟨(some 112), none, .bin .quo (.t 111) (.c (.p (.int .i64 8)))⟩,
     ⟨none, none, .st 1 (.t 113) (.t 108)⟩,
     ⟨none, none, .chk none 110 111⟩,
     ⟨(some 114), none, .fldA 2 (.t 9)⟩,
     ⟨none, none, .st 1 (.t 114) (.t 112)⟩])
   (.seq (.reg [⟨(some 116), none, .bin .eql (.t 60) (.c (.p (.int .i64 2)))⟩,
     ⟨(some 115), none, .mov (.t 116)⟩])
   (.cond (.t 115)
    (.reg [⟨(some 117), none, .mov (.t 11)⟩,
      ⟨(some 118), none, .idxS 1 (.t 117) (.c (.p (.int .i64 1)))⟩,
      ⟨(some 121), none, .mov (.t 11)⟩,
      ⟨(some 122), none, .idxS 1 (.t 121) (.c (.p (.int .i64 1)))⟩,
      ⟨(some 125), none, .mov (.t 11)⟩,
      ⟨(some 126), none, .idxS 1 (.t 125) (.c (.p (.int .i64 2)))⟩,
      ⟨(some 119), none, .ld none (.t 118)⟩,
      ⟨(some 120), none, .bin .rem (.t 119) (.c (.p (.int .i64 8)))⟩,
      ⟨(some 128), none, .fldA 1 (.t 9)⟩,
      ⟨(some 123), none, .ld none (.t 122)⟩,
      ⟨(some 124), none, .bin .quo (.t 123) (.c (.p (.int .i64 8)))⟩,
      ⟨(some 127), none, .ld none (.t 126)⟩,
      ⟨none, none, .st 1 (.t 128) (.t 120)⟩,
      ⟨none, none, .chk none 122 123⟩,
      ⟨none, none, .chk none 126 127⟩,
      ⟨(some 129), none, .fldA 2 (.t 9)⟩,
      ⟨none, none, .st 1 (.t 129) (.t 124)⟩,
      ⟨none, none, .chk none 126 127⟩,
      ⟨(some 130), none, .fldA 3 (.t 9)⟩,
      ⟨none, none, .st 1 (.t 130) (.t 127)⟩])
    (.seq (.reg [⟨(some 132), none, .bin .eql (.t 60) (.c (.p (.int .i64 3)))⟩,
      ⟨(some 131), none, .mov (.t 132)⟩])
    (.cond (.t 131)
     (.reg [⟨(some 133), none, .mov (.t 11)⟩,
       ⟨(some 134), none, .idxS 1 (.t 133) (.c (.p (.int .i64 1)))⟩,
       ⟨(some 135), none, .ld none (.t 134)⟩,
       ⟨(some 136), none, .fldA 1 (.t 9)⟩,
       ⟨none, none, .st 1 (.t 136) (.t 135)⟩])
     (.seq (.reg [⟨(some 138), none, .bin .eql (.t 60) (.c (.p (.int .i64 4)))⟩,
       ⟨(some 137), none, .mov (.t 138)⟩])
     (.cond (.t 137)
      (.reg [⟨(some 139), none, .mov (.t 11)⟩,
        ⟨(some 140), none, .idxS 1 (.t 139) (.c (.p (.int .i64 1)))⟩,
        ⟨(some 141), none, .ld none (.t 140)⟩,
        ⟨(some 142), none, .fldA 4 (.t 9)⟩,
        ⟨none, none, .st 1 (.t 142) (.t 141)⟩])
      (.seq (.seq (.reg [⟨(some 61), none, .mov (.t 7)⟩,
        ⟨(some 62), none, .bin .eql (.t 61) (.c (.p (.int .i64 21)))⟩])
      (.cond (.t 62)
       (.reg [⟨(some 63), none, .mov (.t 11)⟩,
         ⟨(some 64), none, .idxS 1 (.t 63) (.c (.p (.int .i64 1)))⟩,
         ⟨(some 65), none, .ld none (.t 64)⟩,
         ⟨(some 66), none, .fldA 1 (.t 9)⟩,
         ⟨none, none, .st 1 (.t 66) (.t 65)⟩])
       (.skip)))
      (.seq (.reg [⟨(some 67), none, .mov (.t 8)⟩])
      (.cond (.t 67)
       (.reg [⟨(some 68), none, .mov (.t 11)⟩,
         ⟨(some 69), none, .mov (.t 10)⟩,
         ⟨(some 70), none, .bin .sub (.t 69) (.c (.p (.int .i64 2)))⟩,
         ⟨(some 71), none, .idxS 1 (.t 68) (.t 70)⟩,
         ⟨(some 73), none, .mov (.t 11)⟩,
         ⟨(some 74), none, .mov (.t 10)⟩,
         ⟨(some 75), none, .bin .sub (.t 74) (.c (.p (.int .i64 1)))⟩,
         ⟨(some 76), none, .idxS 1 (.t 73) (.t 75)⟩,
         ⟨(some 72), none, .ld none (.t 71)⟩,
         ⟨(some 77), none, .ld none (.t 76)⟩,
         ⟨(some 78), none, .bin .mul (.c (.p (.int .i64 256))) (.t 77)⟩,
         ⟨(some 79), none, .bin .add (.t 72) (.t 78)⟩,
         ⟨(some 80), none, .fldA 4 (.t 9)⟩,
         ⟨none, none, .st 1 (.t 80) (.t 79)⟩])
       (.reg [⟨(some 81), none, .mov (.t 1)⟩,
         ⟨(some 82), none, .mov (.t 10)⟩,
         ⟨(some 83), none, .bin .add (.t 81) (.t 82)⟩,
         ⟨(some 84), none, .mov (.t 6)⟩,
         ⟨(some 85), none, .mov (.t 10)⟩,
         ⟨(some 86), none, .bin .sub (.t 85) (.c (.p (.int .i64 1)))⟩,
         ⟨(some 87), none, .idxS 1 (.t 84) (.t 86)⟩,
         ⟨(some 88), none, .ld none (.t 87)⟩,
         ⟨(some 89), none, .conv .i8 (.t 88)⟩,
         ⟨(some 90), none, .conv .i64 (.t 89)⟩,
         ⟨(some 91), none, .bin .add (.t 83) (.t 90)⟩,
         ⟨(some 92), none, .fldA 4 (.t 9)⟩,
         ⟨none, none, .st 1 (.t 92) (.t 91)⟩]))))))))))))))))
 (.seq (.reg [⟨(some 143), none, .ld (some 5) (.t 9)⟩,
   ⟨(some 144), none, .mov (.t 10)⟩,
   ⟨none, none, .st 5 (.t 4) (.t 143)⟩,
   ⟨(some 5), none, .mov (.t 144)⟩])
 (.ret))))))))))))))⟩
theorem k_impl_decoded : compF Tryd.prog n_impl_decoded = some F_impl_decoded := by kernel_rfl

def F_impl_DecodeFn : FK := ⟨93, [.c 6 (some 3), .t 7],
 .seq (.reg [⟨(some 6), none, .alloc [(.p (.int .i64 0)), (.p (.int .i64 0)), .nils]⟩,
   ⟨(some 7), none, .mov (.c (.p (.bool false)))⟩])
 (.seq (.reg [⟨(some 19), none, .mov (.t 0)⟩,
   ⟨(some 20), none, .mov (.t 1)⟩,
   ⟨(some 21), none, .bld [(.p (.int .i64 0)), (.p (.int .i64 0)), .nils] [(0, 1, (.t 19)), (1, 1, (.t 20))]⟩,
   ⟨(some 8), none, .alloc [(.p (.int .i64 0)), (.p (.int .i64 0)), .nils]⟩,
   ⟨none, none, .st 3 (.t 8) (.t 21)⟩])
 (.seq (.reg [⟨(some 22), none, .mkm⟩,
   ⟨(some 9), none, .mov (.t 22)⟩])
 (.seq (.seq (.reg [⟨(some 10), none, .mov (.c (.p (.int .i64 0)))⟩])
 (.blk 0 (.loop (.seq (.seq (.reg [⟨(some 23), none, .mov (.t 10)⟩,
   ⟨(some 24), none, .mov (.t 2)⟩,
   ⟨(some 25), none, .len false (.t 24)⟩,
   ⟨(some 26), none, .bin .lss (.t 23) (.t 25)⟩])
 (.cond (.t 26)
  (.skip)
  (.exit 0)))
 (.blk 1 (.seq (.reg [⟨(some 28), none, .mov (.t 2)⟩,
   ⟨(some 29), none, .mov (.t 10)⟩,
   ⟨(some 30), none, .call n_impl_decoded [(.t 28), (.t 29)]⟩,
   ⟨(some 27), none, .mov (.t 30)⟩,
   ⟨(some 31), none, .ext 0 (.t 27)⟩,
   ⟨(some 32), none, .ext 1 (.t 27)⟩,
   ⟨(some 11), none, .alloc [(.p (.int .i64 0)), (.p (.int .i64 0)), (.p (.int .i64 0)), (.p (.int .i64 0)), (.p (.int .i64 0))]⟩,
   ⟨none, none, .st 5 (.t 11) (.t 31)⟩,
   ⟨(some 12), none, .mov (.t 32)⟩])
 (.seq (.seq (.reg [⟨(some 33), none, .mov (.t 12)⟩,
   ⟨(some 34), none, .bin .eql (.t 33) (.c (.p (.int .i64 0)))⟩])
 (.cond (.t 34)
  (.seq (.reg [⟨(some 35), none, .bld [(.p (.int .i64 0)), (.p (.int .i64 0)), .nils] []⟩,
    ⟨none, none, .st 3 (.t 6) (.t 35)⟩,
    ⟨(some 7), none, .mov (.c (.p (.bool false)))⟩])
  (.ret))
  (.skip)))
 (.seq (.reg [⟨(some 36), none, .mov (.t 9)⟩,
   ⟨(some 37), none, .mov (.t 10)⟩,
   ⟨(some 38), none, .fldA 2 (.t 8)⟩,
   ⟨(some 39), none, .ld none (.t 38)⟩,
   ⟨(some 40), none, .len false (.t 39)⟩,
   ⟨none, none, .mup 0 (.t 36) (.t 37) (.t 40)⟩])
 (.seq (.reg [⟨(some 41), none, .fldA 2 (.t 8)⟩,
   ⟨(some 42), none, .ld none (.t 41)⟩,
   ⟨(some 43), none, .ld (some 5) (.t 11)⟩,
   ⟨(some 44), none, .bsl 5 [(.p (.int .i64 0)), (.p (.int .i64 0)), (.p (.int .i64 0)), (.p (.int .i64 0)), (.p (.int .i64 0))] 1 [(0, 5, (.t 43))]⟩,
   ⟨(some 45), none, .app 5 40 (.t 42) (.t 44)⟩,
   ⟨(some 46), none, .fldA 2 (.t 8)⟩,
   ⟨none, none, .st 1 (.t 46) (.t 45)⟩])
 (.reg [⟨(some 47), none, .mov (.t 10)⟩,
   ⟨(some 48), none, .mov (.t 12)⟩,
   ⟨(some 49), none, .bin .add (.t 47) (.t 48)⟩,
   ⟨(some 10), none, .mov (.t 49)⟩]))))))))))
 (.seq (.seq (.reg [⟨(some 50), none, .fldA 2 (.t 8)⟩,
   ⟨(some 51), none, .ld none (.t 50)⟩,
   ⟨(some 52), none, .len false (.t 51)⟩,
   ⟨(some 53), none, .mov (.c (.p (.int .i64 0)))⟩])
 (.blk 2 (.loop (.seq (.reg [⟨(some 54), none, .bin .lss (.t 53) (.t 52)⟩])
 (.seq (.cond (.t 54)
  (.skip)
  (.exit 2))
 (.seq (.blk 3 (.seq (.reg [⟨(some 55), none, .mov (.t 53)⟩,
   ⟨(some 56), none, .idxS 5 (.t 51) (.t 53)⟩,
   ⟨(some 57), none, .ld (some 5) (.t 56)⟩,
   ⟨(some 14), none, .alloc [(.p (.int .i64 0)), (.p (.int .i64 0)), (.p (.int .i64 0)), (.p (.int .i64 0)), (.p (.int .i64 0))]⟩,
   ⟨(some 13), none, .mov (.t 55)⟩,
   ⟨none, none, .st 5 (.t 14) (.t 57)⟩])
 (.seq (.reg [⟨(some 58), none, .fldA 0 (.t 14)⟩,
   ⟨(some 59), none, .ld none (.t 58)⟩,
   ⟨(some 60), none, .call n_impl_jumpOp [(.t 59)]⟩])
 (.cond (.t 60)
  (.seq (.reg [⟨(some 62), none, .mov (.t 9)⟩,
    ⟨(some 63), none, .fldA 4 (.t 14)⟩,
    ⟨(some 64), none, .ld none (.t 63)⟩,
    ⟨(some 65), none, .lk 0 (.p (.int .i64 0)) true (.t 62) (.t 64)⟩,
    ⟨(some 61), none, .mov (.t 65)⟩,
    ⟨(some 66), none, .ext 0 (.t 61)⟩,
    ⟨(some 67), none, .ext 1 (.t 61)⟩,
    ⟨(some 15), none, .mov (.t 66)⟩,
    ⟨(some 16), none, .mov (.t 67)⟩])
  (.seq (.seq (.reg [⟨(some 68), none, .mov (.t 16)⟩,
    ⟨(some 69), none, .not (.t 68)⟩])
  (.cond (.t 69)
   (.seq (.reg [⟨(some 70), none, .bld [(.p (.int .i64 0)), (.p (.int .i64 0)), .nils] []⟩,
     ⟨none, none, .st 3 (.t 6) (.t 70)⟩,
     ⟨(some 7), none, .mov (.c (.p (.bool false)))⟩])
   (.ret))
   (.skip)))
  (.reg [⟨(some 71), none, .fldA 2 (.t 8)⟩,
    ⟨(some 72), none, .ld none (.t 71)⟩,
    ⟨(some 73), none, .mov (.t 13)⟩,
    ⟨(some 74), none, .mov (.t 15)⟩,
    ⟨(some 75), none, .idxS 5 (.t 72) (.t 73)⟩,
    ⟨(some 76), none, .fldA 4 (.t 75)⟩,
    ⟨none, none, .st 1 (.t 76) (.t 74)⟩])))
  (.skip)))))
 (.reg [⟨(some 77), none, .bin .add (.t 53) (.c (.p (.int .i64 1)))⟩,
   ⟨(some 53), none, .mov (.t 77)⟩])))))))
 (.seq (.seq (.reg [⟨(some 79), none, .ld (some 3) (.t 8)⟩,
   ⟨(some 80), none, .call n_impl_EncodeFn [(.t 79)]⟩,
   ⟨(some 78), none, .mov (.t 80)⟩,
   ⟨(some 81), none, .ext 0 (.t 78)⟩,
   ⟨(some 82), none, .ext 1 (.t 78)⟩,
   ⟨(some 17), none, .mov (.t 81)⟩,
   ⟨(some 18), none, .mov (.t 82)⟩])
 (.seq (.reg [⟨(some 83), none, .mov (.t 18)⟩,
   ⟨(some 84), none, .not (.t 83)⟩,
   ⟨(some 85), none, .mov (.t 84)⟩,
   ⟨(some 86), (some (85, false)), .mov (.t 17)⟩,
   ⟨(some 87), (some (85, false)), .mov (.t 2)⟩,
   ⟨(some 88), (some (85, false)), .call n_bytes_Equal [(.t 86), (.t 87)]⟩,
   ⟨(some 89), (some (85, false)), .not (.t 88)⟩,
   ⟨(some 90), none, .pick (.t 85) (.c (.p (.bool true))) (.t 89)⟩])
 (.cond (.t 90)
  (.seq (.reg [⟨(some 91), none, .bld [(.p (.int .i64 0)), (.p (.int .i64 0)), .nils] []⟩,
    ⟨none, none, .st 3 (.t 6) (.t 91)⟩,
    ⟨(some 7), none, .mov (.c (.p (.bool false)))⟩])
  (.ret))
  (.skip))))
 (.seq (.reg [⟨(some 92), none, .ld (some 3) (.t 8)⟩,
   ⟨none, none, .st 3 (.t 6) (.t 92)⟩,
   ⟨(some 7), none, .mov (.c (.p (.bool true)))⟩])
 (.ret)))))))⟩
theorem k_impl_DecodeFn : compF Tryd.prog n_impl_DecodeFn = some F_impl_DecodeFn := by kernel_rfl

def F_impl_ReadImage : FK := ⟨69, [.c 2 (some 1), .t 3],
 .seq (.reg [⟨(some 2), none, .alloc [.nils]⟩,
   ⟨(some 3), none, .mov (.c (.p (.bool false)))⟩])
 (.seq (.reg [⟨(some 14), none, .mov (.t 0)⟩,
   ⟨(some 15), none, .call n_impl_sections [(.t 14)]⟩,
   ⟨(some 13), none, .mov (.t 15)⟩,
   ⟨(some 16), none, .ext 0 (.t 13)⟩,
   ⟨(some 17), none, .ext 1 (.t 13)⟩,
   ⟨(some 4), none, .mov (.t 16)⟩,
   ⟨(some 5), none, .mov (.t 17)⟩])
 (.seq (.seq (.reg [⟨(some 18), none, .mov (.t 5)⟩,
   ⟨(some 19), none, .not (.t 18)⟩])
 (.cond (.t 19)
  (.seq (.reg [⟨(some 20), none, .bld [.nils] []⟩,
    ⟨none, none, .st 1 (.t 2) (.t 20)⟩,
    ⟨(some 3), none, .mov (.c (.p (.bool false)))⟩])
  (.ret))
  (.skip)))
 (.seq (.reg [⟨(some 6), none, .alloc [.nils]⟩])
 (.seq (.seq (.reg [⟨(some 21), none, .mov (.t 4)⟩,
   ⟨(some 22), none, .len false (.t 21)⟩,
   ⟨(some 23), none, .mov (.c (.p (.int .i64 0)))⟩])
 (.blk 0 (.loop (.seq (.reg [⟨(some 24), none, .bin .lss (.t 23) (.t 22)⟩])
 (.seq (.cond (.t 24)
  (.skip)
  (.exit 0))
 (.seq (.blk 1 (.seq (.reg [⟨(some 25), none, .idxS 4 (.t 21) (.t 23)⟩,
   ⟨(some 26), none, .ld (some 4) (.t 25)⟩,
   ⟨(some 8), none, .alloc [(.p (.int .i64 0)), (.p (.int .i64 0)), (.p (.int .i64 0)), (.p (.int .i64 0))]⟩,
   ⟨none, none, .st 4 (.t 8) (.t 26)⟩])
 (.seq (.reg [⟨(some 9), none, .mov (.c .any)⟩,
   ⟨(some 28), none, .fldA 0 (.t 8)⟩,
   ⟨(some 30), none, .fldA 1 (.t 8)⟩,
   ⟨(some 32), none, .mov (.t 0)⟩,
   ⟨(some 33), none, .fldA 2 (.t 8)⟩,
   ⟨(some 35), none, .fldA 2 (.t 8)⟩,
   ⟨(some 37), none, .fldA 3 (.t 8)⟩,
   ⟨(some 29), none, .ld none (.t 28)⟩,
   ⟨(some 31), none, .ld none (.t 30)⟩,
   ⟨(some 34), none, .ld none (.t 33)⟩,
   ⟨(some 36), none, .ld none (.t 35)⟩,
   ⟨(some 38), none, .ld none (.t 37)⟩,
   ⟨(some 39), none, .bin .add (.t 36) (.t 38)⟩,
   ⟨(some 40), none, .slS 1 (.t 32) (some (.t 34)) (some (.t 39))⟩,
   ⟨(some 41), none, .call n_impl_DecodeFn [(.t 29), (.t 31), (.t 40)]⟩,
   ⟨(some 27), none, .mov (.t 41)⟩,
   ⟨(some 42), none, .ext 0 (.t 27)⟩,
   ⟨(some 43), none, .ext 1 (.t 27)⟩,
   ⟨(some 9), none, .alloc [(.p (.int .i64 0)), (.p (.int .i64 0)), .nils]⟩,
   ⟨none, none, .st 3 (.t 9) (.t 42)⟩,
   ⟨(some 10), none, .mov (.t 43)⟩])
 (.seq (.seq (.reg [⟨(some 44), none, .mov (.t 10)⟩,
   ⟨(some 45), none, .not (.t 44)⟩])
 (.cond (.t 45)
  (.seq (.reg [⟨(some 46), none, .bld [.nils] []⟩,
    ⟨none, none, .st 1 (.t 2) (.t 46)⟩,
    ⟨(some 3), none, .mov (.c (.p (.bool false)))⟩])
  (.ret))
  (.skip)))
 (.reg [⟨(some 47), none, .fldA 0 (.t 6)⟩,
   ⟨(some 48), none, .ld none (.t 47)⟩,
   ⟨(some 49), none, .ld (some 3) (.t 9)⟩,
   ⟨(some 50), none, .bsl 3 [(.p (.int .i64 0)), (.p (.int .i64 0)), .nils] 1 [(0, 3, (.t 49))]⟩,
   ⟨(some 51), none, .app 3 40 (.t 48) (.t 50)⟩,
   ⟨(some 52), none, .fldA 0 (.t 6)⟩,
   ⟨none, none, .st 1 (.t 52) (.t 51)⟩])))))
 (.reg [⟨(some 53), none, .bin .add (.t 23) (.c (.p (.int .i64 1)))⟩,
   ⟨(some 23), none, .mov (.t 53)⟩])))))))
 (.seq (.seq (.reg [⟨(some 55), none, .ld (some 1) (.t 6)⟩,
   ⟨(some 56), none, .call n_impl_ImageOf [(.t 55)]⟩,
   ⟨(some 54), none, .mov (.t 56)⟩,
   ⟨(some 57), none, .ext 0 (.t 54)⟩,
   ⟨(some 58), none, .ext 1 (.t 54)⟩,
   ⟨(some 11), none, .mov (.t 57)⟩,
   ⟨(some 12), none, .mov (.t 58)⟩])
 (.seq (.reg [⟨(some 59), none, .mov (.t 12)⟩,
   ⟨(some 60), none, .not (.t 59)⟩,
   ⟨(some 61), none, .mov (.t 60)⟩,
   ⟨(some 62), (some (61, false)), .mov (.t 11)⟩,
   ⟨(some 63), (some (61, false)), .mov (.t 0)⟩,
   ⟨(some 64), (some (61, false)), .call n_bytes_Equal [(.t 62), (.t 63)]⟩,
   ⟨(some 65), (some (61, false)), .not (.t 64)⟩,
   ⟨(some 66), none, .pick (.t 61) (.c (.p (.bool true))) (.t 65)⟩])
 (.cond (.t 66)
  (.seq (.reg [⟨(some 67), none, .bld [.nils] []⟩,
    ⟨none, none, .st 1 (.t 2) (.t 67)⟩,
    ⟨(some 3), none, .mov (.c (.p (.bool false)))⟩])
  (.ret))
  (.skip))))
 (.seq (.reg [⟨(some 68), none, .ld (some 1) (.t 6)⟩,
   ⟨none, none, .st 1 (.t 2) (.t 68)⟩,
   ⟨(some 3), none, .mov (.c (.p (.bool true)))⟩])
 (.ret)))))))⟩
theorem k_impl_ReadImage : compF Tryd.prog n_impl_ReadImage = some F_impl_ReadImage := by kernel_rfl

def F_laws_heldMinsS : FK := ⟨58, [.t 4],
 .seq (.reg [⟨(some 4), none, .mov (.c (.p (.int .i64 0)))⟩])
 (.seq (.seq (.reg [⟨(some 5), none, .mov (.c (.p (.int .i64 0)))⟩])
 (.blk 0 (.loop (.seq (.seq (.reg [⟨(some 6), none, .mov (.t 5)⟩,
   ⟨(some 7), none, .mov (.t 0)⟩,
   ⟨(some 8), none, .len false (.t 7)⟩,
   ⟨(some 9), none, .bin .lss (.t 6) (.t 8)⟩])
 (.cond (.t 9)
  (.skip)
  (.exit 0)))
 (.seq (.blk 1 (.seq (.seq (.reg [⟨(some 12), none, .mov (.t 0)⟩,
   ⟨(some 13), none, .mov (.t 5)⟩,
   ⟨(some 14), none, .idxS 5 (.t 12) (.t 13)⟩,
   ⟨(some 15), none, .fldA 0 (.t 14)⟩,
   ⟨(some 16), none, .ld none (.t 15)⟩,
   ⟨(some 17), none, .mov (.t 1)⟩,
   ⟨(some 18), none, .bin .neq (.t 16) (.t 17)⟩])
 (.cond (.t 18)
  (.seq (.reg [⟨(some 4), none, .mov (.c (.p (.int .i64 (-1))))⟩])
  (.ret))
  (.skip)))
 (.seq (.reg [⟨(some 19), none, .mov (.t 1)⟩,
   ⟨(some 20), none, .bin .add (.t 19) (.c (.p (.int .i64 1)))⟩,
   ⟨(some 1), none, .mov (.t 20)⟩])
 (.seq (.seq (.reg [⟨(some 21), none, .mov (.t 0)⟩,
   ⟨(some 22), none, .mov (.t 5)⟩,
   ⟨(some 23), none, .idxS 5 (.t 21) (.t 22)⟩,
   ⟨(some 24), none, .fldA 1 (.t 23)⟩,
   ⟨(some 25), none, .ld none (.t 24)⟩,
   ⟨(some 26), none, .mov (.t 1)⟩,
   ⟨(some 27), none, .bin .neq (.t 25) (.t 26)⟩])
 (.cond (.t 27)
  (.seq (.reg [⟨(some 4), none, .mov (.c (.p (.int .i64 (-1))))⟩])
  (.ret))
  (.skip)))
 (.seq (.reg [⟨(some 28), none, .mov (.t 1)⟩,
   ⟨(some 29), none, .bin .add (.t 28) (.c (.p (.int .i64 1)))⟩,
   ⟨(some 1), none, .mov (.t 29)⟩])
 (.seq (.seq (.reg [⟨(some 30), none, .mov (.t 0)⟩,
   ⟨(some 31), none, .mov (.t 5)⟩,
   ⟨(some 32), none, .idxS 5 (.t 30) (.t 31)⟩,
   ⟨(some 33), none, .fldA 2 (.t 32)⟩,
   ⟨(some 34), none, .ld none (.t 33)⟩,
   ⟨(some 35), none, .mov (.t 1)⟩,
   ⟨(some 36), none, .bin .neq (.t 34) (.t 35)⟩])
 (.cond (.t 36)
  (.seq (.reg [⟨(some 4), none, .mov (.c (.p (.int .i64 (-1))))⟩])
  (.ret))
  (.skip)))
 (.seq (.reg [⟨(some 37), none, .mov (.t 1)⟩,
   ⟨(some 38), none, .bin .add (.t 37) (.c (.p (.int .i64 1)))⟩,
   ⟨(some 1), none, .mov (.t 38)⟩])
 (.seq (.seq (.reg [⟨(some 39), none, .mov (.t 0)⟩,
   ⟨(some 40), none, .mov (.t 5)⟩,
   ⟨(some 41), none, .idxS 5 (.t 39) (.t 40)⟩,
   ⟨(some 42), none, .fldA 3 (.t 41)⟩,
   ⟨(some 43), none, .ld none (.t 42)⟩,
   ⟨(some 44), none, .mov (.t 1)⟩,
   ⟨(some 45), none, .bin .neq (.t 43) (.t 44)⟩])
 (.cond (.t 45)
  (.seq (.reg [⟨(some 4), none, .mov (.c (.p (.int .i64 (-1))))⟩])
  (.ret))
  (.skip)))
 (.seq (.reg [⟨(some 46), none, .mov (.t 1)⟩,
   ⟨(some 47), none, .bin .add (.t 46) (.c (.p (.int .i64 1)))⟩,
   ⟨(some 1), none, .mov (.t 47)⟩])
 (.seq (.seq (.reg [⟨(some 48), none, .mov (.t 0)⟩,
   ⟨(some 49), none, .mov (.t 5)⟩,
   ⟨(some 50), none, .idxS 5 (.t 48) (.t 49)⟩,
   ⟨(some 51), none, .fldA 4 (.t 50)⟩,
   ⟨(some 52), none, .ld none (.t 51)⟩,
   ⟨(some 53), none, .mov (.t 1)⟩,
   ⟨(some 54), none, .bin .neq (.t 52) (.t 53)⟩])
 (.cond (.t 54)
  (.seq (.reg [⟨(some 4), none, .mov (.c (.p (.int .i64 (-1))))⟩])
  (.ret))
  (.skip)))
 (.reg [⟨(some 55), none, .mov (.t 1)⟩,
   ⟨(some 56), none, .bin .add (.t 55) (.c (.p (.int .i64 1)))⟩,
   ⟨(some 1), none, .mov (.t 56)⟩])))))))))))
 (.reg [⟨(some 10), none, .mov (.t 5)⟩,
   ⟨(some 11), none, .bin .add (.t 10) (.c (.p (.int .i64 1)))⟩,
   ⟨(some 5), none, .mov (.t 11)⟩]))))))
 (.seq (.reg [⟨(some 57), none, .mov (.t 1)⟩,
   ⟨(some 4), none, .mov (.t 57)⟩])
 (.ret)))⟩
theorem k_laws_heldMinsS : compF Tryd.prog n_laws_heldMinsS = some F_laws_heldMinsS := by kernel_rfl

def F_laws_heldMfnS : FK := ⟨40, [.t 4],
 .seq (.reg [⟨(some 4), none, .mov (.c (.p (.int .i64 0)))⟩])
 (.seq (.seq (.reg [⟨(some 5), none, .mov (.c (.p (.int .i64 0)))⟩])
 (.blk 0 (.loop (.seq (.seq (.reg [⟨(some 6), none, .mov (.t 5)⟩,
   ⟨(some 7), none, .mov (.t 0)⟩,
   ⟨(some 8), none, .len false (.t 7)⟩,
   ⟨(some 9), none, .bin .lss (.t 6) (.t 8)⟩])
 (.cond (.t 9)
  (.skip)
  (.exit 0)))
 (.seq (.blk 1 (.seq (.seq (.reg [⟨(some 12), none, .mov (.t 0)⟩,
   ⟨(some 13), none, .mov (.t 5)⟩,
   ⟨(some 14), none, .idxS 3 (.t 12) (.t 13)⟩,
   ⟨(some 15), none, .fldA 0 (.t 14)⟩,
   ⟨(some 16), none, .ld none (.t 15)⟩,
   ⟨(some 17), none, .mov (.t 1)⟩,
   ⟨(some 18), none, .bin .neq (.t 16) (.t 17)⟩])
 (.cond (.t 18)
  (.seq (.reg [⟨(some 4), none, .mov (.c (.p (.int .i64 (-1))))⟩])
  (.ret))
  (.skip)))
 (.seq (.reg [⟨(some 19), none, .mov (.t 1)⟩,
   ⟨(some 20), none, .bin .add (.t 19) (.c (.p (.int .i64 1)))⟩,
   ⟨(some 1), none, .mov (.t 20)⟩])
 (.seq (.seq (.reg [⟨(some 21), none, .mov (.t 0)⟩,
   ⟨(some 22), none, .mov (.t 5)⟩,
   ⟨(some 23), none, .idxS 3 (.t 21) (.t 22)⟩,
   ⟨(some 24), none, .fldA 1 (.t 23)⟩,
   ⟨(some 25), none, .ld none (.t 24)⟩,
   ⟨(some 26), none, .mov (.t 1)⟩,
   ⟨(some 27), none, .bin .neq (.t 25) (.t 26)⟩])
 (.cond (.t 27)
  (.seq (.reg [⟨(some 4), none, .mov (.c (.p (.int .i64 (-1))))⟩])
  (.ret))
  (.skip)))
 (.seq (.reg [⟨(some 28), none, .mov (.t 1)⟩,
   ⟨(some 29), none, .bin .add (.t 28) (.c (.p (.int .i64 1)))⟩,
   ⟨(some 1), none, .mov (.t 29)⟩])
 (.seq (.reg [⟨(some 30), none, .mov (.t 0)⟩,
   ⟨(some 31), none, .mov (.t 5)⟩,
   ⟨(some 32), none, .idxS 3 (.t 30) (.t 31)⟩,
   ⟨(some 33), none, .fldA 2 (.t 32)⟩,
   ⟨(some 34), none, .ld none (.t 33)⟩,
   ⟨(some 35), none, .mov (.t 1)⟩,
   ⟨(some 36), none, .call n_laws_heldMinsS [(.t 34), (.t 35)]⟩,
   ⟨(some 1), none, .mov (.t 36)⟩])
 (.seq (.reg [⟨(some 37), none, .mov (.t 1)⟩,
   ⟨(some 38), none, .bin .lss (.t 37) (.c (.p (.int .i64 0)))⟩])
 (.cond (.t 38)
  (.seq (.reg [⟨(some 4), none, .mov (.c (.p (.int .i64 (-1))))⟩])
  (.ret))
  (.skip)))))))))
 (.reg [⟨(some 10), none, .mov (.t 5)⟩,
   ⟨(some 11), none, .bin .add (.t 10) (.c (.p (.int .i64 1)))⟩,
   ⟨(some 5), none, .mov (.t 11)⟩]))))))
 (.seq (.reg [⟨(some 39), none, .mov (.t 1)⟩,
   ⟨(some 4), none, .mov (.t 39)⟩])
 (.ret)))⟩
theorem k_laws_heldMfnS : compF Tryd.prog n_laws_heldMfnS = some F_laws_heldMfnS := by kernel_rfl

def F_laws_heldMach : FK := ⟨12, [.t 4],
 .seq (.reg [⟨(some 2), none, .box 1 (.t 0)⟩,
   ⟨(some 4), none, .mov (.c (.p (.int .i64 0)))⟩])
 (.seq (.reg [⟨(some 5), none, .fldA 0 (.t 2)⟩,
   ⟨(some 6), none, .ld none (.t 5)⟩,
   ⟨(some 7), none, .mov (.t 1)⟩,
   ⟨(some 8), none, .call n_laws_heldMfnS [(.t 6), (.t 7)]⟩,
   ⟨(some 1), none, .mov (.t 8)⟩])
 (.seq (.seq (.reg [⟨(some 9), none, .mov (.t 1)⟩,
   ⟨(some 10), none, .bin .lss (.t 9) (.c (.p (.int .i64 0)))⟩])
 (.cond (.t 10)
  (.seq (.reg [⟨(some 4), none, .mov (.c (.p (.int .i64 (-1))))⟩])
  (.ret))
  (.skip)))
 (.seq (.reg [⟨(some 11), none, .mov (.t 1)⟩,
   ⟨(some 4), none, .mov (.t 11)⟩])
 (.ret))))⟩
theorem k_laws_heldMach : compF Tryd.prog n_laws_heldMach = some F_laws_heldMach := by kernel_rfl

def F_laws_FnExactReadImage : FK := ⟨93, [.t 2],
 .seq (.reg [⟨(some 2), none, .mov (.c (.p (.bool false)))⟩])
 (.seq (.seq (.reg [⟨(some 13), none, .mov (.t 0)⟩,
   ⟨(some 14), none, .len false (.t 13)⟩,
   ⟨(some 15), none, .bin .gtr (.t 14) (.c (.p (.int .i64 1048576)))⟩])
 (.cond (.t 15)
  (.seq (.reg [⟨(some 2), none, .mov (.c (.p (.bool true)))⟩])
  (.ret))
  (.skip)))
 (.seq (.reg [⟨(some 17), none, .mov (.t 0)⟩,
   ⟨(some 18), none, .call n_laws_toByteS [(.t 17)]⟩,
   ⟨(some 19), none, .call n_spec_ReadImage [(.t 18)]⟩,
   ⟨(some 16), none, .mov (.t 19)⟩,
   ⟨(some 20), none, .ext 0 (.t 16)⟩,
   ⟨(some 21), none, .ext 1 (.t 16)⟩,
   ⟨(some 3), none, .alloc [.nils]⟩,
   ⟨none, none, .st 1 (.t 3) (.t 20)⟩,
   ⟨(some 4), none, .mov (.t 21)⟩])
 (.seq (.reg [⟨(some 22), none, .mov (.t 0)⟩,
   ⟨(some 23), none, .call n_laws_toByteS [(.t 22)]⟩,
   ⟨(some 5), none, .mov (.t 23)⟩])
 (.seq (.reg [⟨(some 25), none, .mov (.t 5)⟩,
   ⟨(some 26), none, .call n_impl_ReadImage [(.t 25)]⟩,
   ⟨(some 24), none, .mov (.t 26)⟩,
   ⟨(some 27), none, .ext 0 (.t 24)⟩,
   ⟨(some 28), none, .ext 1 (.t 24)⟩,
   ⟨(some 6), none, .alloc [.nils]⟩,
   ⟨none, none, .st 1 (.t 6) (.t 27)⟩,
   ⟨(some 7), none, .mov (.t 28)⟩])
 (.seq (.seq (.reg [⟨(some 29), none, .ld (some 1) (.t 6)⟩,
   ⟨(some 30), none, .ld (some 1) (.t 3)⟩,
   ⟨(some 31), none, .call n_laws_eqMach [(.t 29), (.t 30)]⟩,
   ⟨(some 32), none, .not (.t 31)⟩,
   ⟨(some 33), none, .mov (.t 32)⟩,
   ⟨(some 34), (some (33, false)), .mov (.t 7)⟩,
   ⟨(some 35), (some (33, false)), .mov (.t 4)⟩,
   ⟨(some 36), (some (33, false)), .beq true (.t 34) (.t 35)⟩,
   ⟨(some 37), none, .pick (.t 33) (.c (.p (.bool true))) (.t 36)⟩])
 (.cond (.t 37)
  (.seq (.reg [⟨(some 2), none, .mov (.c (.p (.bool false)))⟩])
  (.ret))
  (.skip)))
 (.seq (.seq (.reg [⟨(some 38), none, .mov (.t 5)⟩,
   ⟨(some 39), none, .mov (.t 0)⟩,
   ⟨(some 40), none, .call n_laws_toByteS [(.t 39)]⟩,
   ⟨(some 41), none, .call n_laws_eqByteS [(.t 38), (.t 40)]⟩,
   ⟨(some 42), none, .not (.t 41)⟩])
 (.cond (.t 42)
  (.seq (.reg [⟨(some 2), none, .mov (.c (.p (.bool false)))⟩])
  (.ret))
  (.skip)))
 (.seq (.reg [⟨(some 8), none, .mov (.c (.p (.int .i64 1)))⟩])
 (.seq (.reg [⟨(some 43), none, .mov (.t 5)⟩,
   ⟨(some 44), none, .mov (.t 8)⟩,
   ⟨(some 45), none, .call n_laws_markByteS [(.t 43), (.t 44)]⟩,
   ⟨(some 8), none, .mov (.t 45)⟩])
 (.seq (.seq (.reg [⟨(some 46), none, .mov (.t 8)⟩,
   ⟨(some 47), none, .bin .lss (.t 46) (.c (.p (.int .i64 0)))⟩,
   ⟨(some 48), none, .mov (.t 47)⟩,
   ⟨(some 49), (some (48, false)), .ld (some 1) (.t 6)⟩,
   ⟨(some 50), (some (48, false)), .ld (some 1) (.t 3)⟩,
   ⟨(some 51), (some (48, false)), .call n_laws_eqMach [(.t 49), (.t 50)]⟩,
   ⟨(some 52), (some (48, false)), .not (.t 51)⟩,
   ⟨(some 53), none, .pick (.t 48) (.c (.p (.bool true))) (.t 52)⟩,
   ⟨(some 54), none, .mov (.t 53)⟩,
   ⟨(some 55), (some (54, false)), .mov (.t 7)⟩,
   ⟨(some 56), (some (54, false)), .mov (.t 4)⟩,
   ⟨(some 57), (some (54, false)), .beq true (.t 55) (.t 56)⟩,
   ⟨(some 58), none, .pick (.t 54) (.c (.p (.bool true))) (.t 57)⟩])
 (.cond (.t 58)
  (.seq (.reg [⟨(some 2), none, .mov (.c (.p (.bool false)))⟩])
  (.ret))
  (.skip)))
 (.seq (.reg [⟨(some 9), none, .mov (.c (.p (.int .i64 1)))⟩])
 (.seq (.reg [⟨(some 59), none, .ld (some 1) (.t 6)⟩,
   ⟨(some 60), none, .mov (.t 9)⟩,
   ⟨(some 61), none, .call n_laws_markMach [(.t 59), (.t 60)]⟩,
   ⟨(some 9), none, .mov (.t 61)⟩])
 (.seq (.reg [⟨(some 10), none, .mov (.c (.p (.int .i64 1)))⟩])
 (.seq (.reg [⟨(some 62), none, .ld (some 1) (.t 6)⟩,
   ⟨(some 63), none, .mov (.t 10)⟩,
   ⟨(some 64), none, .call n_laws_heldMach [(.t 62), (.t 63)]⟩,
   ⟨(some 10), none, .mov (.t 64)⟩])
 (.seq (.seq (.reg [⟨(some 65), none, .mov (.t 10)⟩,
   ⟨(some 66), none, .bin .lss (.t 65) (.c (.p (.int .i64 0)))⟩])
 (.cond (.t 66)
  (.seq (.reg [⟨(some 2), none, .mov (.c (.p (.bool false)))⟩])
  (.ret))
  (.skip)))
 (.seq (.seq (.reg [⟨(some 67), none, .mov (.t 10)⟩,
   ⟨(some 68), none, .mov (.t 9)⟩,
   ⟨(some 69), none, .bin .neq (.t 67) (.t 68)⟩])
 (.cond (.t 69)
  (.seq (.reg [⟨(some 2), none, .mov (.c (.p (.bool false)))⟩])
  (.ret))
  (.skip)))
 (.seq (.reg [⟨(some 71), none, .mov (.t 0)⟩,
   ⟨(some 72), none, .call n_laws_toByteS [(.t 71)]⟩,
   ⟨(some 73), none, .call n_impl_ReadImage [(.t 72)]⟩,
   ⟨(some 70), none, .mov (.t 73)⟩,
   ⟨(some 74), none, .ext 0 (.t 70)⟩,
   ⟨(some 75), none, .ext 1 (.t 70)⟩,
   ⟨(some 11), none, .alloc [.nils]⟩,
   ⟨none, none, .st 1 (.t 11) (.t 74)⟩,
   ⟨(some 12), none, .mov (.t 75)⟩])
 (.seq (.seq (.reg [⟨(some 76), none, .ld (some 1) (.t 11)⟩,
   ⟨(some 77), none, .ld (some 1) (.t 3)⟩,
   ⟨(some 78), none, .call n_laws_eqMach [(.t 76), (.t 77)]⟩,
   ⟨(some 79), none, .not (.t 78)⟩,
   ⟨(some 80), none, .mov (.t 79)⟩,
   ⟨(some 81), (some (80, false)), .mov (.t 12)⟩,
   ⟨(some 82), (some (80, false)), .mov (.t 4)⟩,
   ⟨(some 83), (some (80, false)), .beq true (.t 81) (.t 82)⟩,
   ⟨(some 84), none, .pick (.t 80) (.c (.p (.bool true))) (.t 83)⟩])
 (.cond (.t 84)
  (.seq (.reg [⟨(some 2), none, .mov (.c (.p (.bool false)))⟩])
  (.ret))
  (.skip)))
 (.seq (.reg [⟨(some 10), none, .mov (.c (.p (.int .i64 1)))⟩])
 (.seq (.reg [⟨(some 85), none, .ld (some 1) (.t 6)⟩,
   ⟨(some 86), none, .mov (.t 10)⟩,
   ⟨(some 87), none, .call n_laws_heldMach [(.t 85), (.t 86)]⟩,
   ⟨(some 10), none, .mov (.t 87)⟩])
 (.seq (.seq (.reg [⟨(some 88), none, .mov (.t 10)⟩,
   ⟨(some 89), none, .bin .lss (.t 88) (.c (.p (.int .i64 0)))⟩])
 (.cond (.t 89)
  (.seq (.reg [⟨(some 2), none, .mov (.c (.p (.bool false)))⟩])
  (.ret))
  (.skip)))
 (.seq (.seq (.reg [⟨(some 90), none, .mov (.t 10)⟩,
   ⟨(some 91), none, .mov (.t 9)⟩,
   ⟨(some 92), none, .bin .neq (.t 90) (.t 91)⟩])
 (.cond (.t 92)
  (.seq (.reg [⟨(some 2), none, .mov (.c (.p (.bool false)))⟩])
  (.ret))
  (.skip)))
 (.seq (.reg [⟨(some 2), none, .mov (.c (.p (.bool true)))⟩])
 (.ret)))))))))))))))))))))))⟩
theorem k_laws_FnExactReadImage : compF Tryd.prog n_laws_FnExactReadImage = some F_laws_FnExactReadImage := by kernel_rfl
end Go.Proofs.YtbbobekgnclkfaaDoor
