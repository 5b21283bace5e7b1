/-
  How a machine's function is read from bytes: the plain model, and the reference's instruction.
-/
import Derived.Test.YtbbobekgnclkfaaDoorM14
import Derived.Test.YtbbobekgnclkfaaDoorCode2
namespace Go.Proofs.YtbbobekgnclkfaaDoor
open Go Go.Aw
set_option maxRecDepth 100000
set_option maxHeartbeats 4000000

/-! ### The plain model -/
def byAt (code : List Int) (i : Nat) : Int := code.getD i 0
def BytesOk (code : List Int) : Prop := ∀ n ∈ code, 0 ≤ n ∧ n ≤ 255
theorem byAt_get {code : List Int} {i : Nat} (h : i < code.length) : code[i]? = some (byAt code i) := by
  rw [byAt, List.getD_eq_getElem?_getD, List.getElem?_eq_getElem h]; rfl
theorem byAt_ok {code : List Int} (hb : BytesOk code) (i : Nat) : 0 ≤ byAt code i ∧ byAt code i ≤ 255 := by
  rcases Nat.lt_or_ge i code.length with h | h
  · exact hb _ (List.mem_of_getElem? (byAt_get h))
  · rw [byAt, List.getD_eq_getElem?_getD, List.getElem?_eq_none h]; simp
def s8 (n : Int) : Int := if 127 < n then n - 256 else n
def bare (op : Int) : Mins := ⟨op, 0, 0, 0, 0⟩
def jmpO (op : Int) : Bool := op == 20 || op == 21
def decX (code : List Int) (at' : Nat) (op : Int) (long : Bool) : Mins :=
  let n := sizeB (bare op) long
  let b1 := byAt code (at' + 1)
  let b2 := byAt code (at' + 2)
  if jmpO op then ⟨op, if op = 21 then b1 else 0, 0, 0, if long then byAt code (at' + n - 2) + 256 * byAt code (at' + n - 1) else (at' + n : Nat) + s8 (byAt code (at' + n - 1))⟩
  else if op == 1 || inR op 15 18 then ⟨op, b1, 0, 0, b2⟩
  else if inR op 3 9 then ⟨op, b1 % 8, b1 / 8, b2, 0⟩
  else if op == 2 || inR op 10 12 then ⟨op, b1 % 8, b1 / 8, 0, 0⟩
  else if op == 14 then ⟨op, 0, 0, 0, b1⟩ else ⟨op, b1, 0, 0, 0⟩
def opAt (code : List Int) (i : Nat) : Int := byAt code i % 128
def longAt (code : List Int) (i : Nat) : Bool := decide (128 ≤ byAt code i)
/-- What is read at a byte: the instruction and its size. -/
def decOk1 (code : List Int) (i : Nat) : Bool := inR (opAt code i) 1 22 && (!longAt code i || jmpO (opAt code i))
def decSz (code : List Int) (i : Nat) : Nat := sizeB (bare (opAt code i)) (longAt code i)
def decGood (code : List Int) (i : Nat) : Bool := decOk1 code i && decide (i + decSz code i ≤ code.length)
def decI (code : List Int) (i : Nat) : Mins := decX code i (opAt code i) (longAt code i)

theorem decSz_two (code : List Int) (i : Nat) : 2 ≤ decSz code i ∧ decSz code i ≤ 4 := by
  unfold decSz sizeB
  split
  · split <;> split <;> omega
  · rcases plainB_len (bare (opAt code i)) with h | h <;> omega

theorem i64_nat {x : Int} {n : Nat} (h : x = n) (hn : n ≤ 9223372036854775807) : IntKind.i64.wrap x = n := by rw [i64_small (by omega) (by omega), h]

variable (G : Glob)

def K_spec_l25One : AK := .seq (.reg [⟨(some 4), none, .alloc [(.p (.int .i64 0)), (.p (.int .i64 0)), (.p (.int .i64 0)), (.p (.int .i64 0)), (.p (.int .i64 0))]⟩, ⟨(some 5), none, .mov (.c (.p (.int .i64 0)))⟩, ⟨(some 6), none, .mov (.c (.p (.bool false)))⟩]) (.seq (.reg [⟨(some 12), none, .mov (.t 0)⟩, ⟨(some 13), none, .mov (.t 1)⟩, ⟨(some 14), none, .idxS 1 (.t 12) (.t 13)⟩, ⟨(some 15), none, .ld none (.t 14)⟩, ⟨(some 16), none, .bin .geq (.t 15) (.c (.p (.int .u8 128)))⟩, ⟨(some 7), none, .mov (.t 16)⟩]) (.seq (.reg [⟨(some 17), none, .mov (.t 0)⟩, ⟨(some 18), none, .mov (.t 1)⟩, ⟨(some 19), none, .idxS 1 (.t 17) (.t 18)⟩, ⟨(some 20), none, .ld none (.t 19)⟩, ⟨(some 21), none, .bin .rem (.t 20) (.c (.p (.int .u8 128)))⟩, ⟨(some 22), none, .conv .i64 (.t 21)⟩, ⟨(some 23), none, .bld [(.p (.int .i64 0)), (.p (.int .i64 0)), (.p (.int .i64 0)), (.p (.int .i64 0)), (.p (.int .i64 0))] [(0, 1, (.t 22))]⟩, ⟨(some 8), none, .alloc [(.p (.int .i64 0)), (.p (.int .i64 0)), (.p (.int .i64 0)), (.p (.int .i64 0)), (.p (.int .i64 0))]⟩, ⟨none, none, .st 5 (.t 8) (.t 23)⟩]) (.seq (.reg [⟨(some 9), none, .mov (.c (.p (.int .i64 0)))⟩]) (.cut (.seq (.reg [⟨(some 25), none, .fldA 0 (.t 8)⟩, ⟨(some 26), none, .ld none (.t 25)⟩, ⟨(some 27), none, .call n_spec_l22Word [(.t 26)]⟩, ⟨(some 24), none, .mov (.t 27)⟩, ⟨(some 28), none, .ext 0 (.t 24)⟩, ⟨(some 29), none, .ext 1 (.t 24)⟩, ⟨(some 10), none, .mov (.t 28)⟩, ⟨(some 11), none, .mov (.t 29)⟩]) (.seq (.reg [⟨(some 30), none, .mov (.t 11)⟩, ⟨(some 31), none, .bins .eql (.t 30) (.c (.p (.str [])))⟩, ⟨(some 32), none, .mov (.t 31)⟩, ⟨(some 33), (some (32, false)), .mov (.t 7)⟩, ⟨(some 34), (some (32, false)), .mov (.t 33)⟩, ⟨(some 35), (some (34, true)), .ld (some 5) (.t 8)⟩, ⟨(some 36), (some (34, true)), .call n_spec_l24Jumps [(.t 35)]⟩, ⟨(some 37), (some (34, true)), .not (.t 36)⟩, ⟨(some 38), (some (32, false)), .pick (.t 34) (.t 37) (.c (.p (.bool false)))⟩, ⟨(some 39), none, .pick (.t 32) (.c (.p (.bool true))) (.t 38)⟩]) (.cond (.t 39) (.seq (.reg [⟨(some 40), none, .ld (some 5) (.t 8)⟩, ⟨none, none, .st 5 (.t 4) (.t 40)⟩, ⟨(some 5), none, .mov (.c (.p (.int .i64 0)))⟩, ⟨(some 6), none, .mov (.c (.p (.bool false)))⟩]) (.ret)) (.skip)))) (.seq (.reg [⟨(some 41), none, .ld (some 5) (.t 8)⟩, ⟨(some 42), none, .mov (.t 7)⟩, ⟨(some 43), none, .call n_spec_l25Size [(.t 41), (.t 42)]⟩, ⟨(some 9), none, .mov (.t 43)⟩]) (.seq (.seq (.reg [⟨(some 44), none, .mov (.t 1)⟩, ⟨(some 45), none, .mov (.t 9)⟩, ⟨(some 46), none, .bin .add (.t 44) (.t 45)⟩, ⟨(some 47), none, .mov (.t 0)⟩, ⟨(some 48), none, .len false (.t 47)⟩, ⟨(some 49), none, .bin .gtr (.t 46) (.t 48)⟩]) (.cond (.t 49) (.seq (.reg [⟨(some 50), none, .ld (some 5) (.t 8)⟩, ⟨none, none, .st 5 (.t 4) (.t 50)⟩, ⟨(some 5), none, .mov (.c (.p (.int .i64 0)))⟩, ⟨(some 6), none, .mov (.c (.p (.bool false)))⟩]) (.ret)) (.skip))) (.cut (.blk 0 (.seq (.reg [⟨(some 59), none, .ld (some 5) (.t 8)⟩, ⟨(some 60), none, .call n_spec_l24Jumps [(.t 59)]⟩, ⟨(some 58), none, .mov (.t 60)⟩]) (.cond (.t 58) (.seq (.seq (.reg [⟨(some 61), none, .fldA 0 (.t 8)⟩, ⟨(some 62), none, .ld none (.t 61)⟩, ⟨(some 63), none, .bin .eql (.t 62) (.c (.p (.int .i64 21)))⟩]) (.cond (.t 63) (.reg [⟨(some 64), none, .mov (.t 0)⟩, ⟨(some 65), none, .mov (.t 1)⟩, ⟨(some 66), none, .bin .add (.t 65) (.c (.p (.int .i64 1)))⟩, ⟨(some 67), none, .idxS 1 (.t 64) (.t 66)⟩, ⟨(some 68), none, .ld none (.t 67)⟩, ⟨(some 69), none, .conv .i64 (.t 68)⟩, ⟨(some 70), none, .fldA 1 (.t 8)⟩, ⟨none, none, .st 1 (.t 70) (.t 69)⟩]) (.skip))) (.seq (.reg [⟨(some 71), none, .mov (.t 7)⟩]) (.cond (.t 71) (.reg [⟨(some 72), none, .mov (.t 0)⟩, ⟨(some 73), none, .mov (.t 1)⟩, ⟨(some 74), none, .mov (.t 9)⟩, ⟨(some 75), none, .bin .add (.t 73) (.t 74)⟩, ⟨(some 76), none, .bin .sub (.t 75) (.c (.p (.int .i64 2)))⟩, ⟨(some 77), none, .idxS 1 (.t 72) (.t 76)⟩, ⟨(some 80), none, .mov (.t 0)⟩, ⟨(some 81), none, .mov (.t 1)⟩, ⟨(some 82), none, .mov (.t 9)⟩, ⟨(some 83), none, .bin .add (.t 81) (.t 82)⟩, ⟨(some 84), none, .bin .sub (.t 83) (.c (.p (.int .i64 1)))⟩, ⟨(some 85), none, .idxS 1 (.t 80) (.t 84)⟩, ⟨(some 78), none, .ld none (.t 77)⟩, ⟨(some 79), none, .conv .i64 (.t 78)⟩, ⟨(some 86), none, .ld none (.t 85)⟩, ⟨(some 87), none, .conv .i64 (.t 86)⟩, ⟨(some 88), none, .bin .mul (.c (.p (.int .i64 256))) (.t 87)⟩, ⟨(some 89), none, .bin .add (.t 79) (.t 88)⟩, ⟨(some 90), none, .fldA 4 (.t 8)⟩, ⟨none, none, .st 1 (.t 90) (.t 89)⟩]) (.reg [⟨(some 91), none, .mov (.t 1)⟩, ⟨(some 92), none, .mov (.t 9)⟩, ⟨(some 93), none, .bin .add (.t 91) (.t 92)⟩, ⟨(some 94), none, .mov (.t 0)⟩, ⟨(some 95), none, .mov (.t 1)⟩, ⟨(some 96), none, .mov (.t 9)⟩, ⟨(some 97), none, .bin .add (.t 95) (.t 96)⟩, ⟨(some 98), none, .bin .sub (.t 97) (.c (.p (.int .i64 1)))⟩, ⟨(some 99), none, .idxS 1 (.t 94) (.t 98)⟩, ⟨(some 103), none, .mov (.t 0)⟩, ⟨(some 104), none, .mov (.t 1)⟩, ⟨(some 105), none, .mov (.t 9)⟩, ⟨(some 106), none, .bin .add (.t 104) (.t 105)⟩, ⟨(some 107), none, .bin .sub (.t 106) (.c (.p (.int .i64 1)))⟩, ⟨(some 108), none, .idxS 1 (.t 103) (.t 107)⟩, ⟨(some 100), none, .ld none (.t 99)⟩, ⟨(some 101), none, .conv .i64 (.t 100)⟩, ⟨(some 102), none, .bin .add (.t 93) (.t 101)⟩, ⟨(some 109), none, .ld none (.t 108)⟩, ⟨(some 110), none, .conv .i64 (.t 109)⟩, ⟨(some 111), none, .bin .gtr (.t 110) (.c (.p (.int .i64 127)))⟩, ⟨(some 112), none, .call n_spec_l5Truth [(.t 111)]⟩, ⟨none, none, .chk none 99 100⟩, ⟨(some 113), none, .bin .mul (.c (.p (.int .i64 256))) (.t 112)⟩, ⟨(some 114), none, .bin .sub (.t 102) (.t 113)⟩, ⟨(some 115), none, .fldA 4 (.t 8)⟩, ⟨none, none, .st 1 (.t 115) (.t 114)⟩])))) (.seq (.reg [⟨(some 117), none, .fldA 0 (.t 8)⟩, ⟨(some 118), none, .ld none (.t 117)⟩, ⟨(some 119), none, .bin .eql (.t 118) (.c (.p (.int .i64 1)))⟩, ⟨(some 120), none, .mov (.t 119)⟩, ⟨(some 121), (some (120, false)), .fldA 0 (.t 8)⟩, ⟨(some 122), (some (120, false)), .ld none (.t 121)⟩, ⟨(some 123), (some (120, false)), .call n_spec_l1In [(.t 122), (.c (.p (.int .i64 15))), (.c (.p (.int .i64 18)))]⟩, ⟨(some 124), none, .pick (.t 120) (.c (.p (.bool true))) (.t 123)⟩, ⟨(some 116), none, .mov (.t 124)⟩]) (.cond (.t 116) (.seq (.reg [⟨(some 125), none, .mov (.t 0)⟩, ⟨(some 126), none, .mov (.t 1)⟩, ⟨(some 127), none, .bin .add (.t 126) (.c (.p (.int .i64 1)))⟩, ⟨(some 128), none, .idxS 1 (.t 125) (.t 127)⟩, ⟨(some 129), none, .ld none (.t 128)⟩, ⟨(some 130), none, .conv .i64 (.t 129)⟩, ⟨(some 131), none, .fldA 1 (.t 8)⟩, ⟨none, none, .st 1 (.t 131) (.t 130)⟩]) (.reg [⟨(some 132), none, .mov (.t 0)⟩, ⟨(some 133), none, .mov (.t 1)⟩, ⟨(some 134), none, .bin .add (.t 133) (.c (.p (.int .i64 2)))⟩, ⟨(some 135), none, .idxS 1 (.t 132) (.t 134)⟩, ⟨(some 136), none, .ld none (.t 135)⟩, ⟨(some 137), none, .conv .i64 (.t 136)⟩, ⟨(some 138), none, .fldA 4 (.t 8)⟩, ⟨none, none, .st 1 (.t 138) (.t 137)⟩])) (.seq (.reg [⟨(some 140), none, .fldA 0 (.t 8)⟩, ⟨(some 141), none, .ld none (.t 140)⟩, ⟨(some 142), none, .call n_spec_l1In [(.t 141), (.c (.p (.int .i64 3))), (.c (.p (.int .i64 9)))]⟩, ⟨(some 139), none, .mov (.t 142)⟩]) (.cond (.t 139) (.seq (.reg [⟨(some 143), none, .mov (.t 0)⟩, ⟨(some 144), none, .mov (.t 1)⟩, ⟨(some 145), none, .bin .add (.t 144) (.c (.p (.int .i64 1)))⟩, ⟨(some 146), none, .idxS 1 (.t 143) (.t 145)⟩, ⟨(some 147), none, .ld none (.t 146)⟩, ⟨(some 148), none, .conv .i64 (.t 147)⟩, ⟨(some 149), none, .bin .rem (.t 148) (.c (.p (.int .i64 8)))⟩, ⟨(some 150), none, .fldA 1 (.t 8)⟩, ⟨none, none, .st 1 (.t 150) (.t 149)⟩]) (.seq (.reg [⟨(some 151), none, .mov (.t 0)⟩, ⟨(some 152), none, .mov (.t 1)⟩, ⟨(some 153), none, .bin .add (.t 152) (.c (.p (.int .i64 1)))⟩, ⟨(some 154), none, .idxS 1 (.t 151) (.t 153)⟩, ⟨(some 155), none, .ld none (.t 154)⟩, ⟨(some 156), none, .conv .i64 (.t 155)⟩, ⟨(some 157), none, .bin .quo (.t 156) (.c (.p (.int .i64 8)))⟩, ⟨(some 158), none, .fldA 2 (.t 8)⟩, ⟨none, none, .st 1 (.t 158) (.t 157)⟩]) (.reg [⟨(some 159), none, .mov (.t 0)⟩, ⟨(some 160), none, .mov (.t 1)⟩, ⟨(some 161), none, .bin .add (.t 160) (.c (.p (.int .i64 2)))⟩, ⟨(some 162), none, .idxS 1 (.t 159) (.t 161)⟩, ⟨(some 163), none, .ld none (.t 162)⟩, ⟨(some 164), none, .conv .i64 (.t 163)⟩, ⟨(some 165), none, .fldA 3 (.t 8)⟩, ⟨none, none, .st 1 (.t 165) (.t 164)⟩]))) (.seq (.reg [⟨(some 167), none, .fldA 0 (.t 8)⟩, ⟨(some 168), none, .ld none (.t 167)⟩, ⟨(some 169), none, .bin .eql (.t 168) (.c (.p (.int .i64 2)))⟩, ⟨(some 170), none, .mov (.t 169)⟩, ⟨(some 171), (some (170, false)), .fldA 0 (.t 8)⟩, ⟨(some 172), (some (170, false)), .ld none (.t 171)⟩, ⟨(some 173), (some (170, false)), .call n_spec_l1In [(.t 172), (.c (.p (.int .i64 10))), (.c (.p (.int .i64 12)))]⟩, ⟨(some 174), none, .pick (.t 170) (.c (.p (.bool true))) (.t 173)⟩, ⟨(some 166), none, .mov (.t 174)⟩]) (.cond (.t 166) (.seq (.reg [⟨(some 175), none, .mov (.t 0)⟩, ⟨(some 176), none, .mov (.t 1)⟩, ⟨(some 177), none, .bin .add (.t 176) (.c (.p (.int .i64 1)))⟩, ⟨(some 178), none, .idxS 1 (.t 175) (.t 177)⟩, ⟨(some 179), none, .ld none (.t 178)⟩, ⟨(some 180), none, .conv .i64 (.t 179)⟩, ⟨(some 181), none, .bin .rem (.t 180) (.c (.p (.int .i64 8)))⟩, ⟨(some 182), none, .fldA 1 (.t 8)⟩, ⟨none, none, .st 1 (.t 182) (.t 181)⟩]) (.reg [⟨(some 183), none, .mov (.t 0)⟩, ⟨(some 184), none, .mov (.t 1)⟩, ⟨(some 185), none, .bin .add (.t 184) (.c (.p (.int .i64 1)))⟩, ⟨(some 186), none, .idxS 1 (.t 183) (.t 185)⟩, ⟨(some 187), none, .ld none (.t 186)⟩, ⟨(some 188), none, .conv .i64 (.t 187)⟩, ⟨(some 189), none, .bin .quo (.t 188) (.c (.p (.int .i64 8)))⟩, ⟨(some 190), none, .fldA 2 (.t 8)⟩, ⟨none, none, .st 1 (.t 190) (.t 189)⟩])) (.seq (.reg [⟨(some 192), none, .fldA 0 (.t 8)⟩, ⟨(some 193), none, .ld none (.t 192)⟩, ⟨(some 194), none, .bin .eql (.t 193) (.c (.p (.int .i64 14)))⟩, ⟨(some 191), none, .mov (.t 194)⟩]) (.cond (.t 191) (.reg [⟨(some 195), none, .mov (.t 0)⟩, ⟨(some 196), none, .mov (.t 1)⟩, ⟨(some 197), none, .bin .add (.t 196) (.c (.p (.int .i64 1)))⟩, ⟨(some 198), none, .idxS 1 (.t 195) (.t 197)⟩, ⟨(some 199), none, .ld none (.t 198)⟩, ⟨(some 200), none, .conv .i64 (.t 199)⟩, ⟨(some 201), none, .fldA 4 (.t 8)⟩, ⟨none, none, .st 1 (.t 201) (.t 200)⟩]) (.reg [⟨(some 51), none, .mov (.t 0)⟩, ⟨(some 52), none, .mov (.t 1)⟩, ⟨(some 53), none, .bin .add (.t 52) (.c (.p (.int .i64 1)))⟩, ⟨(some 54), none, .idxS 1 (.t 51) (.t 53)⟩, ⟨(some 55), none, .ld none (.t 54)⟩, ⟨(some 56), none, .conv .i64 (.t 55)⟩, ⟨(some 57), none, .fldA 1 (.t 8)⟩, ⟨none, none, .st 1 (.t 57) (.t 56)⟩])))))))))))) (.seq (.reg [⟨(some 202), none, .ld (some 5) (.t 8)⟩, ⟨(some 203), none, .mov (.t 9)⟩, ⟨none, none, .st 5 (.t 4) (.t 202)⟩, ⟨(some 5), none, .mov (.t 203)⟩, ⟨(some 6), none, .mov (.c (.p (.bool true)))⟩]) (.ret)))))))))
theorem w_spec_l25One : K_spec_l25One.whole = F_spec_l25One.ak := rfl

theorem s_l25One (code : List Int) (hb : BytesOk code) (i : Nat) (hi : i < code.length) (hl : code.length ≤ 1048576) :
    VF Tryd.prog G n_spec_l25One [.p (bysL code), .p (.int .i64 i)]
      (.tup (if decGood code i then [.agg ((decI code i).cs.map .p), .p (.int .i64 (decSz code i)), .p (.bool true)] else [.agg ((bare (opAt code i)).cs.map .p), .p (.int .i64 0), .p (.bool false)])) := by
  refine AC.goK k_spec_l25One w_spec_l25One ?_
  have hbl : bysL code = .lst 1 (code.map fun n => [.int .u8 n]) := rfl
  have hg0 := byAt_get hi
  have h0 := byAt_ok hb i
  have hop : (byAt code i).tmod 128 = opAt code i := by rw [opAt, Int.tmod_eq_emod_of_nonneg h0.1]
  have hop0 : 0 ≤ opAt code i ∧ opAt code i < 128 := by rw [opAt]; omega
  have hcv : IntKind.i64.wrap (opAt code i) = opAt code i := i64_small (by omega) (by omega)
  have hbc : (bare (opAt code i)).cs = [.int .i64 (opAt code i), .int .i64 0, .int .i64 0, .int .i64 0, .int .i64 0] := rfl
  have hlg : decide (128 ≤ byAt code i) = longAt code i := rfl
  simp -implicitDefEqProofs [K_spec_l25One, F_spec_l25One, hbl, hg0, hop, hcv, hlg]
  refine cutA (α := Unit) (fun _ => tsOf 204 [(0, .p (bysL code)), (1, .p (.int .i64 i)), (4, .ptr 0 5 0 0), (5, .p (.int .i64 0)), (6, .p (.bool false)), (7, .p (.bool (longAt code i))), (8, .ptr 1 5 0 0)])
    (fun _ => [.row 5 [(bare 0).cs.map .p], .row 5 [(bare (opAt code i)).cs.map .p]]) (fun _ => decOk1 code i = true) ?_ fun _ hok => ?_
  · simp -implicitDefEqProofs
    refine (s_l22Word G _).use ?_
    by_cases hr : inR (opAt code i) 1 22 = true
    rotate_left
    · have hd : decGood code i = false := by simp [decGood, decOk1, hr]
      simp -implicitDefEqProofs [fldOf_bad (by simpa using hr), hd, bare, Mins.cs]
    have hfl := (fldOf_good hr).1
    cases hL : longAt code i with
    | false =>
      simp -implicitDefEqProofs [hfl]
      refine ⟨by simp [decOk1, hr, hL], wkt_same (by simp) (by simp [okO]) ?_⟩
      simp [below, bysL]
    | true =>
      simp -implicitDefEqProofs [hfl]
      refine (s_l24Jumps G (bare (opAt code i))).use ?_
      have hj : jmp (bare (opAt code i)) = jmpO (opAt code i) := rfl
      cases hJ : jmpO (opAt code i) with
      | false =>
        have hd : decGood code i = false := by simp [decGood, decOk1, hL, hJ]
        simp -implicitDefEqProofs [hj, hJ]
        simp -implicitDefEqProofs [hd, bare, Mins.cs]
      | true =>
        simp -implicitDefEqProofs [hj, hJ]
        refine ⟨by simp [decOk1, hr, hL, hJ], wkt_same (by simp) (by simp [okO]) ?_⟩
        simp [below, bysL]
  simp -implicitDefEqProofs
  refine (s_l25Size G (bare (opAt code i)) (longAt code i) rfl rfl).use ?_
  have hsz : sizeB (bare (opAt code i)) (longAt code i) = decSz code i := rfl
  obtain ⟨hs2, hs4⟩ := decSz_two code i
  have hwn : IntKind.i64.wrap ((i : Int) + decSz code i) = ((i + decSz code i : Nat) : Int) := i64_nat (by omega) (by omega)
  simp -implicitDefEqProofs [hsz, hwn, hbl]
  refine cndb (fun h1 => ?_) (fun h1 => ?_)
  · simp at h1
    have hd : decGood code i = false := by simp [decGood]; intro _; omega
    simp -implicitDefEqProofs [hd]
  simp at h1
  have h1' : i + decSz code i ≤ code.length := by omega
  have hgood : decGood code i = true := by simp [decGood, hok, h1']
  have hj : jmp (bare (opAt code i)) = jmpO (opAt code i) := rfl
  refine cut1 (tsOf 204 [(4, .ptr 0 5 0 0), (8, .ptr 1 5 0 0), (9, .p (.int .i64 (decSz code i)))]) [.row 5 [(bare 0).cs.map .p], .row 5 [(decI code i).cs.map .p]] ?_ ?_
  rotate_left
  · simp -implicitDefEqProofs [hgood]
  have fin : ∀ x : Mins, decI code i = x → ∀ l : List (Nat × AV), FgA 2 l [(4, .ptr 0 5 0 0), (8, .ptr 1 5 0 0), (9, .p (.int .i64 (decSz code i)))] →
    Wk 0 (tsOf 204 l) [.row 5 [(bare 0).cs.map .p], .row 5 [x.cs.map .p]] (tsOf 204 [(4, .ptr 0 5 0 0), (8, .ptr 1 5 0 0), (9, .p (.int .i64 (decSz code i)))]) [.row 5 [(bare 0).cs.map .p], .row 5 [(decI code i).cs.map .p]] := fun x e l hl => by
    rw [e]; exact wkt_same (by simp) (by simp [okO]) hl
  simp -implicitDefEqProofs []
  refine (s_l24Jumps G (bare (opAt code i))).use ?_
  have e1 : decI code i = decX code i (opAt code i) (longAt code i) := rfl
  have hw1 : IntKind.i64.wrap ((i : Int) + 1) = ((i + 1 : Nat) : Int) := i64_nat (by omega) (by omega)
  cases hJ : jmpO (opAt code i) with
  | true =>
    have hc : opAt code i = 20 ∨ opAt code i = 21 := by simpa [jmpO] using hJ
    have hw2 : IntKind.i64.wrap ((i : Int) + decSz code i - 2) = ((i + decSz code i - 2 : Nat) : Int) := i64_nat (by omega) (by omega)
    have hw3 : IntKind.i64.wrap ((i : Int) + decSz code i - 1) = ((i + decSz code i - 1 : Nat) : Int) := i64_nat (by omega) (by omega)
    have hq1 := byAt_get (code := code) (i := i + 1) (by omega)
    have hq2 := byAt_get (code := code) (i := i + decSz code i - 2) (by omega)
    have hq3 := byAt_get (code := code) (i := i + decSz code i - 1) (by omega)
    have b1 := byAt_ok hb (i + 1)
    have b2 := byAt_ok hb (i + decSz code i - 2)
    have b3 := byAt_ok hb (i + decSz code i - 1)
    have hv1 : IntKind.i64.wrap (byAt code (i + 1)) = byAt code (i + 1) := i64_small (by omega) (by omega)
    have hv2 : IntKind.i64.wrap (byAt code (i + decSz code i - 2)) = byAt code (i + decSz code i - 2) := i64_small (by omega) (by omega)
    have hv3 : IntKind.i64.wrap (byAt code (i + decSz code i - 1)) = byAt code (i + decSz code i - 1) := i64_small (by omega) (by omega)
    have hX : decI code i = ⟨opAt code i, if opAt code i = 21 then byAt code (i + 1) else 0, 0, 0, if longAt code i then byAt code (i + decSz code i - 2) + 256 * byAt code (i + decSz code i - 1) else ((i + decSz code i : Nat) : Int) + s8 (byAt code (i + decSz code i - 1))⟩ := by
      rw [e1]; simp only [decX, hsz, if_pos hJ]
    have hwL : IntKind.i64.wrap (byAt code (i + decSz code i - 2) + IntKind.i64.wrap (256 * byAt code (i + decSz code i - 1))) = byAt code (i + decSz code i - 2) + 256 * byAt code (i + decSz code i - 1) := by
      rw [i64_small (x := 256 * _) (by omega) (by omega), i64_small (by omega) (by omega)]
    have hwS : IntKind.i64.wrap (IntKind.i64.wrap ((i : Int) + decSz code i + byAt code (i + decSz code i - 1)) - IntKind.i64.wrap (256 * (if 127 < byAt code (i + decSz code i - 1) then 1 else 0))) = (i : Int) + decSz code i + s8 (byAt code (i + decSz code i - 1)) := by
      rw [i64_small (x := _ + _ + _) (by omega) (by omega)]
      unfold s8
      split
      · rw [i64_small (x := 256 * 1) (by omega) (by omega), i64_small (by omega) (by omega)]; omega
      · rw [i64_small (x := 256 * 0) (by omega) (by omega), i64_small (by omega) (by omega)]; omega
    simp -implicitDefEqProofs [hj, hJ]
    simp -implicitDefEqProofs [hbc]
    rcases hc with e | e <;> cases hL : longAt code i <;> simp -implicitDefEqProofs [e, hbl, hwn, hw1, hw2, hw3, hq1, hq2, hq3, hv1, hv2, hv3, hwL]
    · refine (s_l5Truth G _).use ?_
      simp -implicitDefEqProofs [hwS, hbl, hq3]
      exact fin ⟨20, 0, 0, 0, _⟩ (by rw [hX]; simp [e, hL]) _ (by simp [below])
    · exact fin ⟨20, 0, 0, 0, _⟩ (by rw [hX]; simp [e, hL]) _ (by simp [below])
    · refine ⟨by omega, (s_l5Truth G _).use ?_⟩
      simp -implicitDefEqProofs [hwS, hbl, hq3]
      exact fin ⟨21, byAt code (i + 1), 0, 0, _⟩ (by rw [hX]; simp [e, hL]) _ (by simp [below])
    · refine ⟨by omega, fin ⟨21, byAt code (i + 1), 0, 0, _⟩ (by rw [hX]; simp [e, hL]) _ (by simp [below])⟩
  | false =>
    have hX : decI code i = decX code i (opAt code i) (longAt code i) := rfl
    have hJ' : ¬ jmpO (opAt code i) = true := by simp [hJ]
    have hnj : jmp (bare (opAt code i)) = false := hJ
    have hsP : decSz code i = (plainB (bare (opAt code i))).length := by rw [← hsz, sizeB, if_neg (by simpa using hnj)]
    have b1 := byAt_ok hb (i + 1)
    have b2 := byAt_ok hb (i + 2)
    have hq1 := byAt_get (code := code) (i := i + 1) (by omega)
    have hw2 : IntKind.i64.wrap ((i : Int) + 2) = ((i + 2 : Nat) : Int) := i64_nat (by omega) (by omega)
    have ht2 : ((i : Int) + 2).toNat = i + 2 := by omega
    have hv1 : IntKind.i64.wrap (byAt code (i + 1)) = byAt code (i + 1) := i64_small (by omega) (by omega)
    have hv2 : IntKind.i64.wrap (byAt code (i + 2)) = byAt code (i + 2) := i64_small (by omega) (by omega)
    have hm : (byAt code (i + 1)).tmod 8 = byAt code (i + 1) % 8 := Int.tmod_eq_emod_of_nonneg b1.1
    have hdv : IntKind.i64.wrap (byAt code (i + 1) / 8) = byAt code (i + 1) / 8 := i64_small (by omega) (by omega)
    have hdd : (byAt code (i + 1)).tdiv 8 = byAt code (i + 1) / 8 := Int.tdiv_eq_ediv_of_nonneg b1.1
    simp -implicitDefEqProofs [hj, hJ]
    simp -implicitDefEqProofs [hbc]
    by_cases h1 : opAt code i = 1
    · have h3 : decSz code i = 3 := by rw [hsP, h1]; rfl
      have hq2 := byAt_get (code := code) (i := i + 2) (by omega)
      simp -implicitDefEqProofs [h1, hbl, ht2, hw1, hw2, hq1, hq2, hv1, hv2]
      exact ⟨by omega, by omega, fin ⟨1, byAt code (i + 1), 0, 0, byAt code (i + 2)⟩ (by rw [hX, h1]; rfl) _ (by simp [below])⟩
    simp -implicitDefEqProofs [h1]
    refine (s_l1In G _ _ _).use ?_
    by_cases h2 : inR (opAt code i) 15 18 = true
    · have h3 : decSz code i = 3 := by rw [hsP]; simp [plainB, bare, h2]
      have hq2 := byAt_get (code := code) (i := i + 2) (by omega)
      simp -implicitDefEqProofs [h2, hbl, ht2, hw1, hw2, hq1, hq2, hv1, hv2]
      exact ⟨by omega, by omega, fin ⟨opAt code i, byAt code (i + 1), 0, 0, byAt code (i + 2)⟩ (by rw [hX]; simp [decX, hJ, h2]) _ (by simp [below])⟩
    simp -implicitDefEqProofs [h2]
    refine (s_l1In G _ _ _).use ?_
    by_cases h4 : inR (opAt code i) 3 9 = true
    · have h3 : decSz code i = 3 := by rw [hsP]; simp [plainB, bare, h1, h2, h4]
      have hq2 := byAt_get (code := code) (i := i + 2) (by omega)
      simp -implicitDefEqProofs [h4, hbl, ht2, hw1, hw2, hq1, hq2, hv1, hv2, hm, hdd, hdv]
      exact ⟨by omega, by omega, fin ⟨opAt code i, byAt code (i + 1) % 8, byAt code (i + 1) / 8, byAt code (i + 2), 0⟩ (by rw [hX]; simp [decX, hJ, h1, h2, h4]) _ (by simp [below])⟩
    simp -implicitDefEqProofs [h4]
    by_cases h5 : opAt code i = 2
    · simp -implicitDefEqProofs [h5, hbl, hw1, hw2, hq1, hv1, hm, hdd, hdv]
      exact ⟨by omega, fin ⟨2, byAt code (i + 1) % 8, byAt code (i + 1) / 8, 0, 0⟩ (by rw [hX, h5]; rfl) _ (by simp [below])⟩
    simp -implicitDefEqProofs [h5]
    refine (s_l1In G _ _ _).use ?_
    by_cases h6 : inR (opAt code i) 10 12 = true
    · simp -implicitDefEqProofs [h6, hbl, hw1, hw2, hq1, hv1, hm, hdd, hdv]
      exact ⟨by omega, fin ⟨opAt code i, byAt code (i + 1) % 8, byAt code (i + 1) / 8, 0, 0⟩ (by rw [hX]; simp [decX, hJ, h1, h2, h4, h5, h6]) _ (by simp [below])⟩
    simp -implicitDefEqProofs [h6]
    by_cases h7 : opAt code i = 14
    · simp -implicitDefEqProofs [h7, hbl, hw1, hw2, hq1, hv1]
      exact ⟨by omega, fin ⟨14, 0, 0, 0, byAt code (i + 1)⟩ (by rw [hX, h7]; rfl) _ (by simp [below])⟩
    simp -implicitDefEqProofs [h7, hbl, hw1, hw2, hq1, hv1]
    exact ⟨by omega, fin ⟨opAt code i, byAt code (i + 1), 0, 0, 0⟩ (by rw [hX]; simp [decX, hJ, h1, h2, h4, h5, h6, h7]) _ (by simp [below])⟩
end Go.Proofs.YtbbobekgnclkfaaDoor
