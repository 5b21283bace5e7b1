/-
  How a machine's function is encoded: the program's answer.
-/
import Derived.Test.YtbbobekgnclkfaaDoorM17
import Derived.Test.YtbbobekgnclkfaaDoorL7
namespace Go.Proofs.YtbbobekgnclkfaaDoor
open Go Go.Aw
set_option maxRecDepth 100000
set_option maxHeartbeats 4000000

theorem shiftL_pure0 (n : Nat) (l : List PV) : shiftL n (l.map .p) = l.map .p := by
  rw [shiftL_map, List.map_map]; rfl
theorem shiftO_bool (n : Nat) (L : List Bool) : shiftO n (boolO L) = boolO L := by
  simp only [shiftO, boolO, List.map_map]; rfl
theorem shiftO_ints (n : Nat) (L : List Nat) : shiftO n (intsO L) = intsO L := by
  simp only [shiftO, intsO, List.map_map]; rfl
theorem shiftO_bys (n : Nat) (L : List Int) : shiftO n (bysO L) = bysO L := by
  simp only [shiftO, bysO, List.map_map]; rfl
theorem shiftO_fn (n : Nat) (f : Mfn) : shiftO n (.row 3 [f.cs.map .p]) = .row 3 [f.cs.map .p] := by
  simp only [shiftO, List.map_cons, List.map_nil, shiftL_pure0]
theorem shiftO_lay (n : Nat) (f : Mfn) (a b c la lb lc : Nat) (z : Int) : shiftO n (.row 7 [layC f (.sl a 1 0 la) (.sl b 1 0 lb) (.sl c 1 0 lc) z]) = .row 7 [layC f (.sl (n + a) 1 0 la) (.sl (n + b) 1 0 lb) (.sl (n + c) 1 0 lc) z] := rfl
theorem nofnL_pure (l : List PV) : nofnL (l.map .p) = true := by
  induction l with
  | nil => rfl
  | cons a r ih => simp [nofnL, nofn, ih]
theorem nofnO_bool (L : List Bool) : nofnO (boolO L) = true := by simp [nofnO, boolO, nofnL, nofn]
theorem nofnO_ints (L : List Nat) : nofnO (intsO L) = true := by simp [nofnO, intsO, nofnL, nofn]

variable (G : Glob) (hG : G g_forms = some pvForms)
include hG

theorem i_layoutOf1 (f : Mfn) (hn : f.ins.length ≤ 1000000) (hlo : ∀ x ∈ f.ins, x.op = 14 → -9223372036854775808 ≤ x.n) (hc : codeOk f = true) : AC Tryd.prog G n_impl_layoutOf [.agg (f.cs.map .p)] [] fun r h =>
    r = .ret (.ptr 2 7 0 0) ∧ h = [.row 3 [f.cs.map .p], boolO (longs f.ins), .row 7 [layC f (.sl 1 1 0 f.ins.length) (.sl 3 1 0 f.ins.length) (.sl 4 1 0 f.ins.length) (plc f.ins (longs f.ins) f.ins.length)], intsO (szl f.ins (longs f.ins) f.ins.length), intsO (plcs f.ins (longs f.ins) f.ins.length)] :=
  (o_layoutOf0 G hG f hn hlo).mono fun r h e => by rw [if_pos hc] at e; exact e
theorem i_layoutOf2 (f : Mfn) (hn : f.ins.length ≤ 1000000) (hlo : ∀ x ∈ f.ins, x.op = 14 → -9223372036854775808 ≤ x.n) (hc : ¬ codeOk f = true) : VF Tryd.prog G n_impl_layoutOf [.agg (f.cs.map .p)] .nilp :=
  AC.freezeR ((o_layoutOf0 G hG f hn hlo).mono (R' := fun r _ => r = .ret .nilp) fun r h e => by rw [if_neg hc] at e; exact e) (fun t v h e => by cases e) fun v h e => by cases e; exact .keep (by simp [below]) .nil

def encHp (f : Mfn) (L : List Bool) : List AO := [.row 3 [f.cs.map .p], .dead, boolO L, .row 7 [layC f (.sl 2 1 0 f.ins.length) (.sl 4 1 0 f.ins.length) (.sl 5 1 0 f.ins.length) (plc f.ins L f.ins.length)], intsO (szl f.ins L f.ins.length), intsO (plcs f.ins L f.ins.length)]

theorem o_EncodeFn1 (f : Mfn) (hn : f.ins.length ≤ 1000000) (hlo : ∀ x ∈ f.ins, x.op = 14 → -9223372036854775808 ≤ x.n) (hc : codeOk f = true) : AC Tryd.prog G n_impl_EncodeFn [.agg (f.cs.map .p)] [] fun r h =>
    r = .ret (.tup [.sl 6 1 0 (encB f).length, .p (.bool true)]) ∧ ∃ h0, h = h0 ++ [bysO (encB f)] ∧ h0.length = 6 := by
  refine AC.go k_impl_EncodeFn ?_
  have hal : machOk (aloneF (mostS f.ins) f) = true := by simp [codeOk] at hc; exact hc.1
  have hf := fine_of_alone hal
  have hpos := pos_of_alone hal
  obtain ⟨hn2, hfi⟩ := id hf
  simp -implicitDefEqProofs [F_impl_EncodeFn]
  refine (AC.lift (i_layoutOf1 G hG f hn hlo hc) (by simp [belowL, below]) rfl ?_).mono ?_
  · simp only [List.all_cons, List.all_nil, nofnO_bool, nofnO_ints]; rfl
  rintro r h ⟨rfl, rfl⟩
  simp -implicitDefEqProofs [callR_nxt, shiftO_bool, shiftO_ints, shiftO_fn, shiftO_lay, shiftV, shiftL]
  simp -implicitDefEqProofs [Mfn.cs]
  have hL := longs_len f.ins
  simp only [encB]
  generalize longs f.ins = L at hL ⊢
  have hin : insL f.ins = .lst 5 (f.ins.map Mins.cs) := rfl
  refine loopA (fun i : Nat => tsOf 88 [(1, .ptr 0 3 0 0), (4, .ptr 3 7 0 0), (5, if i = 0 then .nils else .sl 6 1 0 (encT f.ins L i).length), (15, .p (insL f.ins)), (16, .p (.int .i64 f.ins.length)), (17, .p (.int .i64 i))]) (fun i => if i = 0 then encHp f L else encHp f L ++ [bysO (encT f.ins L i)])
    (fun i => i ≤ f.ins.length) (fun i => f.ins.length - i) 0 (by simp) ?_ ?_
  · rw [if_pos rfl, if_pos rfl]
    refine wkt_pick [0, 1, 2, 3, 4, 5] rfl (by decide) (hw_row rfl (by simp [belowL, Mfn.cs]) (hw_dead (by simp) (hw_ok rfl (by simp [-Bool.exists_bool, -Bool.forall_bool, okO, boolO]) (hw_rowr (by simp [layC, below]) (by simp [layC, ren, renL]) (hw_ok rfl (by simp [okO, intsO]) (hw_ok rfl (by simp [okO, intsO]) hw_nil)))))) ?_
    simp [below, ren, hin]
  · intro i hi
    simp -implicitDefEqProofs [hin]
    refine cndb (fun h1 => ?_) (fun h1 => ?_)
    · simp at h1
      have h2 : i < L.length := by omega
      obtain ⟨q1, q2, q3, q4⟩ := hfi _ (List.getElem_mem h1)
      have hg1 := List.getElem?_eq_getElem h1
      have hg2 := List.getElem?_eq_getElem h2
      have hbo : ∀ l, bysO l = .row 1 (l.map fun n => [.p (.int .u8 n)]) := fun _ => rfl
      have hbl : ∀ l, bysL l = .lst 1 (l.map fun n => [.int .u8 n]) := fun _ => rfl
      have hoo : boolO L = .row 1 (L.map fun b => [.p (.bool b)]) := rfl
      have hii : ∀ l, intsO l = .row 1 (l.map fun (n : Nat) => [.p (.int .i64 (n : Int))]) := fun _ => rfl
      have htk : ∀ l : List Int, List.take l.length (l.map fun n => [AV.p (.int .u8 n)]) = l.map fun n => [AV.p (.int .u8 n)] := fun l => List.take_of_length_le (by simp)
      have henc := encT_succ f.ins L i
      have hel := encT_len f.ins L i
      have he0 : encT f.ins L 0 = [] := by simp [encT]
      by_cases hj : jmp f.ins[i] = true
      rotate_left
      · have hjo : (f.ins[i].op == 20 || f.ins[i].op == 21) = false := by simpa [jmp] using hj
        have he : encI f.ins L i = plainB f.ins[i] := by simp [encI, hg1, hg2, hj]
        have hl1 := plainB_len f.ins[i]
        have hp0 : ¬ plainB f.ins[i] = [] := fun e => by rw [e] at hl1; simp at hl1
        rcases Nat.eq_zero_or_pos i with rfl | hz
        · simp -implicitDefEqProofs [hg1, encHp]
          simp -implicitDefEqProofs [Mins.cs]
          refine (i_jumpOp G _).use ?_
          simp -implicitDefEqProofs [hjo]
          refine (i_encoded G f.ins[0] q3 (by simpa using hj) q1 q2).use ?_
          simp -implicitDefEqProofs [hbl, hbo, hp0, htk]
          refine ⟨by omega, 1, h1, by omega, ?_⟩
          rw [if_neg (by omega), if_neg (by omega)]
          refine wkt_pick [0, 1, 2, 3, 4, 5, 7] rfl (by decide) (hw_row rfl (by simp [belowL, Mfn.cs]) (hw_dead (by simp) (hw_ok rfl (by simp [-Bool.exists_bool, -Bool.forall_bool, okO, boolO]) (hw_rowr (by simp [layC, below]) (by simp [layC, ren, renL]) (hw_ok rfl (by simp [okO, intsO]) (hw_ok rfl (by simp [okO, intsO]) (hw_row (by simp [henc, he, he0, Function.comp_def]) (by simp) hw_nil))))))) ?_
          simp [below, ren, henc, he, he0, IntKind.wrap, IntKind.bits, IntKind.signed]
        · have hz1 : ¬ i = 0 := by omega
          simp -implicitDefEqProofs [hz1, hg1, encHp]
          simp -implicitDefEqProofs [Mins.cs]
          refine (i_jumpOp G _).use ?_
          simp -implicitDefEqProofs [hjo]
          refine (i_encoded G f.ins[i] q3 (by simpa using hj) q1 q2).use ?_
          simp -implicitDefEqProofs [hbl, hbo, hp0, htk]
          refine ⟨by omega, i + 1, h1, by omega, ?_⟩
          rw [if_neg (by omega), if_neg (by omega)]
          refine wkt_pick [0, 1, 2, 3, 4, 5, 8] rfl (by decide) (hw_row rfl (by simp [belowL, Mfn.cs]) (hw_dead (by simp) (hw_ok rfl (by simp [-Bool.exists_bool, -Bool.forall_bool, okO, boolO]) (hw_rowr (by simp [layC, below]) (by simp [layC, ren, renL]) (hw_ok rfl (by simp [okO, intsO]) (hw_ok rfl (by simp [okO, intsO]) (hw_row (by simp [henc, he, Function.comp_def]) (by simp) hw_nil))))))) ?_
          simp [below, ren, henc, he, w1 (i := i) (by omega)]
      · have hjo : (f.ins[i].op == 20 || f.ins[i].op == 21) = true := by simpa [jmp] using hj
        have q5 := q4 hj
        simp [inR] at q5
        have hnl : f.ins[i].n.toNat < f.ins.length := by omega
        have hp1 := plcs_get (ins := f.ins) (L := L) hnl
        have hle2 := plc_le (ins := f.ins) (L := L) hL (i := f.ins[i].n.toNat)
        have hoff := fun (h : List AO) e0 e1 e2 => i_offset G (h := h) (id := 3) (sid := 4) (pid := 5) (f := f) (lv := .sl 2 1 0 f.ins.length) (sz := plc f.ins L f.ins.length) (L := L) (i := i) hL hf h1 hj e0 e1 e2
        generalize hp : plc f.ins L f.ins[i].n.toNat = p at hp1 hle2 hoff
        have htm : (p : Int).tmod 256 = (p : Int) % 256 := by rw [show (p : Int).tmod 256 = ((p % 256 : Nat) : Int) from rfl]; omega
        have htd : IntKind.i64.wrap ((p : Int) / 256) = (p : Int) / 256 := i64_small (by omega) (by omega)
        have w148 : IntKind.u8.wrap 148 = 148 := rfl
        have w149 : IntKind.u8.wrap 149 = 149 := rfl
        have w20 : IntKind.u8.wrap 20 = 20 := rfl
        have w21 : IntKind.u8.wrap 21 = 21 := rfl
        have hc2 : f.ins[i].op = 20 ∨ f.ins[i].op = 21 := by simpa [jmp] using hj
        cases hLi : L[i] with
        | true =>
          have he : encI f.ins L i = [u8 (f.ins[i].op + 128)] ++ (if f.ins[i].op = 21 then [u8 f.ins[i].a] else []) ++ [u8 (p % 256 : Nat), u8 (p / 256 : Nat)] := by simp [encI, hg1, hg2, hj, hLi, hp]
          clear hoff
          rcases hc2 with e | e
          · have hjt : (f.ins[i].op == 20 || f.ins[i].op == 21) = true := hjo
            rcases Nat.eq_zero_or_pos i with rfl | hz
            · simp -implicitDefEqProofs [hg1, encHp]
              simp -implicitDefEqProofs [Mins.cs]
              refine (i_jumpOp G _).use ?_
              simp -implicitDefEqProofs [hjo, layC, hbo, hoo, hii, h1, hg2, hLi, hL, hnl, hp1, e, w20, w21, w148, w149, htm, htd, htk]
              refine ⟨⟨by omega, by omega⟩, 1, h1, by omega, ?_⟩
              rw [if_neg (by omega), if_neg (by omega)]
              refine wkt_pick [0, 1, 2, 3, 4, 5, 10] rfl (by decide) (hw_row rfl (by simp [belowL, Mfn.cs]) (hw_dead (by simp) (hw_ok rfl (by simp [-Bool.exists_bool, -Bool.forall_bool, okO, boolO]) (hw_rowr (by simp [layC, below]) (by simp [layC, ren, renL]) (hw_ok rfl (by simp [okO, intsO]) (hw_ok rfl (by simp [okO, intsO]) (hw_row (by simp [w20, w21, w148, w149, henc, he, e, u8, htm, htd, List.take_of_length_le, he0]) (by simp) hw_nil))))))) ?_
              simp [below, ren, henc, he, e, he0, IntKind.wrap, IntKind.bits, IntKind.signed]
            · have hz1 : ¬ i = 0 := by omega
              simp -implicitDefEqProofs [hz1, hg1, encHp]
              simp -implicitDefEqProofs [Mins.cs]
              refine (i_jumpOp G _).use ?_
              simp -implicitDefEqProofs [hjo, layC, hbo, hoo, hii, h1, hg2, hLi, hL, hnl, hp1, e, w20, w21, w148, w149, htm, htd, htk]
              refine ⟨by omega, ⟨by omega, by omega⟩, by omega, i + 1, h1, by omega, ?_⟩
              rw [if_neg (by omega), if_neg (by omega)]
              refine wkt_pick [0, 1, 2, 3, 4, 5, 11] rfl (by decide) (hw_row rfl (by simp [belowL, Mfn.cs]) (hw_dead (by simp) (hw_ok rfl (by simp [-Bool.exists_bool, -Bool.forall_bool, okO, boolO]) (hw_rowr (by simp [layC, below]) (by simp [layC, ren, renL]) (hw_ok rfl (by simp [okO, intsO]) (hw_ok rfl (by simp [okO, intsO]) (hw_row (by simp [w20, w21, w148, w149, henc, he, e, u8, htm, htd, List.take_of_length_le]) (by simp) hw_nil))))))) ?_
              simp [below, ren, henc, he, e, w1 (i := i) (by omega)]
          · have hjt : (f.ins[i].op == 20 || f.ins[i].op == 21) = true := hjo
            rcases Nat.eq_zero_or_pos i with rfl | hz
            · simp -implicitDefEqProofs [hg1, encHp]
              simp -implicitDefEqProofs [Mins.cs]
              refine (i_jumpOp G _).use ?_
              simp -implicitDefEqProofs [hjo, layC, hbo, hoo, hii, h1, hg2, hLi, hL, hnl, hp1, e, w20, w21, w148, w149, htm, htd, htk]
              refine ⟨⟨by omega, by omega⟩, 1, h1, by omega, ?_⟩
              rw [if_neg (by omega), if_neg (by omega)]
              refine wkt_pick [0, 1, 2, 3, 4, 5, 12] rfl (by decide) (hw_row rfl (by simp [belowL, Mfn.cs]) (hw_dead (by simp) (hw_ok rfl (by simp [-Bool.exists_bool, -Bool.forall_bool, okO, boolO]) (hw_rowr (by simp [layC, below]) (by simp [layC, ren, renL]) (hw_ok rfl (by simp [okO, intsO]) (hw_ok rfl (by simp [okO, intsO]) (hw_row (by simp [w20, w21, w148, w149, henc, he, e, u8, htm, htd, List.take_of_length_le, he0]) (by simp) hw_nil))))))) ?_
              simp [below, ren, henc, he, e, he0, IntKind.wrap, IntKind.bits, IntKind.signed]
            · have hz1 : ¬ i = 0 := by omega
              simp -implicitDefEqProofs [hz1, hg1, encHp]
              simp -implicitDefEqProofs [Mins.cs]
              refine (i_jumpOp G _).use ?_
              simp -implicitDefEqProofs [hjo, layC, hbo, hoo, hii, h1, hg2, hLi, hL, hnl, hp1, e, w20, w21, w148, w149, htm, htd, htk]
              refine ⟨by omega, by omega, ⟨by omega, by omega⟩, by omega, i + 1, h1, by omega, ?_⟩
              rw [if_neg (by omega), if_neg (by omega)]
              refine wkt_pick [0, 1, 2, 3, 4, 5, 13] rfl (by decide) (hw_row rfl (by simp [belowL, Mfn.cs]) (hw_dead (by simp) (hw_ok rfl (by simp [-Bool.exists_bool, -Bool.forall_bool, okO, boolO]) (hw_rowr (by simp [layC, below]) (by simp [layC, ren, renL]) (hw_ok rfl (by simp [okO, intsO]) (hw_ok rfl (by simp [okO, intsO]) (hw_row (by simp [w20, w21, w148, w149, henc, he, e, u8, htm, htd, List.take_of_length_le]) (by simp) hw_nil))))))) ?_
              simp [below, ren, henc, he, e, w1 (i := i) (by omega)]
        | false =>
          have he : encI f.ins L i = [u8 f.ins[i].op] ++ (if f.ins[i].op = 21 then [u8 f.ins[i].a] else []) ++ [u8 ((p : Int) - plc f.ins L i - sizeB f.ins[i] false)] := by simp [encI, hg1, hg2, hj, hLi, hp]
          rw [hLi] at hoff
          rcases hc2 with e | e
          · have hjt : (f.ins[i].op == 20 || f.ins[i].op == 21) = true := hjo
            rcases Nat.eq_zero_or_pos i with rfl | hz
            · simp -implicitDefEqProofs [hg1, encHp]
              simp -implicitDefEqProofs [Mins.cs]
              refine (i_jumpOp G _).use ?_
              simp -implicitDefEqProofs [hjo, layC, hbo, hoo, hii, h1, hg2, hLi, hL, hnl, hp1, e, w20, w21, w148, w149, htm, htd, htk]
              refine ⟨⟨by omega, by omega⟩, ?_⟩
              refine AC.mono (hoff _ rfl rfl rfl) ?_
              rintro r h ⟨rfl, rfl⟩
              simp -implicitDefEqProofs [callR_nxt, hbo, htk]
              refine ⟨1, h1, by omega, ?_⟩
              rw [if_neg (by omega), if_neg (by omega)]
              refine wkt_pick [0, 1, 2, 3, 4, 5, 10] rfl (by decide) (hw_row rfl (by simp [belowL, Mfn.cs]) (hw_dead (by simp) (hw_ok rfl (by simp [-Bool.exists_bool, -Bool.forall_bool, okO, boolO]) (hw_rowr (by simp [layC, below]) (by simp [layC, ren, renL]) (hw_ok rfl (by simp [okO, intsO]) (hw_ok rfl (by simp [okO, intsO]) (hw_row (by simp [w20, w21, w148, w149, henc, he, e, u8, htm, htd, List.take_of_length_le, he0]) (by simp) hw_nil))))))) ?_
              simp [below, ren, henc, he, e, he0, IntKind.wrap, IntKind.bits, IntKind.signed]
            · have hz1 : ¬ i = 0 := by omega
              simp -implicitDefEqProofs [hz1, hg1, encHp]
              simp -implicitDefEqProofs [Mins.cs]
              refine (i_jumpOp G _).use ?_
              simp -implicitDefEqProofs [hjo, layC, hbo, hoo, hii, h1, hg2, hLi, hL, hnl, hp1, e, w20, w21, w148, w149, htm, htd, htk]
              refine ⟨by omega, ⟨by omega, by omega⟩, ?_⟩
              refine AC.mono (hoff _ rfl rfl rfl) ?_
              rintro r h ⟨rfl, rfl⟩
              simp -implicitDefEqProofs [callR_nxt, hbo, htk]
              refine ⟨by omega, i + 1, h1, by omega, ?_⟩
              rw [if_neg (by omega), if_neg (by omega)]
              refine wkt_pick [0, 1, 2, 3, 4, 5, 11] rfl (by decide) (hw_row rfl (by simp [belowL, Mfn.cs]) (hw_dead (by simp) (hw_ok rfl (by simp [-Bool.exists_bool, -Bool.forall_bool, okO, boolO]) (hw_rowr (by simp [layC, below]) (by simp [layC, ren, renL]) (hw_ok rfl (by simp [okO, intsO]) (hw_ok rfl (by simp [okO, intsO]) (hw_row (by simp [w20, w21, w148, w149, henc, he, e, u8, htm, htd, List.take_of_length_le]) (by simp) hw_nil))))))) ?_
              simp [below, ren, henc, he, e, w1 (i := i) (by omega)]
          · have hjt : (f.ins[i].op == 20 || f.ins[i].op == 21) = true := hjo
            rcases Nat.eq_zero_or_pos i with rfl | hz
            · simp -implicitDefEqProofs [hg1, encHp]
              simp -implicitDefEqProofs [Mins.cs]
              refine (i_jumpOp G _).use ?_
              simp -implicitDefEqProofs [hjo, layC, hbo, hoo, hii, h1, hg2, hLi, hL, hnl, hp1, e, w20, w21, w148, w149, htm, htd, htk]
              refine ⟨⟨by omega, by omega⟩, ?_⟩
              refine AC.mono (hoff _ rfl rfl rfl) ?_
              rintro r h ⟨rfl, rfl⟩
              simp -implicitDefEqProofs [callR_nxt, hbo, htk]
              refine ⟨1, h1, by omega, ?_⟩
              rw [if_neg (by omega), if_neg (by omega)]
              refine wkt_pick [0, 1, 2, 3, 4, 5, 12] rfl (by decide) (hw_row rfl (by simp [belowL, Mfn.cs]) (hw_dead (by simp) (hw_ok rfl (by simp [-Bool.exists_bool, -Bool.forall_bool, okO, boolO]) (hw_rowr (by simp [layC, below]) (by simp [layC, ren, renL]) (hw_ok rfl (by simp [okO, intsO]) (hw_ok rfl (by simp [okO, intsO]) (hw_row (by simp [w20, w21, w148, w149, henc, he, e, u8, htm, htd, List.take_of_length_le, he0]) (by simp) hw_nil))))))) ?_
              simp [below, ren, henc, he, e, he0, IntKind.wrap, IntKind.bits, IntKind.signed]
            · have hz1 : ¬ i = 0 := by omega
              simp -implicitDefEqProofs [hz1, hg1, encHp]
              simp -implicitDefEqProofs [Mins.cs]
              refine (i_jumpOp G _).use ?_
              simp -implicitDefEqProofs [hjo, layC, hbo, hoo, hii, h1, hg2, hLi, hL, hnl, hp1, e, w20, w21, w148, w149, htm, htd, htk]
              refine ⟨by omega, by omega, ⟨by omega, by omega⟩, ?_⟩
              refine AC.mono (hoff _ rfl rfl rfl) ?_
              rintro r h ⟨rfl, rfl⟩
              simp -implicitDefEqProofs [callR_nxt, hbo, htk]
              refine ⟨by omega, i + 1, h1, by omega, ?_⟩
              rw [if_neg (by omega), if_neg (by omega)]
              refine wkt_pick [0, 1, 2, 3, 4, 5, 13] rfl (by decide) (hw_row rfl (by simp [belowL, Mfn.cs]) (hw_dead (by simp) (hw_ok rfl (by simp [-Bool.exists_bool, -Bool.forall_bool, okO, boolO]) (hw_rowr (by simp [layC, below]) (by simp [layC, ren, renL]) (hw_ok rfl (by simp [okO, intsO]) (hw_ok rfl (by simp [okO, intsO]) (hw_row (by simp [w20, w21, w148, w149, henc, he, e, u8, htm, htd, List.take_of_length_le]) (by simp) hw_nil))))))) ?_
              simp [below, ren, henc, he, e, w1 (i := i) (by omega)]
    · simp at h1
      have hie : i = f.ins.length := by omega
      subst hie
      have hz1 : ¬ f.ins.length = 0 := by omega
      simp -implicitDefEqProofs [hz1]
      simp [encHp]
end Go.Proofs.YtbbobekgnclkfaaDoor
