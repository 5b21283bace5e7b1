/-
  Which objects are well made: the plain model and the reference.
-/
import Derived.Test.YtbbobekgnclkfaaDoorM42
namespace Go.Proofs.YtbbobekgnclkfaaDoor
open Go Go.Aw
set_option maxRecDepth 100000
set_option maxHeartbeats 4000000

/-! ### Where a call's number stands -/
theorem fnOk_of_code {f : Mfn} (hc : codeOk f = true) : fnOk (mostS f.ins) f = true := by
  simp only [codeOk, Bool.and_eq_true] at hc
  have h := hc.1
  simp only [machOk, Bool.and_eq_true, decide_eq_true_eq] at h
  have := fnsOk_get h.2 (i := mostS f.ins) (f := f) (by simp [aloneF])
  simpa using this
theorem call_n {f : Mfn} (hc : codeOk f = true) {x : Mins} (hx : x ∈ f.ins) (ho : x.op = 14) : 0 ≤ x.n ∧ x.n < 4 := by
  have h := fnOk_of_code hc
  simp only [fnOk, Bool.and_eq_true, List.all_eq_true] at h
  have hi := h.2 x hx
  simp only [insOk, Bool.and_eq_true] at hi
  have h5 := hi.2
  have hm : mostS f.ins ≤ 4 := by have := mostT_le f.ins f.ins.length; rwa [mostT, List.take_of_length_le (Nat.le_refl _)] at this
  simp [fN, mostN, ho, inR] at h5
  omega
theorem encT_le {ins : List Mins} {L : List Bool} {i k : Nat} (h : i ≤ k) : ∃ r, encT ins L k = encT ins L i ++ r := by
  induction k with
  | zero => exact ⟨[], by rw [show i = 0 by omega]; simp⟩
  | succ k ih =>
    rcases Nat.lt_or_ge k i with h1 | h1
    · exact ⟨[], by rw [show i = k + 1 by omega]; simp⟩
    · obtain ⟨r, e⟩ := ih h1
      exact ⟨r ++ encI ins L k, by rw [encT_succ, e, List.append_assoc]⟩
/-- The byte behind a call's own. -/
theorem call_at {f : Mfn} {i : Nat} (h1 : i < f.ins.length) (ho : f.ins[i].op = 14) : (encB f)[plc f.ins (longs f.ins) i + 1]? = some (u8 f.ins[i].n) := by
  have hL := longs_len f.ins
  obtain ⟨r, e⟩ := encT_le (ins := f.ins) (L := longs f.ins) (i := i + 1) (k := f.ins.length) h1
  have hs := encT_size hL i (Nat.le_of_lt h1)
  have hj : jmp f.ins[i] = false := by simp [jmp, ho]
  have he : encI f.ins (longs f.ins) i = [u8 14, u8 f.ins[i].n] := by
    have h2 : i < (longs f.ins).length := by omega
    simp only [encI, List.getElem?_eq_getElem h1, List.getElem?_eq_getElem h2, hj]
    simp [plainB, ho, inR]
  rw [encB, e, encT_succ, he, List.append_assoc, List.getElem?_append_right (by omega), hs]
  simp
theorem callsF_mem {f : Mfn} (hc : codeOk f = true) {c : Int} : c ∈ callsF f ↔ ∃ (i : Nat) (h : i < f.ins.length), f.ins[i].op = 14 ∧ c = ((plc f.ins (longs f.ins) i + 1 : Nat) : Int) := by
  have hp : plaF f = plcs f.ins (longs f.ins) f.ins.length := by rw [plaF, if_pos hc]
  simp only [callsF, List.mem_flatMap]
  constructor
  · rintro ⟨⟨x, p⟩, hm, hcl⟩
    obtain ⟨i, hi, e⟩ := List.getElem_of_mem hm
    rw [List.getElem_zip, Prod.mk.injEq] at e
    rw [List.length_zip] at hi
    obtain ⟨e1, e2⟩ := e
    simp only [clsI] at hcl
    split at hcl
    · rename_i ho
      refine ⟨i, by omega, by rw [e1]; exact ho, ?_⟩
      rw [List.mem_singleton] at hcl
      have hg : (plaF f)[i]? = some p := by rw [List.getElem?_eq_getElem (by omega), e2]
      rw [hp, plcs_get (by omega)] at hg
      cases hg
      rw [hcl]; omega
    · cases hcl
  · rintro ⟨i, h, ho, rfl⟩
    have hl : i < (plaF f).length := by rw [hp, plcs_len]; exact h
    have hg : (plaF f)[i]? = some (plc f.ins (longs f.ins) i) := by rw [hp]; exact plcs_get h
    rw [List.getElem?_eq_getElem hl, Option.some.injEq] at hg
    refine ⟨(f.ins[i], (plaF f)[i]), ?_, ?_⟩
    · have hz : i < (List.zip f.ins (plaF f)).length := by rw [List.length_zip]; omega
      have := List.getElem_mem hz
      rwa [List.getElem_zip] at this
    · simp only [clsI, if_pos ho, List.mem_singleton, hg]; omega

/-! ### Calls struck out -/
def blankI (x : Mins) : Mins := if x.op = 14 then { x with n := 0 } else x
def blankF (f : Mfn) : Mfn := { f with ins := f.ins.map blankI }
def zeroAt (code : List Int) (c : Int) : Bool := code[c.toNat]? == some 0
theorem blank_iff {f : Mfn} : f = blankF f ↔ ∀ x ∈ f.ins, x.op = 14 → x.n = 0 := by
  constructor
  · intro e x hx ho
    obtain ⟨i, hi, rfl⟩ := List.getElem_of_mem hx
    have e2 : f.ins[i]? = (blankF f).ins[i]? := congrArg (fun g : Mfn => g.ins[i]?) e
    rw [show (blankF f).ins = f.ins.map blankI from rfl, List.getElem?_map, List.getElem?_eq_getElem hi, Option.map_some, Option.some.injEq, blankI, if_pos ho] at e2
    exact congrArg Mins.n e2
  · intro h
    have : f.ins.map blankI = f.ins := by
      conv => rhs; rw [← List.map_id f.ins]
      refine List.map_congr_left fun x hx => ?_
      unfold blankI
      split
      · rename_i ho; have := h x hx ho; cases x; simp_all
      · rfl
    rw [blankF, this]
theorem blank_zero {f : Mfn} (hc : codeOk f = true) : (callsF f).all (zeroAt (encB f)) = decide (f = blankF f) := by
  rw [Bool.eq_iff_iff, List.all_eq_true, decide_eq_true_eq, blank_iff]
  constructor
  · intro h x hx ho
    obtain ⟨i, hi, rfl⟩ := List.getElem_of_mem hx
    have h1 := h _ ((callsF_mem hc).2 ⟨i, hi, ho, rfl⟩)
    simp only [zeroAt, Int.toNat_natCast, call_at hi ho, beq_iff_eq, Option.some.injEq, u8_eq_mod] at h1
    have := call_n hc hx ho
    omega
  · intro h c hm
    obtain ⟨i, hi, ho, rfl⟩ := (callsF_mem hc).1 hm
    simp only [zeroAt, Int.toNat_natCast, call_at hi ho, h _ (List.getElem_mem hi) ho]
    rfl

theorem decF_some {p s : Int} {code : List Int} {f : Mfn} (h : decF p s code = some f) : codeOk f = true ∧ encB f = code := by
  unfold decF at h
  rw [Option.bind_eq_some_iff] at h
  obtain ⟨ps, _, h2⟩ := h
  split at h2
  · rename_i hk
    cases h2
    simp only [decOkF, Bool.and_eq_true, decide_eq_true_eq] at hk
    exact hk
  · cases h2

/-- Whether an object is well made. -/
def objOk (o : Obj) : Bool := match decF o.params o.slots o.code with
  | none => false
  | some f => isName o.name && decide (callsF f = o.calls) && decide (o.names.length = o.calls.length) && o.names.all isName && decide (f = blankF f)

theorem sum_ge : ∀ {l : List (List UInt8)} {x : List UInt8}, x ∈ l → x.length ≤ (l.map List.length).sum
  | y :: r, x, h => by
    rw [List.map_cons, List.sum_cons]
    rcases List.mem_cons.1 h with rfl | h
    · omega
    · have := sum_ge h; omega
theorem words_le {o : Obj} (hz : szO o ≤ 1048576) : ∀ x ∈ o.names, x.length ≤ 140737488355328 := fun x hx => by
  have h := sum_ge hx
  have hsz : szO o = o.name.length + o.code.length + o.calls.length + szW o.names := rfl
  have hwz : szW o.names = o.names.length + (o.names.map List.length).sum := rfl
  omega

variable (G : Glob)

theorem s_ObjectValid (o : Obj) (ho : ObjSm o) (hz : szO o ≤ 1048576) : VF Tryd.prog G n_spec_ObjectValid [.agg (o.cs.map .p)] (.p (.bool (objOk o))) := by
  refine AC.go k_spec_ObjectValid ?_
  have hsz : szO o = o.name.length + o.code.length + o.calls.length + szW o.names := rfl
  have hwz : szW o.names = o.names.length + (o.names.map List.length).sum := rfl
  simp -implicitDefEqProofs [F_spec_ObjectValid, Obj.cs]
  refine (s_DecodeFn G o.params o.slots o.code ho.bytes (by omega)).use ?_
  cases hd : decF o.params o.slots o.code with
  | none =>
    have hob : objOk o = false := by simp only [objOk, hd]
    simp -implicitDefEqProofs [Mfn.cs, hob]
  | some f =>
    obtain ⟨hc, henc⟩ := decF_some hd
    have hob : objOk o = (isName o.name && decide (callsF f = o.calls) && decide (o.names.length = o.calls.length) && o.names.all isName && decide (f = blankF f)) := by simp only [objOk, hd]
    have hil : f.ins.length ≤ 1000000 := by
      have := (fine_of_alone (by simp only [codeOk, Bool.and_eq_true] at hc; exact hc.1) : InsFine f.ins).1
      omega
    have hcb : (callsF f).length ≤ 1048576 := by
      have h1 := clsT_len f (plaF f).length
      have h2 := pla_ins f
      rw [clsT_all (Nat.le_refl _)] at h1
      omega
    simp -implicitDefEqProofs [Mfn.cs]
    refine (s_IsName G o.name (by omega)).use ?_
    by_cases h1 : isName o.name = true
    case neg => simp -implicitDefEqProofs [h1, hob]
    have hl26 := s_l26Calls G f hil
    rw [Mfn.cs] at hl26
    simp -implicitDefEqProofs [h1]
    refine hl26.useQ ?_
    simp -implicitDefEqProofs []
    refine (t_l5Ints G (callsF f) o.calls hcb).use ?_
    by_cases h2 : callsF f = o.calls
    case neg => simp -implicitDefEqProofs [h2, hob]
    have hnl : numL o.calls = .lst 1 (o.calls.map fun n => [.int .i64 n]) := rfl
    have hsl : strL o.names = .lst 1 (o.names.map fun w => [.str w]) := rfl
    simp -implicitDefEqProofs [h2, hnl, hsl]
    by_cases h3 : o.names.length = o.calls.length
    case neg =>
      have h3' : ¬ (o.names.length : Int) = (o.calls.length : Int) := by omega
      simp -implicitDefEqProofs [h3, h3', hob]
    simp -implicitDefEqProofs [h3]
    rw [← hnl, ← hsl]
    have hzb := blank_zero hc
    rw [h2, henc] at hzb
    have hobj : objOk o = (o.names.all isName && o.calls.all (zeroAt o.code)) := by
      rw [hob, h1, h2, hzb]; simp [h3]
    refine loopA (fun i : Nat => tsOf 67 [(1, .ptr 0 6 0 0), (5, .p (.int .i64 i))]) (fun i => [.row 6 [o.cs.map .p], .row 3 [f.cs.map .p]])
      (fun i => i ≤ o.calls.length ∧ (o.names.take i).all isName = true ∧ (o.calls.take i).all (zeroAt o.code) = true) (fun i => o.calls.length - i) 0 (by simp) ?_ ?_
    · refine wkt_same (by simp) (by simp [okO]) (by simp [below, belowL])
    · intro i ⟨hi, hn, hq⟩
      simp -implicitDefEqProofs [Obj.cs, hnl]
      refine cndb (fun h4 => ?_) (fun h4 => ?_)
      · simp at h4
        have h5 : i < o.names.length := by omega
        have hg1 := List.getElem?_eq_getElem h4
        have hg2 := List.getElem?_eq_getElem h5
        have hbl : bysL o.code = .lst 1 (o.code.map fun n => [.int .u8 n]) := rfl
        simp -implicitDefEqProofs [Obj.cs, hnl, hsl, hg2]
        refine (s_IsName G _ (words_le hz _ (List.getElem_mem h5))).use ?_
        by_cases h6 : isName o.names[i] = true
        case neg =>
          have hf : o.names.all isName = false := List.all_eq_false.2 ⟨_, List.getElem_mem h5, h6⟩
          simp -implicitDefEqProofs [h6, hobj, hf]
        have hmem : o.calls[i] ∈ callsF f := by rw [h2]; exact List.getElem_mem h4
        obtain ⟨k, hk, hop, hce⟩ := (callsF_mem hc).1 hmem
        have hca := call_at hk hop
        rw [henc] at hca
        generalize plc f.ins (longs f.ins) k + 1 = q at hce hca
        generalize u8 f.ins[k].n = b at hca
        have hqb : o.code[q]? = some b := hca
        have hql : q < o.code.length := (List.getElem?_eq_some_iff.1 hca).1
        have hgb : o.code[q] = b := by rw [List.getElem?_eq_getElem hql] at hqb; exact Option.some.inj hqb
        have hza : zeroAt o.code o.calls[i] = (b == 0) := by rw [zeroAt, hce, Int.toNat_natCast, hqb]; rfl
        rw [hce] at hg1
        by_cases h7 : b = 0
        · simp -implicitDefEqProofs [h6, hg1, hg2, hbl, hqb, hql, hgb, h7]
          refine ⟨i + 1, ⟨h4, ?_, ?_⟩, by omega, wkt_same (by simp) (by simp [okO]) ?_⟩
          · rw [List.all_eq_true] at hn
            intro x hx
            rw [take_succ' h5] at hx
            rcases List.mem_append.1 hx with hx | hx
            · exact hn x hx
            · rw [List.mem_singleton.1 hx]; exact h6
          · rw [List.all_eq_true] at hq
            intro x hx
            rw [take_succ' h4] at hx
            rcases List.mem_append.1 hx with hx | hx
            · exact hq x hx
            · rw [List.mem_singleton.1 hx, hza, h7]; rfl
          · simp [below, belowL, w1 (i := i) (by omega)]
        · have hf : o.calls.all (zeroAt o.code) = false := List.all_eq_false.2 ⟨_, List.getElem_mem h4, by rw [hza]; simp [h7]⟩
          simp -implicitDefEqProofs [h6, hg1, hg2, hbl, hqb, hql, hgb, h7, hobj, hf]
      · simp at h4
        rw [List.take_of_length_le (by omega)] at hn hq
        simp -implicitDefEqProofs [hobj, hn, hq]
end Go.Proofs.YtbbobekgnclkfaaDoor
