/-
  How a machine's function is encoded: the reference's answer.
-/
import Derived.Test.YtbbobekgnclkfaaDoorM12
namespace Go.Proofs.YtbbobekgnclkfaaDoor
open Go Go.Aw
set_option maxRecDepth 100000
set_option maxHeartbeats 4000000

def codeOk (f : Mfn) : Bool := machOk (aloneF (mostS f.ins) f) && decide (plc f.ins (longs f.ins) f.ins.length ≤ 8000)
def encB (f : Mfn) : List Int := encT f.ins (longs f.ins) f.ins.length

theorem fine_of_fn {k : Int} {f : Mfn} (h : fnOk k f = true) (hl : f.ins.length ≤ 2000) : InsFine f.ins := by
  refine ⟨hl, fun x hx => ?_⟩
  simp only [fnOk, Bool.and_eq_true, List.all_eq_true] at h
  have hi := h.2 x hx
  rw [insOk_eq2] at hi
  simp only [Bool.and_eq_true] at hi
  obtain ⟨⟨⟨⟨h1, h2⟩, h3⟩, h4⟩, h5⟩ := hi
  refine ⟨h2, h3, ?_, fun hj => ?_⟩
  · simp only [formOk, Bool.and_eq_true] at h1; exact h1.1.1.1.1
  · have hc : x.op = 20 ∨ x.op = 21 := by simpa [jmp] using hj
    rcases hc with e | e <;> simpa [fN, mostN, e, inR] using h5
theorem insSum_alone (e : Nat) (f : Mfn) : insSum (aloneF e f) = e + f.ins.length := by
  simp [insSum, aloneF, backF]
theorem fine_of_alone {e : Nat} {f : Mfn} (h : machOk (aloneF e f) = true) : InsFine f.ins := by
  simp only [machOk, Bool.and_eq_true, decide_eq_true_eq] at h
  have hs := h.1.2
  rw [insSum_alone] at hs
  have := fnsOk_get h.2 (i := e) (f := f) (by simp [aloneF])
  exact fine_of_fn this (by omega)
theorem szF_alone (e : Nat) (f : Mfn) : szF (aloneF e f) = e + 1 + (e + f.ins.length) := by
  have := insSum_alone e f
  simp only [insSum] at this
  rw [szF, this]; simp [aloneF]

theorem encI_len (ins : List Mins) (L : List Bool) (i : Nat) : (encI ins L i).length ≤ 4 := by
  unfold encI
  split
  · split
    · rename_i x b _ _ _; rcases plainB_len x with h | h <;> omega
    · repeat' split
      all_goals simp
  · simp
theorem encT_len (ins : List Mins) (L : List Bool) (i : Nat) : (encT ins L i).length ≤ 4 * i := by
  induction i with
  | zero => simp [encT]
  | succ i ih => rw [encT_succ, List.length_append]; have := encI_len ins L i; omega

variable (G : Glob)

theorem intsO_view {l : List Nat} {id : Nat} {h : List AO} (e : h[id]? = some (intsO l)) : View h (.sl id 1 0 l.length) (intsL l) := by
  have := view_row (h := h) (id := id) (sz := 1) (n := l.length) (ls := l.map fun (n : Nat) => [.int .i64 (n : Int)]) (by rw [e, intsO]; simp) (by simp) (fun x hx => by obtain ⟨b, _, rfl⟩ := List.mem_map.1 hx; rfl)
  exact this

theorem s_l25Places (f : Mfn) (L : List Bool) (hl : L.length = f.ins.length) (hf : InsFine f.ins) :
    VF Tryd.prog G n_spec_l25Places [.agg (f.cs.map .p), .p (boolL L)] (.tup [.p (intsL (plcs f.ins L f.ins.length)), .p (.int .i64 (plc f.ins L f.ins.length))]) :=
  AC.freeze (o_l25Places G f L hl hf) (.tup (.one (by have := intsO_view (h := [intsO (plcs f.ins L f.ins.length)]) (id := 0) rfl; rw [plcs_len] at this; exact this) (.keep (by simp) .nil)) .nil)

theorem s_l25Can (f : Mfn) (hn : f.ins.length ≤ 1000000) : VF Tryd.prog G n_spec_l25Can [.agg (f.cs.map .p)] (.p (.bool (codeOk f))) := by
  refine AC.go k_spec_l25Can ?_
  have hm := mostT_le f.ins f.ins.length
  have he : mostT f.ins f.ins.length = mostS f.ins := by rw [mostT, List.take_of_length_le (Nat.le_refl _)]; rfl
  simp -implicitDefEqProofs [F_spec_l25Can]
  refine (s_l25Alone G f (by omega)).use ?_
  simp -implicitDefEqProofs
  refine (s_MachValid G _ (by rw [szF_alone]; omega)).use ?_
  simp -implicitDefEqProofs
  refine cndb (fun h => ?_) (fun h => ?_)
  · simp at h
    simp -implicitDefEqProofs [codeOk, h]
  · simp at h
    have hf := fine_of_alone h
    simp -implicitDefEqProofs
    refine (s_l25Long G f hf).use ?_
    simp -implicitDefEqProofs
    refine (s_l25Places G f _ (longs_len _) hf).use ?_
    simp -implicitDefEqProofs [codeOk, h]
    omega

theorem u8_256 (d : Int) : IntKind.u8.wrap (d + 256) = IntKind.u8.wrap d := by
  simp [IntKind.wrap, IntKind.bits, IntKind.signed]

theorem k_sEncodeFn (f : Mfn) (hn : f.ins.length ≤ 1000000) : AC Tryd.prog G n_spec_EncodeFn [.agg (f.cs.map .p)] [] fun x h => ∃ id, x = .ret (.tup [.sl id 1 0 (if codeOk f then encB f else []).length, .p (.bool (codeOk f))]) ∧ h[id]? = some (bysO (if codeOk f then encB f else [])) := by
  refine AC.go k_spec_EncodeFn ?_
  simp -implicitDefEqProofs [F_spec_EncodeFn]
  refine (s_l25Can G f hn).use ?_
  by_cases hc : codeOk f = true
  rotate_left
  · simp -implicitDefEqProofs [hc, bysO]
  have hal : machOk (aloneF (mostS f.ins) f) = true := by simp [codeOk] at hc; exact hc.1
  have hf := fine_of_alone hal
  obtain ⟨hn2, hfi⟩ := id hf
  simp -implicitDefEqProofs [hc]
  refine (s_l25Long G f hf).use ?_
  simp -implicitDefEqProofs
  refine (s_l25Places G f _ (longs_len _) hf).use ?_
  simp -implicitDefEqProofs
  have hL := longs_len f.ins
  simp only [encB]
  generalize longs f.ins = L at hL ⊢
  refine loopA (fun i : Nat => tsOf 98 [(1, .ptr 0 3 0 0), (4, .sl 1 1 0 (encT f.ins L i).length), (5, .p (boolL L)), (6, .p (intsL (plcs f.ins L f.ins.length))), (8, .p (.int .i64 i))]) (fun i => [.row 3 [f.cs.map .p], bysO (encT f.ins L i)])
    (fun i => i ≤ f.ins.length) (fun i => f.ins.length - i) 0 (by simp) ?_ ?_
  · refine wkt_same ?_ ?_ ?_
    · simp
    · simp [okO]
    simp [below, encT]
  · intro i hi
    simp -implicitDefEqProofs [Mfn.cs]
    refine cndb (fun h1 => ?_) (fun h1 => ?_)
    · simp at h1
      have h2 : i < L.length := by omega
      obtain ⟨q1, q2, q3, q4⟩ := hfi _ (List.getElem_mem h1)
      have hg1 := List.getElem?_eq_getElem h1
      have hg2 := List.getElem?_eq_getElem h2
      have hbo : ∀ l, bysO l = .row 1 (l.map fun n => [.p (.int .u8 n)]) := fun _ => rfl
      have happ : ∀ l l' : List Int, (l.map fun n => [AV.p (.int .u8 n)]) ++ (l'.map fun n => [AV.p (.int .u8 n)]) = (l ++ l').map fun n => [AV.p (.int .u8 n)] := by simp
      have htk : ∀ l : List Int, List.take l.length (l.map fun n => [AV.p (.int .u8 n)]) = l.map fun n => [AV.p (.int .u8 n)] := fun l => List.take_of_length_le (by simp)
      have henc := encT_succ f.ins L i
      simp -implicitDefEqProofs [hg1, Mfn.cs]
      refine (s_l24Jumps G f.ins[i]).use ?_
      by_cases hj : jmp f.ins[i] = true
      rotate_left
      · simp -implicitDefEqProofs [hj]
        refine (s_l25Plain G f.ins[i] q1 q2).use ?_
        have he : encI f.ins L i = plainB f.ins[i] := by simp [encI, hg1, hg2, hj]
        have hl1 := plainB_len f.ins[i]
        have hel := encT_len f.ins L i
        simp -implicitDefEqProofs [bysL, hbo, htk]
        refine ⟨by omega, i + 1, h1, by omega, wkt_pick [0, 3] rfl (by simp) (hw_row rfl (by simp) (hw_row (by simp [henc, he, Function.comp_def]) (by simp) hw_nil)) ?_⟩
        simp [below, ren, w1 (i := i) (by omega), henc, he]
      · have q5 := q4 hj
        simp [inR] at q5
        have hnl : f.ins[i].n.toNat < f.ins.length := by omega
        have hp1 := plcs_get (ins := f.ins) (L := L) hnl
        have hp2 := plcs_get (ins := f.ins) (L := L) h1
        have hle1 := plc_le (ins := f.ins) (L := L) hL (i := i)
        have hle2 := plc_le (ins := f.ins) (L := L) hL (i := f.ins[i].n.toNat)
        have hel := encT_len f.ins L i
        have hsb := sizeB_le f.ins[i] false
        have hpl : ∀ k, intsL (plcs f.ins L k) = .lst 1 ((plcs f.ins L k).map fun (n : Nat) => [.int .i64 (n : Int)]) := fun _ => rfl
        have hbl : boolL L = .lst 1 (L.map fun b => [.bool b]) := rfl
        generalize hp : plc f.ins L f.ins[i].n.toNat = p at hp1 hle2
        generalize hq : plc f.ins L i = q at hp2 hle1
        have htm : (p : Int).tmod 256 = (p : Int) % 256 := by rw [show (p : Int).tmod 256 = ((p % 256 : Nat) : Int) from rfl]; omega
        have htd : IntKind.i64.wrap ((p : Int) / 256) = (p : Int) / 256 := i64_small (by omega) (by omega)
        have hwd1 : IntKind.i64.wrap ((p : Int) - (q : Int)) = (p : Int) - (q : Int) := i64_small (by omega) (by omega)
        have hwd2 : IntKind.i64.wrap ((p : Int) - (q : Int) - (sizeB f.ins[i] false : Int)) = (p : Int) - (q : Int) - (sizeB f.ins[i] false : Int) := i64_small (by omega) (by omega)
        have hwd3 : IntKind.i64.wrap ((p : Int) - (q : Int) - (sizeB f.ins[i] false : Int) + 256) = (p : Int) - (q : Int) - (sizeB f.ins[i] false : Int) + 256 := i64_small (by omega) (by omega)
        have w128 : IntKind.i64.wrap 128 = 128 := rfl
        have w148 : IntKind.i64.wrap 148 = 148 := rfl
        have w149 : IntKind.i64.wrap 149 = 149 := rfl
        have w0 : IntKind.i64.wrap 0 = 0 := rfl
        have w20 : IntKind.i64.wrap 20 = 20 := rfl
        have w21 : IntKind.i64.wrap 21 = 21 := rfl
        simp -implicitDefEqProofs [hj]
        simp -implicitDefEqProofs [Mins.cs, hpl, hp1]
        refine ⟨by omega, ?_⟩
        simp -implicitDefEqProofs [Mins.cs, hbl, hg2]
        refine (s_l5Truth G _).use ?_
        have hc2 : f.ins[i].op = 20 ∨ f.ins[i].op = 21 := by simpa [jmp] using hj
        cases hLi : L[i] with
        | true =>
          have he : encI f.ins L i = [u8 (f.ins[i].op + 128)] ++ (if f.ins[i].op = 21 then [u8 f.ins[i].a] else []) ++ [u8 (p % 256 : Nat), u8 (p / 256 : Nat)] := by simp [encI, hg1, hg2, hj, hLi, hp]
          rcases hc2 with e | e
          · simp -implicitDefEqProofs [Mins.cs, hbl, hg2, hLi, e, w128, w148, hbo, htk, htm, htd]
            refine ⟨by omega, by omega, i + 1, h1, by omega, wkt_pick [0, 6] rfl (by simp) (hw_row rfl (by simp) (hw_row (by simp [List.take_of_length_le, henc, he, e, u8, htm, htd]) (by simp) hw_nil)) ?_⟩
            simp [below, ren, w1 (i := i) (by omega), henc, he, e]
          · simp -implicitDefEqProofs [Mins.cs, hbl, hg2, hLi, e, w128, w149, hbo, htk, htm, htd]
            refine ⟨by omega, by omega, by omega, i + 1, h1, by omega, wkt_pick [0, 8] rfl (by simp) (hw_row rfl (by simp) (hw_row (by simp [List.take_of_length_le, henc, he, e, u8, htm, htd]) (by simp) hw_nil)) ?_⟩
            simp [below, ren, w1 (i := i) (by omega), henc, he, e]
        | false =>
          have he : encI f.ins L i = [u8 f.ins[i].op] ++ (if f.ins[i].op = 21 then [u8 f.ins[i].a] else []) ++ [u8 ((p : Int) - q - sizeB f.ins[i] false)] := by simp [encI, hg1, hg2, hj, hLi, hp, hq]
          rcases hc2 with e | e
          · simp -implicitDefEqProofs [Mins.cs, hbl, hg2, hLi, e, w0, w20, hbo, htk]
            refine ⟨by omega, ?_⟩
            simp -implicitDefEqProofs [hp2, hwd1]
            have hs25 := s_l25Size G f.ins[i] false q1 q2
            rw [Mins.cs, e] at hs25
            refine hs25.use ?_
            simp -implicitDefEqProofs [hp2, hwd1, hwd2, hwd3, u8_256, Mins.cs, hbo, htk]
            refine ⟨by omega, i + 1, h1, by omega, wkt_pick [0, 6] rfl (by simp) (hw_row rfl (by simp) (hw_row (by simp [List.take_of_length_le, henc, he, e, u8]) (by simp) hw_nil)) ?_⟩
            simp [below, ren, w1 (i := i) (by omega), henc, he, e]
          · simp -implicitDefEqProofs [Mins.cs, hbl, hg2, hLi, e, w0, w21, hbo, htk]
            refine ⟨by omega, by omega, ?_⟩
            simp -implicitDefEqProofs [hp2, hwd1]
            have hs25 := s_l25Size G f.ins[i] false q1 q2
            rw [Mins.cs, e] at hs25
            refine hs25.use ?_
            simp -implicitDefEqProofs [hp2, hwd1, hwd2, hwd3, u8_256, Mins.cs, hbo, htk]
            refine ⟨by omega, i + 1, h1, by omega, wkt_pick [0, 8] rfl (by simp) (hw_row rfl (by simp) (hw_row (by simp [List.take_of_length_le, henc, he, e, u8]) (by simp) hw_nil)) ?_⟩
            simp [below, ren, w1 (i := i) (by omega), henc, he, e]
    · simp at h1
      have hie : i = f.ins.length := by omega
      subst hie
      simp -implicitDefEqProofs
theorem s_EncodeFn (f : Mfn) (hn : f.ins.length ≤ 1000000) : VF Tryd.prog G n_spec_EncodeFn [.agg (f.cs.map .p)] (.tup [.p (bysL (if codeOk f then encB f else [])), .p (.bool (codeOk f))]) := by
  refine (k_sEncodeFn G f hn).freezeR (fun t v h ⟨id, e, _⟩ => by cases e) fun v h ⟨id, e1, e2⟩ => ?_
  cases e1
  exact .tup (.one (bysO_view e2) (.keep (by simp) .nil)) .nil
theorem o_sEncodeFn (f : Mfn) (hn : f.ins.length ≤ 1000000) : AC Tryd.prog G n_spec_EncodeFn [.agg (f.cs.map .p)] [] fun x h => x = .ret (.tup [.sl 0 1 0 (if codeOk f then encB f else []).length, .p (.bool (codeOk f))]) ∧ h = [bysO (if codeOk f then encB f else [])] := by
  refine (k_sEncodeFn G f hn).gc (fun t v h ⟨id, e, _⟩ => by cases e) fun v h ⟨id, e1, e2⟩ => ?_
  cases e1
  generalize (if codeOk f then encB f else []) = l at e2 ⊢
  exact ⟨.tup [.sl 0 1 0 l.length, .p (.bool (codeOk f))], [bysO l], ⟨[id], by simp, by simp, by simp, by simp [below], by simp [ren, renL], hw_row e2 (by simp) hw_nil⟩, rfl, rfl⟩
end Go.Proofs.YtbbobekgnclkfaaDoor
