/-
  How a machine's function is read from bytes: the program's answer.
-/
import Derived.Test.YtbbobekgnclkfaaDoorM28
import Derived.Test.YtbbobekgnclkfaaDoorM27
namespace Go.Proofs.YtbbobekgnclkfaaDoor
open Go Go.Aw
set_option maxRecDepth 100000
set_option maxHeartbeats 4000000

/-! ### The map of places -/
def mpF : Nat → List Nat → List (PV × AV)
  | _, [] => []
  | k, p :: r => (.int .i64 (p : Int), .p (.int .i64 (k : Int))) :: mpF (k + 1) r
theorem mpF_get (n : Int) : ∀ (k : Nat) (ps : List Nat), mgetk (.int .i64 n) (mpF k ps) = some ((ps.findIdx? (fun (p : Nat) => (p : Int) == n)).map fun i => .p (.int .i64 ((k + i : Nat) : Int)))
  | k, [] => rfl
  | k, p :: r => by
    simp only [mpF, mgetk, keq, if_true, List.findIdx?_cons]
    by_cases h : n = (p : Int)
    · subst h; simp
    · have h' : ¬ (p : Int) = n := fun e => h e.symm
      simp only [h, h', decide_false, beq_iff_eq, if_false, mpF_get n (k + 1) r, Option.map_map]
      have : ((fun i => AV.p (.int .i64 ((k + i : Nat) : Int))) ∘ fun i => i + 1) = fun i => AV.p (.int .i64 ((k + 1 + i : Nat) : Int)) := by
        funext i
        simp only [Function.comp]
        rw [show k + (i + 1) = k + 1 + i by omega]
      rw [this]
theorem mpF_new (a : Nat) (v : AV) : ∀ (k : Nat) (ps : List Nat), (∀ p ∈ ps, p ≠ a) → msetk (.int .i64 (a : Int)) v (mpF k ps) = some (mpF k ps ++ [(.int .i64 (a : Int), v)])
  | k, [], _ => rfl
  | k, p :: r, h => by
    have h1 : ¬ (a : Int) = (p : Int) := fun e => h p (by simp) (by omega)
    simp only [mpF, msetk, keq, if_true, h1, decide_false, mpF_new a v (k + 1) r (fun q hq => h q (by simp [hq])), Option.map_some, List.cons_append]
theorem mpF_app (a : Nat) : ∀ (k : Nat) (ps : List Nat), mpF k (ps ++ [a]) = mpF k ps ++ [(.int .i64 (a : Int), .p (.int .i64 ((k + ps.length : Nat) : Int)))]
  | k, [] => rfl
  | k, p :: r => by
    simp only [List.cons_append, mpF, mpF_app a (k + 1) r, List.length_cons]
    congr 6
    omega
theorem mpF_pure : ∀ (k : Nat) (ps : List Nat), ∀ x ∈ mpF k ps, below 0 x.2
  | k, [], x, h => by simp [mpF] at h
  | k, p :: r, x, h => by
    simp only [mpF, List.mem_cons] at h
    rcases h with rfl | h
    · trivial
    · exact mpF_pure (k + 1) r x h
theorem atOf_some {ps : List Nat} {n : Int} {i : Nat} (h : ps.findIdx? (fun (p : Nat) => (p : Int) == n) = some i) : atOf ps n = i := by rw [atOf, h]
theorem atOf_none {ps : List Nat} {n : Int} (h : ps.findIdx? (fun (p : Nat) => (p : Int) == n) = none) : atOf ps n = -1 := by rw [atOf, h]

/-- A jump without a target spoils all. -/
theorem decOkF_target {p s : Int} {code : List Int} {ps : List Nat} {i : Nat} (h : i < ps.length) (hj : jmp (decI code ps[i]) = true) (ha : atOf ps (decI code ps[i]).n = -1) : decOkF code (decFn p s code ps) = false := by
  cases hk : decOkF code (decFn p s code ps) with
  | false => rfl
  | true =>
    exfalso
    simp only [decOkF, codeOk, Bool.and_eq_true] at hk
    have hf := fine_of_alone hk.1.1
    have hm : linkX ps (decI code ps[i]) ∈ (decFn p s code ps).ins := by
      simp only [decFn, linked, rawX, List.mem_map]
      exact ⟨_, ⟨_, List.getElem_mem h, rfl⟩, rfl⟩
    have hq := (hf.2 _ hm).2.2.2
    rw [linkX, if_pos hj, ha] at hq
    have := hq hj
    simp [inR] at this

theorem linked_lo {code : List Int} (hb : BytesOk code) {ps : List Nat} : ∀ x ∈ linked code ps, x.op = 14 → -9223372036854775808 ≤ x.n := by
  intro x hx h14
  simp only [linked, rawX, List.mem_map] at hx
  obtain ⟨y, ⟨a, _, rfl⟩, rfl⟩ := hx
  have hj : jmp (decI code a) = false := by
    cases h : jmp (decI code a) with
    | false => rfl
    | true =>
      rw [linkX, if_pos h] at h14
      simp [jmp] at h
      simp only at h14
      omega
  rw [linkX, hj] at h14 ⊢
  have b1 := byAt_ok hb (a + 1)
  have b2 := byAt_ok hb (a + 2)
  simp only [Bool.false_eq_true, if_false] at h14 ⊢
  have hjo : jmpO (opAt code a) = false := by
    have : (decI code a).op = opAt code a := by
      unfold decI decX; simp only; repeat' split
      all_goals rfl
    rw [← this]; exact hj
  unfold decI decX
  simp only [hjo]
  repeat' split
  all_goals first | (simp only; omega) | contradiction

variable (G : Glob)

theorem i_bytesEqual (a b : List Int) (ha : BytesOk a) (hb : BytesOk b) : VF Tryd.prog G n_bytes_Equal [.p (bysL a), .p (bysL b)] (.p (.bool (decide (a = b)))) := by
  refine AC.go k_bytes_Equal ?_
  have hbl : ∀ l, bysL l = .lst 1 (l.map fun n => [.int .u8 n]) := fun _ => rfl
  have hcm : ∀ l : List Int, List.map ((fun x => List.map AV.p x) ∘ fun n => [PV.int .u8 n]) l = l.map fun n => [AV.p (.int .u8 n)] := fun l => rfl
  have hsi := str8_inj ha hb
  simp -implicitDefEqProofs [F_bytes_Equal, hbl, hcm, bytesA_bys, hsi]

def idH (p s : Int) (ins : List Mins) (ps : List Nat) : List AO := [.row 3 [zMfn], .row 3 [[.p (.int .i64 p), .p (.int .i64 s), slE 3 5 (ins.map Mins.av)]], .mp (mpF 0 ps), rowE 5 (ins.map Mins.av)]
variable (hG : G g_forms = some pvForms)
include hG
theorem o_iDecodeFn (p s : Int) (code : List Int) (hb : BytesOk code) (hl : code.length ≤ 1048576) :
    AC Tryd.prog G n_impl_DecodeFn [.p (.int .i64 p), .p (.int .i64 s), .p (bysL code)] [] fun x h => match decF p s code with
      | none => x = .ret (.tup [.agg zMfn, .p (.bool false)])
      | some f => ∃ id, x = .ret (.tup [.agg (f.ov id), .p (.bool true)]) ∧ h[id]? = some (insO f.ins) := by
  refine AC.go k_impl_DecodeFn ?_
  have hbl : bysL code = .lst 1 (code.map fun n => [.int .u8 n]) := rfl
  simp -implicitDefEqProofs [F_impl_DecodeFn]
  refine loopA (fun d : DS => tsOf 93 [(0, .p (.int .i64 p)), (1, .p (.int .i64 s)), (2, .p (bysL code)), (6, .ptr 0 3 0 0), (7, .p (.bool false)), (8, .ptr 1 3 0 0), (9, .mp 2), (10, .p (.int .i64 d.a))])
    (fun d => idH p s (rawX code d.ps) d.ps) (fun d => decFrom code 0 = (decFrom code d.a).map (d.ps ++ ·) ∧ 2 * d.ps.length ≤ d.a ∧ d.a ≤ code.length ∧ ∀ q ∈ d.ps, q < d.a)
    (fun d => code.length - d.a) ⟨[], 0⟩ (by simp) ?_ ?_
  · simp only [idH, rawX, List.map_nil, slE_nil, rowE_nil, mpF]
    exact wkt_dup [0, 1, 2, 0] (by simp) (by simp) (by simp [lives]) (hw_row rfl (by simp [zMfn, belowL, below]) (hw_row rfl (by simp [belowL, below]) (hw_ok rfl (by simp [okO]) (hw_dead (by simp) hw_nil)))) (by simp [below, ren, bysL])
  · rintro ⟨ps, a⟩ ⟨i1, i2, i3, i4⟩
    simp only at i1 i2 i3 i4
    simp -implicitDefEqProofs [idH, hbl]
    refine cndb (fun h1 => ?_) (fun h1 => ?_)
    · simp at h1
      simp -implicitDefEqProofs []
      have hone := i_decoded G code hb a h1 hl
      by_cases hg : decGood code a = true
      · rw [if_pos hg, if_pos hg] at hone
        refine hone.use ?_
        have hlen : (rawX code ps).length = ps.length := raw_len _ _
        have hz2 := decSz_two code a
        have hgl := decGood_le hg
        have hw : IntKind.i64.wrap ((a : Int) + decSz code a) = ((a + decSz code a : Nat) : Int) := i64_nat (by omega) (by omega)
        have hz : ¬ decSz code a = 0 := by omega
        have hnew := mpF_new a (.p (.int .i64 (ps.length : Int))) 0 ps (fun q hq => by have := i4 q hq; omega)
        simp -implicitDefEqProofs [hlen, hw, hz, hnew, Mins.cs]
        refine ⟨⟨by omega, by omega⟩, ⟨ps ++ [a], a + decSz code a⟩, ⟨?_, ?_, ?_, ?_⟩, by simp only; omega, ?_⟩
        · rw [i1, decFrom_step h1 hg, Option.map_map]
          simp [Function.comp_def]
        · simp; omega
        · simp only; omega
        · intro q hq
          simp only [List.mem_append, List.mem_singleton] at hq ⊢
          rcases hq with hq | rfl
          · have := i4 q hq; omega
          · omega
        · have hne : ([(decI code a).av] : List (List AV)) ≠ [] := by simp
          simp only [idH, raw_app, List.map_append, List.map_cons, List.map_nil]
          rw [slE_app _ hne, rowE_app _ hne, mpF_app]
          refine wkt_pick [0, 1, 2, 6] rfl (by decide) (hw_row rfl (by simp [zMfn, belowL, below]) (hw_rowr (by simp [below]) (by simp [ren, renL, hlen]) (hw_ok (by simp) ?_ (hw_row rfl (by simpa [rawX] using av_pure (rawX code (ps ++ [a]))) hw_nil)))) ?_
          · rw [← mpF_app]; exact mpF_pure _ _
          · simp [below, ren, bysL]
      · rw [if_neg hg, if_neg hg] at hone
        refine hone.use ?_
        have hd : decF p s code = none := by rw [decF, i1, decFrom_bad h1 hg]; rfl
        simp -implicitDefEqProofs [hd, zMfn, zMi, Mins.cs]
    · simp at h1
      have hdf : decFrom code 0 = some ps := by rw [i1, decFrom_end (by omega)]; simp
      have hres : decF p s code = if decOkF code (decFn p s code ps) then some (decFn p s code ps) else none := by rw [decF, hdf]; rfl
      have hrl := raw_len code ps
      simp -implicitDefEqProofs [hrl]
      refine loopA (fun i : Nat => tsOf 93 [(0, .p (.int .i64 p)), (1, .p (.int .i64 s)), (2, .p (bysL code)), (6, .ptr 0 3 0 0), (7, .p (.bool false)), (8, .ptr 1 3 0 0), (9, .mp 2), (51, slE 3 5 ((linkAt code ps i).map Mins.av)), (52, .p (.int .i64 ps.length)), (53, .p (.int .i64 i))])
        (fun i => idH p s (linkAt code ps i) ps) (fun i => i ≤ ps.length) (fun i => ps.length - i) 0 (by simp) ?_ ?_
      · simp only [idH, linkAt_zero]
        refine wkt_ren [0, 1, 2, 3] (by simp) (by simp) (by decide) (hw_row rfl (by simp [zMfn, belowL, below]) (hw_rowr (by simp [below]) (by simp [ren, renL]) (hw_ok rfl (mpF_pure _ _) (hw_rowE rfl (av_pure _) hw_nil)))) ?_
        simp [below, ren, bysL]
      · intro i hi
        have hll := linkAt_len (code := code) hi
        simp -implicitDefEqProofs [idH, hll]
        refine cndb (fun h2 => ?_) (fun h2 => ?_)
        · simp at h2
          have hne : (linkAt code ps i).map Mins.av ≠ [] := by intro e; rw [List.map_eq_nil_iff] at e; rw [e] at hll; simp at hll; omega
          have hll1 := linkAt_len (code := code) (ps := ps) (i := i + 1) h2
          have hne1 : (linkAt code ps (i + 1)).map Mins.av ≠ [] := by intro e; rw [List.map_eq_nil_iff] at e; rw [e] at hll1; simp at hll1; omega
          have hg := linkAt_get (code := code) h2
          have hwk : ∀ (l : List (Nat × AV)) (os : List AO), TWA [0, 1, 2, 3] l [(0, .p (.int .i64 p)), (1, .p (.int .i64 s)), (2, .p (bysL code)), (6, .ptr 0 3 0 0), (7, .p (.bool false)), (8, .ptr 1 3 0 0), (9, .mp 2), (51, .sl 3 5 0 ps.length), (52, .p (.int .i64 ps.length)), (53, .p (.int .i64 ((i + 1 : Nat) : Int)))] →
              Wk 0 (tsOf 93 l) (.row 3 [zMfn] :: .row 3 [[.p (.int .i64 p), .p (.int .i64 s), .sl 3 5 0 ps.length]] :: .mp (mpF 0 ps) :: .row 5 ((linkAt code ps (i + 1)).map Mins.av) :: os)
                (tsOf 93 [(0, .p (.int .i64 p)), (1, .p (.int .i64 s)), (2, .p (bysL code)), (6, .ptr 0 3 0 0), (7, .p (.bool false)), (8, .ptr 1 3 0 0), (9, .mp 2), (51, slE 3 5 ((linkAt code ps (i + 1)).map Mins.av)), (52, .p (.int .i64 ps.length)), (53, .p (.int .i64 ((i + 1 : Nat) : Int)))]) (idH p s (linkAt code ps (i + 1)) ps) := fun l os hl => by
            rw [idH, slE_ne hne1, rowE_ne hne1, List.length_map, hll1]
            exact wkt_pick [0, 1, 2, 3] rfl (by decide) (hw_row rfl (by simp [zMfn, belowL, below]) (hw_rowr (by simp [below]) (by simp [ren, renL]) (hw_ok rfl (mpF_pure _ _) (hw_row rfl (av_pure _) hw_nil)))) hl
          have hsl : slE 3 5 ((linkAt code ps i).map Mins.av) = .sl 3 5 0 ps.length := by rw [slE_ne hne, List.length_map, hll]
          have hrw := rowE_ne (sz := 5) hne
          clear hll
          simp -implicitDefEqProofs [hsl, hrw, hg, h2, Mins.av_eq]
          refine (i_jumpOp G _).use ?_
          have hjj : ((decI code ps[i]).op == 20 || (decI code ps[i]).op == 21) = jmp (decI code ps[i]) := rfl
          rw [hjj]
          cases hj : jmp (decI code ps[i]) with
          | true =>
            have hset := linkAt_set (code := code) h2
            rw [linkX, hj] at hset
            have hmg := mpF_get (decI code ps[i]).n 0 ps
            cases hfi : ps.findIdx? (fun (p : Nat) => (p : Int) == (decI code ps[i]).n) with
            | none =>
              have hd : decF p s code = none := by rw [hres, decOkF_target h2 hj (atOf_none hfi)]; rfl
              rw [hfi] at hmg
              simp -implicitDefEqProofs [hmg, hd, zMfn]
            | some q =>
              have hat := atOf_some hfi
              rw [hfi] at hmg
              have hs2 : ((linkAt code ps i).map Mins.av).set i [.p (.int .i64 (decI code ps[i]).op), .p (.int .i64 (decI code ps[i]).a), .p (.int .i64 (decI code ps[i]).b), .p (.int .i64 (decI code ps[i]).c), .p (.int .i64 (q : Int))] = (linkAt code ps (i + 1)).map Mins.av := by
                rw [← hset, List.map_set, hat]; rfl
              simp -implicitDefEqProofs [hmg, hg, h2, Mins.av_eq, splice, hs2, w1 (i := i) (by omega)]
              refine ⟨i + 1, h2, by omega, hwk _ _ (by simp [below, ren, bysL])⟩
          | false =>
            have hnx := linkAt_next h2 hj
            simp -implicitDefEqProofs [w1 (i := i) (by omega)]
            refine ⟨i + 1, h2, by omega, ?_⟩
            rw [hnx]
            exact hwk _ _ (by simp [below, ren, bysL])
        · simp at h2
          have hie : i = ps.length := by omega
          subst hie
          simp only [linkAt_all]
          have hv : ∀ h : List AO, h[3]? = some (rowE 5 ((linked code ps).map Mins.av)) → View h (slE 3 5 ((linked code ps).map Mins.av)) (insL (linked code ps)) := fun h e => insV e
          have hlen : (decFn p s code ps).ins.length ≤ 1000000 := by rw [decFn]; simp only; rw [linked_len]; omega
          simp -implicitDefEqProofs []
          by_cases hc : codeOk (decFn p s code ps) = true
          rotate_left
          · have hd : decF p s code = none := by rw [hres, if_neg]; simp [decOkF, hc]
            refine (AC.lend ((i_EncodeFn2 G hG (decFn p s code ps) hlen (linked_lo hb) hc).ac (by simp [belowL, below]) (by simp [belowL, below]) []) (.agg (.keep (by simp [below]) (.keep (by simp [below]) (.one (hv _ rfl) .nil))) .nil) rfl rfl).mono ?_
            rintro r h ⟨rfl, rfl⟩
            simp -implicitDefEqProofs [callR_nxt, shiftV, shiftL, hd, zMfn]
          refine (AC.lend (i_EncodeFn1 G hG (decFn p s code ps) hlen (linked_lo hb) hc) (.agg (.keep (by simp [below]) (.keep (by simp [below]) (.one (hv _ rfl) .nil))) .nil) rfl (by simp [cleanO, bysO, cleanL, clean])).mono ?_
          rintro r h ⟨rfl, rfl⟩
          have hpos := codeOk_pos hc
          have hne : (linked code ps).map Mins.av ≠ [] := by intro e; rw [List.map_eq_nil_iff] at e; simp [decFn, e] at hpos
          simp -implicitDefEqProofs [callR_nxt, shiftV, shiftL, shiftO_bys]
          refine (VF.lend (i_bytesEqual G (encB (decFn p s code ps)) code (encB_ok _) hb) (.one (bysO_view rfl) (.keep (by simp [below]) .nil)) rfl).mono ?_
          rintro r h ⟨rfl, rfl⟩
          by_cases he : encB (decFn p s code ps) = code
          · have hd : decF p s code = some (decFn p s code ps) := by rw [hres, if_pos]; simp [decOkF, hc, he]
            simp -implicitDefEqProofs [callR_nxt, he, hd, slE_ne hne, rowE_ne hne]
            exact ⟨by simp [zMfn], 3, rfl, rfl⟩
          · have hd : decF p s code = none := by rw [hres, if_neg]; simp [decOkF, he]
            simp -implicitDefEqProofs [callR_nxt, he, hd, zMfn]

theorem i_DecodeFn1 {p s : Int} {code : List Int} (hb : BytesOk code) (hl : code.length ≤ 1048576) {f : Mfn} (hd : decF p s code = some f) :
    AC Tryd.prog G n_impl_DecodeFn [.p (.int .i64 p), .p (.int .i64 s), .p (bysL code)] [] fun x h => x = .ret (.tup [.agg (f.ov 0), .p (.bool true)]) ∧ h = [insO f.ins] := by
  refine (o_iDecodeFn G hG p s code hb hl).gc (fun t v h e => ?_) fun v h e => ?_
  · rw [hd] at e
    obtain ⟨_, e, _⟩ := e; cases e
  · rw [hd] at e
    obtain ⟨id, e1, e2⟩ := e
    cases e1
    exact ⟨.tup [.agg (f.ov 0), .p (.bool true)], [insO f.ins], ⟨[id], by simp, by simp, by simp, by simp [below, belowL, Mfn.ov], by simp [ren, renL, Mfn.ov], hw_row e2 (av_pure _) hw_nil⟩, rfl, rfl⟩
theorem i_DecodeFn2 {p s : Int} {code : List Int} (hb : BytesOk code) (hl : code.length ≤ 1048576) (hd : decF p s code = none) :
    VF Tryd.prog G n_impl_DecodeFn [.p (.int .i64 p), .p (.int .i64 s), .p (bysL code)] (.tup [.agg zMfn, .p (.bool false)]) :=
  (o_iDecodeFn G hG p s code hb hl).mono fun x h e => by rw [hd] at e; exact e
end Go.Proofs.YtbbobekgnclkfaaDoor
