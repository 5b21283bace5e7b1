/-
  The helpers of the laws over machines' programs: copies that are owned, marks.
-/
import Derived.Test.YtbbobekgnclkfaaDoorM1
namespace Go.Proofs.YtbbobekgnclkfaaDoor
open Go Go.Aw
set_option maxRecDepth 100000
set_option maxHeartbeats 4000000

def Mins.av (m : Mins) : List AV := m.cs.map .p
theorem Mins.av_eq (m : Mins) : m.av = [.p (.int .i64 m.op), .p (.int .i64 m.a), .p (.int .i64 m.b), .p (.int .i64 m.c), .p (.int .i64 m.n)] := rfl
def insO (l : List Mins) : AO := .row 5 (l.map Mins.av)
/-- A function that is owned: its text lies in the object 'id'. -/
def Mfn.ov (id : Nat) (m : Mfn) : List AV := [.p (.int .i64 m.params), .p (.int .i64 m.slots), .sl id 5 0 m.ins.length]
/-- A list of functions that is owned, from the object b on. -/
def fnsR (b : Nat) : List Mfn → List (List AV)
  | [] => []
  | m :: r => m.ov b :: fnsR (b + 1) r
def fnsO (b : Nat) (fs : List Mfn) : List AO := .row 3 (fnsR (b + 1) fs) :: fs.map fun m => insO m.ins
theorem fnsR_len : ∀ (fs : List Mfn) (b : Nat), (fnsR b fs).length = fs.length
  | [], _ => rfl
  | _ :: r, b => by simp [fnsR, fnsR_len r]
theorem fnsR_get : ∀ {fs : List Mfn} {b i : Nat}, (fnsR b fs)[i]? = (fs[i]?).map (Mfn.ov (b + i))
  | [], _, _ => by simp [fnsR]
  | m :: r, b, 0 => by simp [fnsR]
  | m :: r, b, i + 1 => by simp [fnsR, fnsR_get (fs := r), Nat.add_assoc, Nat.add_comm 1 i]
theorem fnsR_append : ∀ (fs gs : List Mfn) (b : Nat), fnsR b (fs ++ gs) = fnsR b fs ++ fnsR (b + fs.length) gs
  | [], gs, b => by simp [fnsR]
  | m :: r, gs, b => by simp [fnsR, fnsR_append r gs, Nat.add_assoc, Nat.add_comm 1]
theorem fnsR_mem {fs : List Mfn} {b : Nat} {e : List AV} (h : e ∈ fnsR b fs) : ∃ i m, fs[i]? = some m ∧ e = Mfn.ov (b + i) m := by
  obtain ⟨i, hi⟩ := List.getElem?_of_mem h
  rw [fnsR_get, Option.map_eq_some_iff] at hi
  obtain ⟨m, h1, rfl⟩ := hi
  exact ⟨i, m, h1, rfl⟩

variable (G : Glob)

theorem o_toMfn (m : Mfn) (hb : m.ins.length ≤ 1048576) : AC Tryd.prog G n_laws_toMfn [.agg (m.cs.map .p)] [] fun x h => x = .ret (.agg (m.ov 0)) ∧ h = [insO m.ins] := by
  have key : AC Tryd.prog G n_laws_toMfn [.agg (m.cs.map .p)] [] fun x h => x = .ret (.agg (m.ov 3)) ∧ ∃ a b c, h = [a, b, c, insO m.ins] := by
    refine AC.enter k_laws_toMfn ?_
    simp -implicitDefEqProofs [F_laws_toMfn, Mfn.cs, List.replicate]
    refine (AC.lend (o_toMinsS G m.ins hb) (.keep (by simp) .nil) rfl ?_).mono ?_
    · simp [cleanO, Mins.cs, cleanL, clean]
    · rintro x h ⟨rfl, rfl⟩
      simp -implicitDefEqProofs [shiftV, shiftO, shiftL, Mins.cs, insO, Mfn.ov, Mins.av]
  refine key.gc (fun t v h ⟨e, _⟩ => by cases e) fun v h ⟨e1, a, b, c, e2⟩ => ?_
  cases e1; subst e2
  refine ⟨.agg (m.ov 0), [insO m.ins], ⟨[3], by simp, by simp, by simp, by simp [Mfn.ov, below], by simp [Mfn.ov, ren, renL], ?_, ?_, trivial⟩, rfl, rfl⟩
  · simp
  · simp [insO, Mins.av, Mins.cs, ren, renL]


theorem take_succ' {α : Type} {xs : List α} {i : Nat} (h : i < xs.length) : xs.take (i + 1) = xs.take i ++ [xs[i]] := by
  rw [List.take_add_one, List.getElem?_eq_getElem h]; rfl
theorem map_take_succ {α β : Type} (f : α → β) {xs : List α} {i : Nat} (h : i < xs.length) : (xs.take (i + 1)).map f = (xs.take i).map f ++ [f xs[i]] := by
  rw [take_succ' h, List.map_append]; rfl
/-- The rows while the copy is made. -/
def rowAt (xs : List Mfn) (i : Nat) : List (List AV) := fnsR 1 (xs.take i) ++ List.replicate (xs.length - i) zMfn
def insAt (xs : List Mfn) (i : Nat) : List AO := (xs.take i).map fun m => insO m.ins
theorem insAt_len {xs : List Mfn} {i : Nat} (h : i ≤ xs.length) : (insAt xs i).length = i := by simp [insAt, h]
theorem rowAt_get {xs : List Mfn} {i : Nat} (h : i < xs.length) : (rowAt xs i)[i]? = some zMfn := by
  have hl1 : (fnsR 1 (xs.take i)).length = i := by rw [fnsR_len]; simp; omega
  rw [rowAt, List.getElem?_append_right (by omega), hl1, Nat.sub_self, List.getElem?_replicate, if_pos (by omega)]
theorem rowAt_set {xs : List Mfn} {i : Nat} (h : i < xs.length) : (rowAt xs i).set i ((xs[i]).ov (i + 1)) = rowAt xs (i + 1) := by
  have hl1 : (fnsR 1 (xs.take i)).length = i := by rw [fnsR_len]; simp; omega
  rw [rowAt, List.set_append_right _ _ (by omega), hl1, Nat.sub_self, rowAt, take_succ' h, fnsR_append, List.length_take, Nat.min_eq_left (Nat.le_of_lt h)]
  have e : xs.length - i = (xs.length - (i + 1)) + 1 := by omega
  rw [e, List.replicate_succ, List.set_cons_zero, List.append_assoc, Nat.add_comm 1 i]
  rfl
theorem insAt_succ {xs : List Mfn} {i : Nat} (h : i < xs.length) : insAt xs i ++ [shiftO (i + 1) (insO xs[i].ins)] = insAt xs (i + 1) := by
  rw [insAt, insAt, map_take_succ _ h]
  simp only [insO, shiftO, List.map_map]
  rfl
theorem at_ok {xs : List Mfn} {i : Nat} (h : i ≤ xs.length) : ∀ o ∈ AO.row 3 (rowAt xs i) :: insAt xs i, okO (AO.row 3 (rowAt xs i) :: insAt xs i).length o := by
  rw [List.length_cons, insAt_len h]
  intro o ho
  rcases List.mem_cons.1 ho with rfl | ho
  · intro e he
    rcases List.mem_append.1 he with he | he
    · obtain ⟨k, m, h1, rfl⟩ := fnsR_mem he
      have := (List.getElem?_eq_some_iff.1 h1).1
      simp at this
      simp [Mfn.ov, below]; omega
    · rw [(List.mem_replicate.1 he).2]; simp [zMfn]
  · obtain ⟨m, _, rfl⟩ := List.mem_map.1 ho
    intro e he
    obtain ⟨x, _, rfl⟩ := List.mem_map.1 he
    simp [Mins.av]

theorem o_toMfnS (xs : List Mfn) (hb : szF xs ≤ 1048576) : AC Tryd.prog G n_laws_toMfnS [.p (fnsL xs)] [] fun x h => x = .ret (.sl 0 3 0 xs.length) ∧ h = fnsO 0 xs := by
  have hsz : szF xs = xs.length + (xs.map (·.ins.length)).sum := rfl
  refine AC.enter k_laws_toMfnS ?_
  simp -implicitDefEqProofs [F_laws_toMfnS, List.replicate, fnsL]
  refine ⟨by omega, ?_⟩
  refine loopA (fun i : Nat => slots 23 [(0, .p (fnsL xs)), (3, .sl 0 3 0 xs.length), (4, .p (.int .i64 i))]) (fun i => AO.row 3 (rowAt xs i) :: insAt xs i) (fun i => i ≤ xs.length) (fun i => xs.length - i) 0 (by simp) ?_ ?_
  · have e : [AO.row 3 (List.replicate xs.length [AV.p (PV.int IntKind.i64 0), AV.p (PV.int IntKind.i64 0), AV.nils])] = AO.row 3 (rowAt xs 0) :: insAt xs 0 := by simp [rowAt, insAt, fnsR, zMfn]
    rw [e]
    exact wk_same (by simp) (at_ok (by omega)) (by simp -implicitDefEqProofs [slots, List.replicate, below, fnsL])
  · intro i hi
    simp -implicitDefEqProofs [slots, List.replicate, fnsL]
    refine cnd (fun h1 => ?_) (fun h1 => ?_)
    · simp at h1
      have hx := szT_succ h1
      have hx2 := szT_le (fs := xs) (i := i + 1)
      have hg := rowAt_get h1
      simp -implicitDefEqProofs [List.getElem?_eq_getElem h1]
      refine (AC.lend (o_toMfn G xs[i] (by omega)) (.keep (by simp) .nil) ?_ ?_).mono ?_
      · simp [clean, cleanL, Mfn.ov]
      · simp [cleanO, Mins.cs, cleanL, clean, insO, Mins.av]
      rintro x h ⟨rfl, rfl⟩
      have hset := rowAt_set h1
      have hsu := insAt_succ h1
      have hl := insAt_len hi
      have hl2 := insAt_len (xs := xs) (i := i + 1) h1
      simp only [Mfn.ov] at hset
      simp -implicitDefEqProofs [shiftV, shiftL, Mfn.ov, hg, zMfn, hset, hl]
      refine ⟨h1, i + 1, h1, by omega, ?_⟩
      simp only [List.map_cons, List.map_nil, hsu]
      exact wk_same (by simp) (at_ok h1) (by simp [w1 (i := i) (by omega), below])
    · simp at h1
      have : i = xs.length := by omega
      subst this
      simp [fnsO, rowAt, insAt]

theorem fnsO_ok (fs : List Mfn) : ∀ o ∈ fnsO 0 fs, okO (fnsO 0 fs).length o := by
  have h := at_ok (xs := fs) (i := fs.length) (Nat.le_refl _)
  simpa [fnsO, rowAt, insAt] using h
theorem fnsO_clean (fs : List Mfn) : (fnsO 0 fs).all cleanO = true := by
  rw [List.all_eq_true]
  intro o ho
  rcases List.mem_cons.1 ho with rfl | ho
  · simp only [cleanO, List.all_eq_true]
    intro e he
    obtain ⟨k, m, _, rfl⟩ := fnsR_mem he
    simp [Mfn.ov, clean, cleanL]
  · obtain ⟨m, _, rfl⟩ := List.mem_map.1 ho
    simp [cleanO, insO, Mins.av, Mins.cs, cleanL, clean]

theorem o_toMach (xs : List Mfn) (hb : szF xs ≤ 1048576) : AC Tryd.prog G n_laws_toMach [.agg [.p (fnsL xs)]] [] fun x h => x = .ret (.agg [.sl 0 3 0 xs.length]) ∧ h = fnsO 0 xs := by
  have key : AC Tryd.prog G n_laws_toMach [.agg [.p (fnsL xs)]] [] fun x h => x = .ret (.agg [.sl 3 3 0 xs.length]) ∧ h = [.row 1 [[.p (fnsL xs)]], .row 1 [[.sl 3 3 0 xs.length]], .row 1 [[.sl 3 3 0 xs.length]]] ++ (fnsO 0 xs).map (shiftO 3) := by
    refine AC.enter k_laws_toMach ?_
    simp -implicitDefEqProofs [F_laws_toMach, List.replicate]
    refine (AC.lend (o_toMfnS G xs hb) (.keep (by simp) .nil) rfl (fnsO_clean xs)).mono ?_
    rintro x h ⟨rfl, rfl⟩
    simp -implicitDefEqProofs [shiftV]
  exact key.unshift _ (r1 := .agg [.sl 0 3 0 xs.length]) rfl rfl (fnsO_clean xs) (fnsO_ok xs) rfl (by simp [below, fnsO])

/-! ### Marks -/
theorem m_markMinsS {h : List AO} {id : Nat} {xs : List Mins} {k : Nat} (hr : h[id]? = some (insO xs)) (hk : k + 5 * xs.length ≤ 1152921504606846976) :
    AC Tryd.prog G n_laws_markMinsS [.sl id 5 0 xs.length, .p (.int .i64 k)] h fun x h' => x = .ret (.p (.int .i64 ((k + 5 * xs.length : Nat) : Int))) ∧ ∃ xs' : List Mins, xs'.length = xs.length ∧ h' = h.set id (insO xs') := by
  refine AC.enterB k_laws_markMinsS fun hb => AC.enter k_laws_markMinsS ?_
  have hid : id < h.length := (List.getElem?_eq_some_iff.1 hr).1
  have hbs : ∀ ys : List Mins, HB (h.set id (insO ys)) := fun ys => hb.set_row fun e he => by
    obtain ⟨x, _, rfl⟩ := List.mem_map.1 he
    simp [Mins.av, Mins.cs]
  simp -implicitDefEqProofs [F_laws_markMinsS, List.replicate]
  refine loopA (fun a : Nat × List Mins => slots 48 [(0, .sl id 5 0 xs.length), (1, .p (.int .i64 ((k + 5 * a.1 : Nat) : Int))), (5, .p (.int .i64 a.1))]) (fun a => h.set id (insO a.2)) (fun a => a.1 ≤ xs.length ∧ a.2.length = xs.length) (fun a => xs.length - a.1) (0, xs) (by simp) ?_ ?_
  · have e : h.set id (insO xs) = h := by
      obtain ⟨hi, e⟩ := List.getElem?_eq_some_iff.1 hr
      rw [← e]; simp
    rw [e]
    exact wk_refl (by simp) hb (by simp -implicitDefEqProofs [slots, List.replicate, below, hid])
  · rintro ⟨i, ys⟩ ⟨hi, hy⟩
    simp only at hi hy
    simp -implicitDefEqProofs [slots, List.replicate]
    refine cnd (fun h1 => ?_) (fun h1 => ?_)
    · simp at h1
      have h2 : i < ys.length := by omega
      have hg : (List.map Mins.av ys)[i]? = some ys[i].av := by rw [List.getElem?_map, List.getElem?_eq_getElem h2]; rfl
      have hw1 : IntKind.i64.wrap ((k : Int) + 5 * (i : Int) + 1) = (k : Int) + 5 * (i : Int) + 1 := i64_small (by omega) (by omega)
      have hw2 : IntKind.i64.wrap ((k : Int) + 5 * (i : Int) + 1 + 1) = (k : Int) + 5 * (i : Int) + 1 + 1 := i64_small (by omega) (by omega)
      have hw3 : IntKind.i64.wrap ((k : Int) + 5 * (i : Int) + 1 + 1 + 1) = (k : Int) + 5 * (i : Int) + 1 + 1 + 1 := i64_small (by omega) (by omega)
      have hw4 : IntKind.i64.wrap ((k : Int) + 5 * (i : Int) + 1 + 1 + 1 + 1) = (k : Int) + 5 * (i : Int) + 1 + 1 + 1 + 1 := i64_small (by omega) (by omega)
      have hw5 : IntKind.i64.wrap ((k : Int) + 5 * (i : Int) + 1 + 1 + 1 + 1 + 1) = (k : Int) + 5 * (i : Int) + 1 + 1 + 1 + 1 + 1 := i64_small (by omega) (by omega)
      simp -implicitDefEqProofs [insO, hid, h1, hg, Mins.av_eq, h2, hw1, hw2, hw3, hw4, hw5]
      obtain ⟨m, hm⟩ : ∃ m : Mins, m = ⟨(k : Int) + 5 * i, (k : Int) + 5 * i + 1, (k : Int) + 5 * i + 1 + 1, (k : Int) + 5 * i + 1 + 1 + 1, (k : Int) + 5 * i + 1 + 1 + 1 + 1⟩ := ⟨_, rfl⟩
      refine ⟨i + 1, ys.set i m, ⟨h1, by simp [hy]⟩, by omega, ?_⟩
      have e : ((List.map Mins.av ys).set i m.av) = List.map Mins.av (ys.set i m) := by rw [List.map_set]
      rw [Mins.av_eq, hm] at e
      rw [e, ← hm]
      refine wk_refl (by simp) (hbs _) ?_
      simp [w1 (i := i) (by omega), below, hid]
      omega
    · simp at h1
      have : i = xs.length := by omega
      subst this
      simp
      exact ⟨ys, hy, rfl⟩

/-- A list of functions that is owned: its rows from the object b on. -/
structure MachAt (h : List AO) (b : Nat) (fs : List Mfn) : Prop where
  row : h[b]? = some (.row 3 (fnsR (b + 1) fs))
  ins : ∀ (k : Nat) (m : Mfn), fs[k]? = some m → h[b + 1 + k]? = some (insO m.ins)

theorem machAt_own (fs : List Mfn) (rest : List AO) : MachAt (fnsO 0 fs ++ rest) 0 fs := by
  refine ⟨rfl, fun k m hk => ?_⟩
  have hl := (List.getElem?_eq_some_iff.1 hk).1
  rw [List.getElem?_append_left (by simp [fnsO]; omega)]
  simp [fnsO, Nat.add_comm 1 k, hk]

theorem fnsR_set : ∀ {fs : List Mfn} {b i : Nat} {m m' : Mfn}, fs[i]? = some m → m'.ins.length = m.ins.length → (fnsR b fs).set i [.p (.int .i64 m'.params), .p (.int .i64 m'.slots), .sl (b + i) 5 0 m.ins.length] = fnsR b (fs.set i m')
  | _ :: r, b, 0, m, m', h, hl => by cases h; simp [fnsR, Mfn.ov, hl]
  | x :: r, b, i + 1, m, m', h, hl => by
    have := fnsR_set (fs := r) (b := b + 1) (i := i) (m := m) (m' := m') (by simpa using h) hl
    rw [show b + 1 + i = b + (i + 1) by omega] at this
    simp [fnsR, this]

/-- As many instructions in each. -/
def Like (fs gs : List Mfn) : Prop := fs.length = gs.length ∧ ∀ (k : Nat) (m m' : Mfn), fs[k]? = some m → gs[k]? = some m' → m.ins.length = m'.ins.length

theorem Like.refl (fs : List Mfn) : Like fs fs := ⟨rfl, fun k m m' h1 h2 => by rw [h1] at h2; cases h2; rfl⟩

theorem m_markMfnS {h : List AO} {b : Nat} {fs : List Mfn} {k : Nat} (ha : MachAt h b fs) (hk : k + 5 * szF fs ≤ 1152921504606846976) :
    AC Tryd.prog G n_laws_markMfnS [.sl b 3 0 fs.length, .p (.int .i64 k)] h fun x h' => ∃ k' : Nat, k ≤ k' ∧ x = .ret (.p (.int .i64 k')) ∧ h'.length = h.length ∧ (∃ fs', Like fs' fs ∧ MachAt h' b fs') ∧ ∀ j, (j < b ∨ b + fs.length + 1 ≤ j) → h'[j]? = h[j]? := by
  refine AC.enterB k_laws_markMfnS fun hb => AC.enter k_laws_markMfnS ?_
  have hid : b < h.length := (List.getElem?_eq_some_iff.1 ha.row).1
  have hsz : szF fs = fs.length + (fs.map (·.ins.length)).sum := rfl
  simp -implicitDefEqProofs [F_laws_markMfnS, List.replicate]
  refine loopA (fun a : Nat × List Mfn × List AO => slots 34 [(0, .sl b 3 0 fs.length), (1, .p (.int .i64 ((k + 2 * a.1 + 5 * szT fs a.1 : Nat) : Int))), (5, .p (.int .i64 a.1))]) (fun a => a.2.2)
    (fun a => a.1 ≤ fs.length ∧ Like a.2.1 fs ∧ MachAt a.2.2 b a.2.1 ∧ HB a.2.2 ∧ a.2.2.length = h.length ∧ ∀ j, (j < b ∨ b + fs.length + 1 ≤ j) → a.2.2[j]? = h[j]?) (fun a => fs.length - a.1) (0, fs, h) (by simp [Like.refl, ha, hb]) ?_ ?_
  · exact wk_refl (by simp) hb (by simp -implicitDefEqProofs [slots, List.replicate, below, hid])
  · rintro ⟨i, gs, h1⟩ ⟨hi, hlk, hat, hb1, hl1, hsame⟩
    simp only at hi hlk hat hb1 hl1 hsame
    simp -implicitDefEqProofs [slots, List.replicate]
    refine cnd (fun hlt => ?_) (fun hlt => ?_)
    · simp at hlt
      have hgl : i < gs.length := by rw [hlk.1]; exact hlt
      have hgi := List.getElem?_eq_getElem hgl
      have hlen : gs[i].ins.length = fs[i].ins.length := hlk.2 i _ _ hgi (List.getElem?_eq_getElem hlt)
      have hx := szT_succ hlt
      have hx2 := szT_le (fs := fs) (i := i + 1)
      have hid1 : b < h1.length := by omega
      have hg : (fnsR (b + 1) gs)[i]? = some [.p (.int .i64 gs[i].params), .p (.int .i64 gs[i].slots), .sl (b + 1 + i) 5 0 gs[i].ins.length] := by rw [fnsR_get, hgi]; rfl
      have hw1 : IntKind.i64.wrap ((k : Int) + 2 * (i : Int) + 5 * (szT fs i : Int) + 1) = (k : Int) + 2 * (i : Int) + 5 * (szT fs i : Int) + 1 := i64_small (by omega) (by omega)
      have hw2 : IntKind.i64.wrap ((k : Int) + 2 * (i : Int) + 5 * (szT fs i : Int) + 1 + 1) = ((k + 2 * i + 5 * szT fs i + 2 : Nat) : Int) := by rw [i64_small (by omega) (by omega)]; omega
      have hfl : i < (fnsR (b + 1) gs).length := by rw [fnsR_len]; exact hgl
      have hself : ∀ o, (h1.set b o)[b]? = some o := fun o => List.getElem?_set_self hid1
      have hself2 : ∀ e, ((fnsR (b + 1) gs).set i e)[i]? = some e := fun e => List.getElem?_set_self hfl
      simp -implicitDefEqProofs [hat.row, hlt, hg, hself, hself2, hw1, hw2]
      obtain ⟨m1, hm1⟩ : ∃ m : Mfn, m = ⟨(k : Int) + 2 * i + 5 * szT fs i, (k : Int) + 2 * i + 5 * szT fs i + 1, gs[i].ins⟩ := ⟨_, rfl⟩
      have hset : (fnsR (b + 1) gs).set i [.p (.int .i64 ((k : Int) + 2 * i + 5 * szT fs i)), .p (.int .i64 ((k : Int) + 2 * i + 5 * szT fs i + 1)), .sl (b + 1 + i) 5 0 gs[i].ins.length] = fnsR (b + 1) (gs.set i m1) := by
        rw [← fnsR_set hgi (m' := m1) (by rw [hm1]), hm1]
      rw [hset]
      have hins : (h1.set b (.row 3 (fnsR (b + 1) (gs.set i m1))))[b + 1 + i]? = some (insO gs[i].ins) := by
        rw [List.getElem?_set_ne (by omega)]; exact hat.ins i _ hgi
      have hcall := m_markMinsS G (h := h1.set b (.row 3 (fnsR (b + 1) (gs.set i m1)))) (k := k + 2 * i + 5 * szT fs i + 2) hins (by omega)
      refine hcall.mono ?_
      rintro x h2 ⟨rfl, ys, hys, rfl⟩
      simp -implicitDefEqProofs []
      obtain ⟨m2, hm2⟩ : ∃ m : Mfn, m = ⟨m1.params, m1.slots, ys⟩ := ⟨_, rfl⟩
      have hm2l : m2.ins.length = gs[i].ins.length := by rw [hm2]; exact hys
      have hb2 : HB ((h1.set b (.row 3 (fnsR (b + 1) (gs.set i m1)))).set (b + 1 + i) (insO ys)) := by
        refine HB.set_row (HB.set_row hb1 fun e he => ?_) fun e he => ?_
        · obtain ⟨q, m, hq, rfl⟩ := fnsR_mem he
          have hql := (List.getElem?_eq_some_iff.1 hq).1
          simp only [List.length_set] at hql
          have := (List.getElem?_eq_some_iff.1 (hat.ins q _ (List.getElem?_eq_getElem hql))).1
          simp [Mfn.ov, below]; omega
        · obtain ⟨x, _, rfl⟩ := List.mem_map.1 he
          simp [Mins.av, Mins.cs]
      refine ⟨i + 1, gs.set i m2, (h1.set b (.row 3 (fnsR (b + 1) (gs.set i m1)))).set (b + 1 + i) (insO ys), ⟨hlt, ⟨by simp [hlk.1], fun q m m' e1 e2 => ?_⟩, ⟨?_, fun q m hq => ?_⟩, hb2, by simp [hl1], fun j hj => ?_⟩, by omega, ?_⟩
      · by_cases hq : q = i
        · subst hq
          rw [List.getElem?_set_self hgl] at e1
          cases e1
          rw [List.getElem?_eq_getElem hlt] at e2
          cases e2
          omega
        · rw [List.getElem?_set_ne (Ne.symm hq)] at e1
          exact hlk.2 q m m' e1 e2
      · rw [List.getElem?_set_ne (by omega), List.getElem?_set_self hid1]
        congr 2
        rw [← fnsR_set hgi (m' := m1) (by rw [hm1]), ← fnsR_set hgi (m' := m2) hm2l, hm2]
      · have hlen2 : b + 1 + i < h1.length := (List.getElem?_eq_some_iff.1 (hat.ins i _ hgi)).1
        by_cases hqi : q = i
        · subst hqi
          rw [List.getElem?_set_self hgl] at hq
          cases hq
          rw [List.getElem?_set_self (by simpa using hlen2), hm2]
        · rw [List.getElem?_set_ne (Ne.symm hqi)] at hq
          rw [List.getElem?_set_ne (by omega), List.getElem?_set_ne (by omega)]
          exact hat.ins q m hq
      · rw [List.getElem?_set_ne (by omega), List.getElem?_set_ne (by omega)]
        exact hsame j hj
      · refine wk_refl (by simp [hl1]) hb2 ?_
        simp [w1 (i := i) (by omega), below, hid1, hx]
        omega
    · simp at hlt
      exact ⟨k + 2 * i + 5 * szT fs i, by omega, by simp, hl1, ⟨gs, hlk, hat⟩, hsame⟩

theorem m_markMach {h : List AO} {b : Nat} {fs : List Mfn} {k : Nat} (ha : MachAt h b fs) (hk : k + 5 * szF fs ≤ 1152921504606846976) :
    AC Tryd.prog G n_laws_markMach [.agg [.sl b 3 0 fs.length], .p (.int .i64 k)] h fun x h' => ∃ k' : Nat, k ≤ k' ∧ x = .ret (.p (.int .i64 k')) ∧ h'.length = h.length + 1 ∧ (∃ fs', Like fs' fs ∧ MachAt h' b fs') ∧ ∀ j, j < h.length → (j < b ∨ b + fs.length + 1 ≤ j) → h'[j]? = h[j]? := by
  have hbl : b < h.length := (List.getElem?_eq_some_iff.1 ha.row).1
  refine AC.enter k_laws_markMach ?_
  simp -implicitDefEqProofs [F_laws_markMach, List.replicate]
  have ha' : MachAt (h ++ [.row 1 [[.sl b 3 0 fs.length]]]) b fs := by
    refine ⟨by rw [List.getElem?_append_left hbl]; exact ha.row, fun q m hq => ?_⟩
    have := ha.ins q m hq
    rw [List.getElem?_append_left (List.getElem?_eq_some_iff.1 this).1]; exact this
  refine (m_markMfnS G ha' hk).mono ?_
  rintro x h2 ⟨k', hk', rfl, hl, h3, h4⟩
  simp -implicitDefEqProofs []
  refine ⟨k', hk', rfl, by simpa using hl, h3, fun j hj hjj => ?_⟩
  rw [h4 j hjj, List.getElem?_append_left hj]

/-! ### Bytes -/
def bysO (l : List Int) : AO := .row 1 (l.map fun n => [.p (.int .u8 n)])
/-- The bytes of marks. -/
def mk8 (k i : Nat) : Int := IntKind.u8.wrap ((k + i : Nat) : Int)
def mks8 (k n : Nat) : List Int := (List.range n).map (mk8 k)

theorem m_markByteS {h : List AO} {id : Nat} {xs : List Int} {k : Nat} (hr : h[id]? = some (bysO xs)) (hk : k + xs.length ≤ 1152921504606846976) :
    AC Tryd.prog G n_laws_markByteS [.sl id 1 0 xs.length, .p (.int .i64 k)] h fun x h' => x = .ret (.p (.int .i64 ((k + xs.length : Nat) : Int))) ∧ h' = h.set id (bysO (mks8 k xs.length)) := by
  refine AC.enterB k_laws_markByteS fun hb => AC.enter k_laws_markByteS ?_
  have hid : id < h.length := (List.getElem?_eq_some_iff.1 hr).1
  have hbs : ∀ ys : List Int, HB (h.set id (bysO ys)) := fun ys => hb.set_row fun e he => by
    obtain ⟨x, _, rfl⟩ := List.mem_map.1 he
    simp
  simp -implicitDefEqProofs [F_laws_markByteS, List.replicate]
  have e0 : mks8 k 0 ++ xs.drop 0 = xs := by simp [mks8]
  refine loopA (fun a : Nat × List Int => slots 20 [(0, .sl id 1 0 xs.length), (1, .p (.int .i64 ((k + a.1 : Nat) : Int))), (5, .p (.int .i64 a.1))]) (fun a => h.set id (bysO a.2)) (fun a => a.1 ≤ xs.length ∧ a.2 = mks8 k a.1 ++ xs.drop a.1) (fun a => xs.length - a.1) (0, xs) ⟨by simp, e0.symm⟩ ?_ ?_
  · have e : h.set id (bysO xs) = h := by
      obtain ⟨hi, e⟩ := List.getElem?_eq_some_iff.1 hr
      rw [← e]; simp
    rw [e]
    exact wk_refl (by simp) hb (by simp -implicitDefEqProofs [slots, List.replicate, below, hid])
  · rintro ⟨i, ys⟩ ⟨hi, hy⟩
    simp only at hi hy
    simp -implicitDefEqProofs [slots, List.replicate]
    refine cnd (fun h1 => ?_) (fun h1 => ?_)
    · simp at h1
      have hyl : ys.length = xs.length := by rw [hy]; simp [mks8]; omega
      have hys : ys.set i (mk8 k i) = mks8 k (i + 1) ++ xs.drop (i + 1) := by
        rw [hy, List.set_append_right _ _ (by simp [mks8])]
        simp only [mks8, List.length_map, List.length_range, Nat.sub_self]
        rw [List.drop_eq_getElem_cons h1, List.set_cons_zero, List.range_succ]
        simp
      have hg : (List.map (fun n => [AV.p (.int .u8 n)]) ys)[i]? = some [AV.p (.int .u8 (ys[i]'(by omega)))] := by rw [List.getElem?_map, List.getElem?_eq_getElem (by omega)]; rfl
      have hw1 : IntKind.i64.wrap ((k : Int) + (i : Int) + 1) = (k : Int) + (i : Int) + 1 := i64_small (by omega) (by omega)
      simp -implicitDefEqProofs [bysO, hid, h1, hg, hw1]
      refine ⟨i + 1, ys.set i (mk8 k i), ⟨h1, hys⟩, by omega, ?_⟩
      have e : (List.map (fun n => [AV.p (PV.int IntKind.u8 n)]) ys).set i [AV.p (PV.int IntKind.u8 (IntKind.u8.wrap (↑k + ↑i)))] = List.map (fun n => [AV.p (PV.int IntKind.u8 n)]) (ys.set i (mk8 k i)) := by
        rw [List.map_set]; simp [mk8]
      rw [e]
      refine wk_refl ?_ (hbs (ys.set i (mk8 k i))) ?_
      · simp
      simp [w1 (i := i) (by omega), below, hid]
      omega
    · simp at h1
      have : i = xs.length := by omega
      subst this
      simp [hy]

theorem t_heldByteS (k n : Nat) (hk : k + n ≤ 1152921504606846976) : VF Tryd.prog G n_laws_heldByteS [.p (bysL (mks8 k n)), .p (.int .i64 k)] (.p (.int .i64 ((k + n : Nat) : Int))) := by
  refine AC.enter k_laws_heldByteS ?_
  have hl : (mks8 k n).length = n := by simp [mks8]
  simp -implicitDefEqProofs [F_laws_heldByteS, List.replicate, bysL]
  refine loopA (fun i : Nat => slots 22 [(0, .p (bysL (mks8 k n))), (1, .p (.int .i64 ((k + i : Nat) : Int))), (5, .p (.int .i64 i))]) (fun _ => []) (fun i => i ≤ n) (fun i => n - i) 0 (by simp) (wk_nil rfl (by simp [slots, List.replicate, bysL])) ?_
  intro i hi
  simp -implicitDefEqProofs [slots, List.replicate, bysL, hl]
  refine cnd (fun h1 => ?_) (fun h1 => ?_)
  · simp at h1
    have hg : (mks8 k n)[i]? = some (mk8 k i) := by simp [mks8, h1]
    have hw1 : IntKind.i64.wrap ((k : Int) + (i : Int) + 1) = (k : Int) + (i : Int) + 1 := i64_small (by omega) (by omega)
    simp -implicitDefEqProofs [hg, mk8, hw1]
    refine ⟨i + 1, h1, by omega, wk_nil rfl ?_⟩
    simp [w1 (i := i) (by omega)]
    omega
  · simp at h1
    have : i = n := by omega
    subst this
    simp
end Go.Proofs.YtbbobekgnclkfaaDoor
