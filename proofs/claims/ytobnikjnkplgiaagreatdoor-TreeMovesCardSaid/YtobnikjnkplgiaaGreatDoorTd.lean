/-
  What the functions that the statements about layer 10 (tree) reach compute, part 4 of 5: contracts and plain laws, for lists and strings of bounded size (each theorem states its bound).
-/
import Derived.Test.YtobnikjnkplgiaaGreatDoorTc
import Derived.Test.YtobnikjnkplgiaaGreatDoorTa
import Derived.Test.YtobnikjnkplgiaaGreatDoorTb

set_option linter.unusedSimpArgs false
set_option linter.unusedVariables false

/- The reference's tree: Made, at, insert, drop, proper, parent. -/
set_option maxRecDepth 100000
set_option maxHeartbeats 8000000
set_option linter.unusedSimpArgs false
set_option linter.unusedVariables false
namespace Go.Proofs.Tz
open Go.Vw Go.RowKit Go.Proofs Go.Sort

def entsD (E : List Ent) : D := .sl (E.map entD)
/-- The reference's tree, a named variable. -/
def rtr (p : Nat) (rd en : D) : List AV := [.hb (va p) 68 (.agg [.bool true, rd, en])]
/-- The datum of the entries: a list, or still nil. -/
def EnD (E : List Ent) (en : D) : Prop := en = entsD E ∨ (E = [] ∧ en = .raw (.slice none 0 0))
theorem off68_0 : fieldOff Tryz.prog 68 0 = some 0 := by kernel_rfl
theorem off68_1 : fieldOff Tryz.prog 68 1 = some 1 := by kernel_rfl
theorem off68_2 : fieldOff Tryz.prog 68 2 = some 2 := by kernel_rfl
theorem rfd {p : Nat} {rd en : D} {σ : St} {C : AV → Prop} (hw : width rd = 1) (f : Nat) (hf : f < 3) (hj : σ 1000000 = .hb (va p) 68 (.agg [.bool true, rd, en])) (h : C (.adr 1000000 [f])) : RawFd Tryz.prog 68 f (va p) σ C := by
  refine rawFd (e := 68) (ds := [.bool true, rd, en]) 1000000 hj (by omega) (by simpa using hf) ?_ h
  match f, hf with
  | 0, _ => simp [widths, off68_0]
  | 1, _ => simp [widths, width, off68_1]
  | 2, _ => simp [widths, width, hw, off68_2]
/-- The index of an entry. -/
def atE (E : List Ent) (s : Str) : Int := if hasE E s = true then (E.findIdx fun e => decide (e.1 = s) : Nat) else -1
theorem at_neg {E : List Ent} {s : Str} : atE E s < 0 ↔ hasE E s = false := by
  unfold atE
  cases hasE E s <;> simp <;> omega
theorem at_nonneg {E : List Ent} {s : Str} : 0 ≤ atE E s ↔ hasE E s = true := by
  unfold atE
  cases hasE E s <;> simp <;> omega
theorem at_found {E : List Ent} {s : Str} {k : Nat} (hk : k < E.length) (he : E[k].1 = s) (hn : ∀ e ∈ E.take k, e.1 ≠ s) : atE E s = k := by
  have hh : hasE E s = true := hasE_iff.2 (List.mem_map.2 ⟨E[k], List.getElem_mem hk, he⟩)
  unfold atE
  rw [if_pos hh]
  have : (E.findIdx fun e => decide (e.1 = s)) = k := by
    refine (List.findIdx_eq hk).2 ⟨by simp [he], fun j hj => ?_⟩
    have hjl : j < E.length := by omega
    have := hn E[j] (List.mem_take_iff_getElem.2 ⟨j, by omega, rfl⟩)
    simp [this]
  rw [this]
theorem at_none {E : List Ent} {s : Str} (hn : ∀ e ∈ E, e.1 ≠ s) : atE E s = -1 := by
  have : hasE E s = false := by
    cases h : hasE E s with
    | false => rfl
    | true =>
      obtain ⟨e, he, hs⟩ := List.mem_map.1 (hasE_iff.1 h)
      exact absurd hs (hn e he)
  unfold atE
  rw [this]; rfl
theorem at_get {E : List Ent} {s : Str} (h : hasE E s = true) : ∃ k, ∃ hk : k < E.length, atE E s = (k : Nat) ∧ E[k].1 = s := by
  obtain ⟨e, he, hs⟩ := List.mem_map.1 (hasE_iff.1 h)
  have hlt : (E.findIdx fun e => decide (e.1 = s)) < E.length := List.findIdx_lt_length_of_exists ⟨e, he, by simpa using hs⟩
  refine ⟨_, hlt, by unfold atE; rw [if_pos h], ?_⟩
  have := List.findIdx_getElem (w := hlt)
  simpa using this

theorem rmade_fn (p : Nat) (rd en : D) (hw : width rd = 1) : CtrG Tryz.prog 67 [.d (.raw (va p))] (rtr p rd en) (fun r hs' => r = .d (.bool true) ∧ hs' = rtr p rd en) := by
  refine fn_of_vwpG (fun _ => false) (by kernel_rfl) Tryz.func67 (by kernel_rfl) rfl rfl (Nat.le_of_ble_eq_true rfl) (by kernel_rfl) rfl ?_
  simp -implicitDefEqProofs [initG, rtr]
  refine rfd (rd := rd) (en := en) hw 0 (by omega) (by simp [initG]) ?_
  simp -implicitDefEqProofs [initG]
  exact ⟨.d (.bool true), [1000000], by simp, by simp [initG, isH], by simp [ResG], by simp, by simp [initG]⟩
theorem ent_str (e : Ent) : entD e = .agg [.str e.1, atts e.2] := rfl
def NoK (E : List Ent) (s : Str) (k : Nat) : Prop := ∀ e ∈ E.take k, e.1 ≠ s
theorem rat_fn (p : Nat) (rd en : D) (hw : width rd = 1) (E : List Ent) (hE : EnD E en) (hl : E.length < 100000) (s : Str) : CtrG Tryz.prog 36 [.d (.raw (va p)), .d (.str s)] (rtr p rd en) (fun r hs' => r = .d (.int .i64 (atE E s)) ∧ hs' = rtr p rd en) := by
  refine fn_of_vwpG (fun _ => false) (by kernel_rfl) Tryz.func36 (by kernel_rfl) rfl rfl (Nat.le_of_ble_eq_true rfl) (by kernel_rfl) rfl ?_
  simp -implicitDefEqProofs [initG, rtr]
  refine loopN E.length (fun k τ => τ 0 = .d (.raw (va p)) ∧ τ 1 = .d (.str s) ∧ τ 5 = .d (.int .i64 k) ∧ τ 1000000 = .hb (va p) 68 (.agg [.bool true, rd, en]) ∧ NoK E s k) ⟨by simp [initG], by simp [initG], by simp [initG], by simp [initG], by simp [NoK]⟩ ?_
  rintro k τ hk ⟨g0, g1, g5, gA, hno⟩
  by_cases hlt : k < E.length
  · have hlt' : (k : Int) < E.length := by omega
    obtain rfl : en = entsD E := by
      rcases hE with h | ⟨rfl, _⟩
      · exact h
      · simp at hlt
    have hts := take_s hlt
    have hfo := fun he => at_found (s := s) hlt he hno
    generalize hx : E[k] = x at *
    simp -implicitDefEqProofs [g0, g1, g5, gA]
    refine rfd (rd := rd) (en := entsD E) hw 2 (by omega) (by simp [gA]) ?_
    simp -implicitDefEqProofs [g0, g1, g5, gA, entsD, hlt, hlt']
    refine rfd (rd := rd) (en := entsD E) hw 2 (by omega) (by simp [gA, entsD]) ?_
    by_cases he : x.1 = s
    · have hR := hfo he
      simp -implicitDefEqProofs [g0, g1, g5, gA, entsD, hlt, hlt', hx, ent_str, he, hR]
      refine ⟨rfl, ?_⟩
      exact ⟨.d (.int .i64 k), [1000000], by simp, by simp [gA, isH], by simp [ResG], by simp, by simp [gA, entsD]⟩
    · simp -implicitDefEqProofs [g0, g1, g5, gA, entsD, hlt, hlt', hx, ent_str, he]
      refine ⟨rfl, ?_⟩
      repeat refine And.intro (by omega) ?_
      refine again hlt ⟨by simp [g0], by simp [g1], by simp, by simp [gA, entsD], ?_⟩
      unfold NoK
      rw [hts]
      intro e hm
      rcases List.mem_append.1 hm with hm | hm
      · exact hno e hm
      · simp only [List.mem_singleton] at hm; subst hm; exact he
  · have hlt' : ¬ (k : Int) < E.length := by omega
    unfold NoK at hno
    rw [List.take_of_length_le (by omega)] at hno
    have hR := at_none hno
    simp -implicitDefEqProofs [g0, g1, g5, gA]
    refine rfd (rd := rd) (en := en) hw 2 (by omega) (by simp [gA]) ?_
    rcases hE with rfl | ⟨rfl, rfl⟩
    · simp -implicitDefEqProofs [g0, g1, g5, gA, entsD, hlt, hlt', hR]
      exact ⟨.d (.int .i64 (-1)), [1000000], by simp, by simp [gA, isH], by simp [ResG], by simp, by simp [gA, entsD]⟩
    · simp only [List.length_nil] at hlt'
      simp -implicitDefEqProofs [g0, g1, g5, gA, entsD, hlt, hlt', hR]
      exact ⟨.d (.int .i64 (-1)), [1000000], by simp, by simp [gA, isH], by simp [ResG], by simp, by simp [gA]⟩

theorem ins_split {e : Ent} : ∀ {A B : List Ent}, (∀ x ∈ A, ¬ 0 < cmpN x.1 e.1) → insE e (A ++ B) = A ++ insE e B
  | [], _, _ => rfl
  | x :: A, B, h => by
    rw [List.cons_append, insE, if_neg (h x (by simp)), ins_split (fun y hy => h y (by simp [hy]))]; rfl
theorem ins_stop {e x : Ent} {B : List Ent} (h : 0 < cmpN x.1 e.1) : insE e (x :: B) = e :: x :: B := by rw [insE, if_pos h]
theorem ins_end {e : Ent} {A : List Ent} (h : ∀ x ∈ A, ¬ 0 < cmpN x.1 e.1) : insE e A = A ++ [e] := by
  have := ins_split (B := []) h
  rw [List.append_nil] at this
  rw [this]; rfl
theorem drop_e {α : Type} {l : List α} {k : Nat} (h : k < l.length) : l.drop k = l[k] :: l.drop (k + 1) := List.drop_eq_getElem_cons h
def InI (p : Nat) (rd en : D) (E : List Ent) (e : Ent) (k : Nat) (τ : St) : Prop := ∃ dn out, τ 0 = .d (.raw (va p)) ∧ τ 3 = .box (entD e) ∧ τ 4 = .own true 44 (out.map entD) ∧ τ 5 = .d (.bool dn) ∧ τ 6 = .d (.int .i64 k) ∧ τ 1000000 = .hb (va p) 68 (.agg [.bool true, rd, en]) ∧
  out.length ≤ k + 1 ∧ ((dn = false ∧ out = E.take k ∧ ∀ x ∈ E.take k, ¬ 0 < cmpN x.1 e.1) ∨ (dn = true ∧ out ++ E.drop k = insE e E))
theorem rins_fn (p : Nat) (rd en : D) (hw : width rd = 1) (E : List Ent) (hE : EnD E en) (hl : E.length < 100000) (hs : ∀ x ∈ E, List.length x.1 < 900000) (e : Ent) (he : List.length e.1 < 900000) :
    CtrG Tryz.prog 37 [.d (.raw (va p)), .d (entD e)] (rtr p rd en) (fun r hs' => r = .tup [] ∧ hs' = rtr p rd (entsD (insE e E))) := by
  refine fn_of_vwpGN (rs := []) (fun i => i == 4 || i == 35 || i == 45 || i == 51 || i == 6000053) (by kernel_rfl) Tryz.func37 (by kernel_rfl) rfl rfl (by simp) (Nat.le_of_ble_eq_true rfl) (by kernel_rfl) rfl ?_
  simp -implicitDefEqProofs [initG, rtr, ent_str]
  refine loopN E.length (InI p rd en E e) ⟨false, [], by simp [initG], by simp [initG, ent_str], by simp [initG], by simp [initG], by simp [initG], by simp [initG], by simp, .inl ⟨rfl, by simp, by simp⟩⟩ ?_
  rintro k τ hk ⟨dn, out, g0, g3, g4, g5, g6, gA, hol, hI⟩
  by_cases hlt : k < E.length
  · have hlt' : (k : Int) < E.length := by omega
    obtain rfl : en = entsD E := by
      rcases hE with h | ⟨rfl, _⟩
      · exact h
      · simp at hlt
    have hts := take_s hlt
    have hds := drop_e hlt
    have hsx := hs _ (List.getElem_mem hlt)
    have c1 := ncompareR_fn E[k].1 e.1 hsx he
    have hwx : ∀ x : Ent, width (entD x) = 2 := fun _ => rfl
    generalize hx : E[k] = x at *
    cases dn with
    | true =>
      have hI2 : (out ++ [x]) ++ E.drop (k + 1) = insE e E := by
        rcases hI with ⟨h, _⟩ | ⟨_, h⟩
        · cases h
        · rw [← h, hds]; simp
      clear hI
      generalize hV : insE e E = V at *
      simp -implicitDefEqProofs [g0, g3, g4, g5, g6, gA]
      refine rfd (rd := rd) (en := entsD E) hw 2 (by omega) (by simp [gA]) ?_
      simp -implicitDefEqProofs [g0, g3, g4, g5, g6, gA, entsD, hlt, hlt']
      refine rfd (rd := rd) (en := entsD E) hw 2 (by omega) (by simp [gA, entsD]) ?_
      simp -implicitDefEqProofs [g0, g3, g4, g5, g6, gA, entsD, hlt, hlt', hx, hwx]
      repeat refine And.intro (by first | omega | rfl) ?_
      exact again hlt ⟨true, out ++ [x], by simp [g0], by simp [g3], by simp, by simp [g5], by simp, by simp [gA, entsD], by simp; omega, .inr ⟨rfl, by rw [hI2, hV]⟩⟩
    | false =>
      obtain ⟨ho, hno⟩ : out = E.take k ∧ ∀ x ∈ E.take k, ¬ 0 < cmpN x.1 e.1 := by
        rcases hI with ⟨_, h⟩ | ⟨h, _⟩
        · exact h
        · cases h
      clear hI
      by_cases hc : 0 < cmpN x.1 e.1
      · have hI2 : (out ++ [e] ++ [x]) ++ E.drop (k + 1) = insE e E := by
          have h1 : insE e E = insE e (E.take k ++ E.drop k) := by rw [List.take_append_drop]
          rw [h1, ins_split hno, hds, ins_stop hc, ho]; simp
        generalize hV : insE e E = V at *
        generalize cmpN x.1 e.1 = C at *
        simp -implicitDefEqProofs [g0, g3, g4, g5, g6, gA]
        refine rfd (rd := rd) (en := entsD E) hw 2 (by omega) (by simp [gA]) ?_
        simp -implicitDefEqProofs [g0, g3, g4, g5, g6, gA, entsD, hlt, hlt']
        refine rfd (rd := rd) (en := entsD E) hw 2 (by omega) (by simp [gA, entsD]) ?_
        simp -implicitDefEqProofs [g0, g3, g4, g5, g6, gA, entsD, hlt, hlt', hx, ent_str]
        refine ⟨rfl, callP c1 ?_⟩
        simp -implicitDefEqProofs [g0, g3, g4, g5, g6, gA, entsD, hlt, hlt', hx, ent_str, hc]
        repeat refine And.intro (by first | omega | rfl) ?_
        refine rfd (rd := rd) (en := entsD E) hw 2 (by omega) (by simp [gA, entsD]) ?_
        simp -implicitDefEqProofs [g0, g3, g4, g5, g6, gA, entsD, hlt, hlt', hx, hwx]
        repeat refine And.intro (by first | omega | rfl) ?_
        exact again hlt ⟨true, out ++ [e] ++ [x], by simp [g0], by simp [g3], by simp [ent_str], by simp, by simp, by simp [gA, entsD], by rw [ho]; simp; omega, .inr ⟨rfl, by rw [hI2, hV]⟩⟩
      · have hI2 : ∀ y ∈ E.take (k + 1), ¬ 0 < cmpN y.1 e.1 := by
          rw [hts]
          intro y hy
          rcases List.mem_append.1 hy with hy | hy
          · exact hno y hy
          · simp only [List.mem_singleton] at hy; subst hy; exact hc
        have ho2 : out ++ [x] = E.take (k + 1) := by rw [hts, ho]
        have hc' : ¬ (0 : Int) < cmpN x.1 e.1 := hc
        generalize hC : cmpN x.1 e.1 = C at c1 hc'
        simp -implicitDefEqProofs [g0, g3, g4, g5, g6, gA]
        refine rfd (rd := rd) (en := entsD E) hw 2 (by omega) (by simp [gA]) ?_
        simp -implicitDefEqProofs [g0, g3, g4, g5, g6, gA, entsD, hlt, hlt']
        refine rfd (rd := rd) (en := entsD E) hw 2 (by omega) (by simp [gA, entsD]) ?_
        simp -implicitDefEqProofs [g0, g3, g4, g5, g6, gA, entsD, hlt, hlt', hx, ent_str]
        refine ⟨rfl, callP c1 ?_⟩
        simp -implicitDefEqProofs [g0, g3, g4, g5, g6, gA, entsD, hlt, hlt', hx, ent_str, hc']
        refine rfd (rd := rd) (en := entsD E) hw 2 (by omega) (by simp [gA, entsD]) ?_
        simp -implicitDefEqProofs [g0, g3, g4, g5, g6, gA, entsD, hlt, hlt', hx, hwx]
        repeat refine And.intro (by first | omega | rfl) ?_
        exact again hlt ⟨false, out ++ [x], by simp [g0], by simp [g3, ent_str], by simp, by simp [g5], by simp, by simp [gA, entsD], by simp; omega, .inl ⟨rfl, ho2, hI2⟩⟩
  · have hlt' : ¬ (k : Int) < E.length := by omega
    have hfin : (dn = false ∧ out ++ [e] = insE e E) ∨ (dn = true ∧ out = insE e E) := by
      rcases hI with ⟨h1, h2, h3⟩ | ⟨h1, h2⟩
      · rw [List.take_of_length_le (by omega)] at h2 h3
        exact .inl ⟨h1, by rw [h2, ins_end h3]⟩
      · rw [List.drop_eq_nil_of_le (by omega), List.append_nil] at h2
        exact .inr ⟨h1, h2⟩
    clear hI
    generalize insE e E = V at *
    simp -implicitDefEqProofs [g0, g3, g4, g5, g6, gA]
    refine rfd (rd := rd) (en := en) hw 2 (by omega) (by simp [gA]) ?_
    rcases hfin with ⟨rfl, hf⟩ | ⟨rfl, hf⟩ <;> rcases hE with rfl | ⟨rfl, rfl⟩
    · simp -implicitDefEqProofs [g0, g3, g4, g5, g6, gA, entsD, hlt, hlt', ent_str]
      repeat refine And.intro (by first | omega | rfl) ?_
      refine rfd (rd := rd) (en := entsD E) hw 2 (by omega) (by simp [gA, entsD]) ?_
      simp -implicitDefEqProofs [g0, g3, g4, g5, g6, gA, entsD, hlt, hlt', ent_str]
      exact ⟨[], [1000000], by simp, by simp [gA, isH], by simp [resDs], by simp, by rw [← hf]; simp [entsD, ent_str]⟩
    · have hz : ¬ (k : Int) < 0 := by omega
      simp -implicitDefEqProofs [g0, g3, g4, g5, g6, gA, entsD, hz, ent_str]
      repeat refine And.intro (by first | omega | rfl) ?_
      refine rfd (rd := rd) (en := .raw (.slice none 0 0)) hw 2 (by omega) (by simp [gA]) ?_
      simp -implicitDefEqProofs [g0, g3, g4, g5, g6, gA, entsD, hlt, hlt', ent_str]
      exact ⟨[], [1000000], by simp, by simp [gA, isH], by simp [resDs], by simp, by rw [← hf]; simp [entsD, ent_str]⟩
    · simp -implicitDefEqProofs [g0, g3, g4, g5, g6, gA, entsD, hlt, hlt', ent_str]
      refine rfd (rd := rd) (en := entsD E) hw 2 (by omega) (by simp [gA, entsD]) ?_
      simp -implicitDefEqProofs [g0, g3, g4, g5, g6, gA, entsD, hlt, hlt', ent_str]
      exact ⟨[], [1000000], by simp, by simp [gA, isH], by simp [resDs], by simp, by rw [← hf]; simp [entsD, ent_str]⟩
    · have hz : ¬ (k : Int) < 0 := by omega
      simp -implicitDefEqProofs [g0, g3, g4, g5, g6, gA, entsD, hz, ent_str]
      refine rfd (rd := rd) (en := .raw (.slice none 0 0)) hw 2 (by omega) (by simp [gA]) ?_
      simp -implicitDefEqProofs [g0, g3, g4, g5, g6, gA, entsD, hlt, hlt', ent_str]
      exact ⟨[], [1000000], by simp, by simp [gA, isH], by first | rfl | simp [resDs], by first | rfl | simp, by subst hf; simp [entsD, gA]⟩
theorem rdrop_fn (p : Nat) (rd : D) (hw : width rd = 1) (E : List Ent) (hl : E.length < 100000) (i : Nat) (hi : i < E.length) :
    CtrG Tryz.prog 70 [.d (.raw (va p)), .d (.int .i64 i)] (rtr p rd (entsD E)) (fun r hs' => r = .tup [] ∧ hs' = rtr p rd (entsD (E.eraseIdx i))) := by
  refine fn_of_vwpGN (rs := []) (fun i => i == 9000000 || i == 14000000 || i == 5 || i == 12) (by kernel_rfl) Tryz.func70 (by kernel_rfl) rfl rfl (by simp) (Nat.le_of_ble_eq_true rfl) (by kernel_rfl) rfl ?_
  have hi' : (i : Int) ≤ E.length := by omega
  have h0 : (0 : Int) ≤ i := by omega
  have hre : E.eraseIdx i = E.take i ++ E.drop (i + 1) := List.eraseIdx_eq_take_drop_succ _ _
  rw [hre]
  have hi2 : (i : Int) + 1 ≤ E.length := by omega
  have hi3 : i ≤ E.length := by omega
  have hi4 : i + 1 ≤ E.length := by omega
  have h1 : ((i : Int) + 1).toNat = i + 1 := by omega
  have h2 : (0 : Int) ≤ (i : Int) + 1 := by omega
  have htk : List.take (E.length - (i + 1)) (List.drop (i + 1) (E.map entD)) = (E.drop (i + 1)).map entD := by
    rw [← List.map_drop]; exact List.take_of_length_le (by simp)
  have hwE : ∀ (k : Nat) (u : D), u ∈ List.take k (E.map entD) → width u = 2 := fun k u hu => by
    obtain ⟨x, _, rfl⟩ := List.mem_map.1 (List.mem_of_mem_take hu); rfl
  simp -implicitDefEqProofs [initG, rtr, entsD, hi, hi', h0]
  refine rfd (rd := rd) (en := entsD E) hw 2 (by omega) (by simp [initG, entsD]) ?_
  simp -implicitDefEqProofs [initG, entsD, hi, hi', h0, hi3]
  refine ⟨by rintro _ x y _ rfl; rfl, hwE i, by omega, by omega, ?_⟩
  refine rfd (rd := rd) (en := entsD E) hw 2 (by omega) (by simp [initG, entsD]) ?_
  simp -implicitDefEqProofs [initG, entsD, hi, hi', h0, hi2, hi3, hi4, h1, h2, htk]
  repeat refine And.intro (by omega) ?_
  refine ⟨by rintro _ x y _ rfl; rfl, fun u hu => by
    obtain ⟨x, _, rfl⟩ := List.mem_map.1 (List.mem_of_mem_drop hu); rfl, by omega, by omega, ?_⟩
  refine rfd (rd := rd) (en := entsD E) hw 2 (by omega) (by simp [initG, entsD]) ?_
  simp -implicitDefEqProofs [initG, entsD, hi, hi', h0, hi2, hi3, hi4, h1, h2, htk]
  exact ⟨[], [1000000], by simp, by simp [initG, isH], by simp [resDs], by simp, by simp [initG, entsD]⟩
end Go.Proofs.Tz

/- The reference's tree: parent, Len, Get, Children, Subtree, Add, Put, Delete; equality of entries. -/
set_option maxRecDepth 100000
set_option maxHeartbeats 8000000
set_option linter.unusedSimpArgs false
set_option linter.unusedVariables false
namespace Go.Proofs.Tz
open Go.Vw Go.RowKit Go.Proofs Go.Sort

theorem rproper_fn (s : Str) (hs : List.length s < 900000) : Ctr Tryz.prog 68 [.d (.str s)] (.d (.bool (properU s))) := by
  refine fn_of_vwp (fun _ => false) (by kernel_rfl) Tryz.func68 (by kernel_rfl) rfl rfl (Nat.le_of_ble_eq_true rfl) (by kernel_rfl) rfl rfl ?_
  have c1 := nvalidR_fn s hs
  unfold properU
  by_cases h0 : s = []
  · subst h0
    simp -implicitDefEqProofs
  · simp -implicitDefEqProofs [h0]
    refine callK c1 ?_
    simp -implicitDefEqProofs
/-- What an index tells. -/
theorem at_facts (E : List Ent) (s : Str) : (hasE E s = true ∧ 0 ≤ atE E s ∧ ¬ atE E s < 0) ∨ (hasE E s = false ∧ ¬ 0 ≤ atE E s ∧ atE E s < 0) := by
  cases h : hasE E s with
  | true =>
    have := at_nonneg.2 h
    exact .inl ⟨rfl, this, by omega⟩
  | false =>
    have := at_neg.2 h
    exact .inr ⟨rfl, by omega, this⟩
section
variable (p : Nat) (rd : D) (hw : width rd = 1) (E : List Ent)
include hw
theorem rparent_fn (hl : E.length < 100000) (s : Str) (hs : List.length s < 900000) : CtrG Tryz.prog 69 [.d (.raw (va p)), .d (.str s)] (rtr p rd (entsD E)) (fun r hs' => r = .d (.bool (parentedE E s)) ∧ hs' = rtr p rd (entsD E)) := by
  refine fn_of_vwpG (fun i => i == 5000016) (by kernel_rfl) Tryz.func69 (by kernel_rfl) rfl rfl (Nat.le_of_ble_eq_true rfl) (by kernel_rfl) rfl ?_
  have c1 := nparentR_fn s hs
  unfold parentedE
  generalize parentU s = q at *
  obtain ⟨t, b⟩ := q
  have c2 := rat_fn p rd (entsD E) hw E (.inl rfl) hl t
  have hf := at_facts E t
  generalize atE E t = A at *
  simp -implicitDefEqProofs [initG, rtr]
  refine callK c1 ?_
  cases b with
  | false =>
    simp -implicitDefEqProofs [initG, rtr]
    exact ⟨.d (.bool false), [1000000], by simp, by simp [initG, isH], by simp [ResG], by simp, by simp [initG]⟩
  | true =>
    simp -implicitDefEqProofs [initG, rtr]
    refine givB [1000000] 1000000 c2 (by simp [initG, rtr]) rfl (by simp) ?_
    rintro r hs' ⟨rfl, rfl⟩
    rcases hf with ⟨h1, h2, h3⟩ | ⟨h1, h2, h3⟩
    · simp -implicitDefEqProofs [initG, takeH, putH, rtr, h2]
      exact ⟨.d (.bool true), [1000000], by simp, by simp [initG, isH], by simp [ResG], by simp [h1], by simp [initG]⟩
    · simp -implicitDefEqProofs [initG, takeH, putH, rtr, h2]
      exact ⟨.d (.bool false), [1000000], by simp, by simp [initG, isH], by simp [ResG], by simp [h1], by simp [initG]⟩
theorem rlen_fn : CtrG Tryz.prog 45 [.d (.raw (va p))] (rtr p rd (entsD E)) (fun r hs' => r = .d (.int .i64 E.length) ∧ hs' = rtr p rd (entsD E)) := by
  refine fn_of_vwpG (fun i => i == 5000004) (by kernel_rfl) Tryz.func45 (by kernel_rfl) rfl rfl (Nat.le_of_ble_eq_true rfl) (by kernel_rfl) rfl ?_
  simp -implicitDefEqProofs [initG, rtr]
  refine givB [1000000] 1000000 (rmade_fn p rd (entsD E) hw) (by simp [initG, rtr]) rfl (by simp) ?_
  rintro r hs' ⟨rfl, rfl⟩
  simp -implicitDefEqProofs [initG, takeH, putH, rtr]
  refine rfd (rd := rd) (en := entsD E) hw 2 (by omega) (by simp [initG]) ?_
  simp -implicitDefEqProofs [initG, entsD]
  exact ⟨.d (.int .i64 E.length), [1000000], by simp, by simp [initG, isH], by simp [ResG], by simp, by simp [initG]⟩
def getR (E : List Ent) (s : Str) : Ent × Bool := match getE E s with
  | some a => ((s, a), true)
  | none => (([], []), false)
omit hw in
theorem at_entry {E : List Ent} (hE : OrdE E) {s : Str} (h : hasE E s = true) : ∃ k, ∃ hk : k < E.length, ∃ a, atE E s = (k : Nat) ∧ E[k] = (s, a) ∧ getE E s = some a := by
  obtain ⟨k, hk, h1, h2⟩ := at_get h
  refine ⟨k, hk, E[k].2, h1, by rw [← h2], ?_⟩
  have := getE_mem hE (List.getElem_mem hk)
  rwa [h2] at this
theorem rget_fn (hE : OrdE E) (hl : E.length < 100000) (s : Str) : CtrG Tryz.prog 44 [.d (.raw (va p)), .d (.str s)] (rtr p rd (entsD E)) (fun r hs' => r = .tup [.d (entD (getR E s).1), .d (.bool (getR E s).2)] ∧ hs' = rtr p rd (entsD E)) := by
  refine fn_of_vwpGN (rs := [.cell 4 44, .tmp 5]) (fun i => i == 5000008 || i == 5000013) (by kernel_rfl) Tryz.func44 (by kernel_rfl) rfl rfl (by simp) (Nat.le_of_ble_eq_true rfl) (by kernel_rfl) rfl ?_
  have c2 := rat_fn p rd (entsD E) hw E (.inl rfl) hl s
  have hR : getR E s = match getE E s with | some a => ((s, a), true) | none => (([], []), false) := rfl
  rcases at_facts E s with ⟨h1, h2, h3⟩ | ⟨h1, h2, h3⟩
  · obtain ⟨k, hk, a, e1, e2, e3⟩ := at_entry hE h1
    rw [e3] at hR
    rw [hR]
    rw [e1] at c2
    have hk0 : ¬ (k : Int) < 0 := by omega
    simp -implicitDefEqProofs [initG, rtr]
    refine givB [1000000] 1000000 (rmade_fn p rd (entsD E) hw) (by simp [initG, rtr]) rfl (by simp) ?_
    rintro r hs' ⟨rfl, rfl⟩
    simp -implicitDefEqProofs [initG, takeH, putH, rtr]
    refine givB [1000000] 1000000 c2 (by simp [initG, rtr]) rfl (by simp) ?_
    rintro r hs' ⟨rfl, rfl⟩
    simp -implicitDefEqProofs [initG, takeH, putH, rtr, hk0]
    refine rfd (rd := rd) (en := entsD E) hw 2 (by omega) (by simp [initG]) ?_
    simp -implicitDefEqProofs [initG, entsD, hk, e2, entD, atts]
    repeat refine And.intro (by first | omega | rfl) ?_
    exact ⟨[.d (entD (s, a)), .d (.bool true)], [1000000], by simp, by simp [initG, isH], by simp [resDs, resD, entD, atts], by simp [entD, atts], by simp [initG]⟩
  · have hn := getE_none h1
    rw [hn] at hR
    rw [hR]
    simp -implicitDefEqProofs [initG, rtr]
    refine givB [1000000] 1000000 (rmade_fn p rd (entsD E) hw) (by simp [initG, rtr]) rfl (by simp) ?_
    rintro r hs' ⟨rfl, rfl⟩
    simp -implicitDefEqProofs [initG, takeH, putH, rtr]
    refine givB [1000000] 1000000 c2 (by simp [initG, rtr]) rfl (by simp) ?_
    rintro r hs' ⟨rfl, rfl⟩
    simp -implicitDefEqProofs [initG, takeH, putH, rtr, h3]
    exact ⟨[.d (entD ([], [])), .d (.bool false)], [1000000], by simp, by simp [initG, isH], by simp [resDs, resD, entD, atts], by simp [entD, atts], by simp [initG]⟩
/-- The entries of a list that fit, as the reference picks them. -/
def RcI (p : Nat) (rd : D) (E : List Ent) (s : Str) (f : Ent → Bool) (g : Ent → D) (ty : TypeId) (k : Nat) (τ : St) : Prop := τ 0 = .d (.raw (va p)) ∧ τ 1 = .d (.str s) ∧ τ 5 = .own true ty (((E.take k).filter f).map g) ∧ τ 6 = .d (.int .i64 k) ∧ τ 1000000 = .hb (va p) 68 (.agg [.bool true, rd, entsD E])
omit hw in
theorem kids_filter (E : List Ent) (s : Str) : (kidsE E s).map D.str = (E.filter fun e => (parentU e.1).2 && decide ((parentU e.1).1 = s)).map (fun e => D.str e.1) := by
  unfold kidsE keysE
  rw [List.filter_map, List.map_map]
  rfl
omit hw in
theorem len_filter {f : Ent → Bool} {k : Nat} (hl : E.length < 100000) : ((E.take k).filter f).length < 100000 := by
  have h1 := List.length_filter_le f (E.take k)
  simp only [List.length_take] at h1
  omega
theorem rchildren_fn (hl : E.length < 100000) (hk : ∀ e ∈ E, List.length e.1 < 900000) (s : Str) : CtrG Tryz.prog 48 [.d (.raw (va p)), .d (.str s)] (rtr p rd (entsD E)) (fun r hs' => r = .own true 9 ((childrenE E s).map .str) ∧ hs' = rtr p rd (entsD E)) := by
  refine fn_of_vwpG (fun i => i == 4 || i == 5 || i == 59 || i == 5000010 || i == 5000018) (by kernel_rfl) Tryz.func48 (by kernel_rfl) rfl rfl (Nat.le_of_ble_eq_true rfl) (by kernel_rfl) rfl ?_
  have c0 := rmade_fn p rd (entsD E) hw
  have c2 := rat_fn p rd (entsD E) hw E (.inl rfl) hl s
  have hf := at_facts E s
  have hR : childrenE E s = if s ≠ [] ∧ hasE E s = false then [] else kidsE E s := rfl
  have hkf := (kids_filter E s).symm
  by_cases hn : s ≠ [] ∧ hasE E s = false
  · rw [if_pos hn] at hR
    rw [hR]
    have h0 := hn.1
    rcases hf with ⟨h1, _⟩ | ⟨h1, h2, h3⟩
    · rw [hn.2] at h1; cases h1
    generalize atE E s = A at *
    simp -implicitDefEqProofs [initG, rtr]
    refine givB [1000000] 1000000 c0 (by simp [initG, rtr]) rfl (by simp) ?_
    rintro r hs' ⟨rfl, rfl⟩
    simp -implicitDefEqProofs [initG, takeH, putH, rtr, h0]
    refine givB [1000000] 1000000 c2 (by simp [initG, rtr]) rfl (by simp) ?_
    rintro r hs' ⟨rfl, rfl⟩
    simp -implicitDefEqProofs [initG, takeH, putH, rtr, h3]
    exact ⟨.own true 9 [], [1000000], by simp, by simp [initG, isH], by simp [ResG], by simp, by simp [initG]⟩
  rw [if_neg hn] at hR
  rw [hR]
  generalize (kidsE E s).map D.str = KK at *
  by_cases h0 : s = []
  · subst h0
    clear c2 hf
    simp -implicitDefEqProofs [initG, rtr]
    refine givB [1000000] 1000000 c0 (by simp [initG, rtr]) rfl (by simp) ?_
    rintro r hs' ⟨rfl, rfl⟩
    simp -implicitDefEqProofs [initG, takeH, putH, rtr]
    refine loopN E.length (RcI p rd E [] (fun e => (parentU e.1).2 && decide ((parentU e.1).1 = [])) (fun e => .str e.1) 9) ⟨by simp [initG], by simp [initG], by simp [initG], by simp [initG], by simp [initG]⟩ ?_
    rintro k τ hk2 ⟨g0, g1, g5, g6, gA⟩
    by_cases hlt : k < E.length
    · have hlt' : (k : Int) < E.length := by omega
      have hx := hk _ (List.getElem_mem hlt)
      have c1 := nparentR_fn E[k].1 hx
      have hts : (E.take (k + 1)).filter (fun e => (parentU e.1).2 && decide ((parentU e.1).1 = [])) = (E.take k).filter (fun e => (parentU e.1).2 && decide ((parentU e.1).1 = [])) ++ (if ((parentU E[k].1).2 && decide ((parentU E[k].1).1 = [])) = true then [E[k]] else []) := by
        rw [take_s hlt, filter_snoc]
      have hln := len_filter E (f := fun e => (parentU e.1).2 && decide ((parentU e.1).1 = [])) (k := k) hl
      generalize hT2 : (E.take (k + 1)).filter (fun e => (parentU e.1).2 && decide ((parentU e.1).1 = [])) = T2 at *
      generalize (E.take k).filter (fun e => (parentU e.1).2 && decide ((parentU e.1).1 = [])) = T at *
      generalize hxe : E[k] = x at *
      generalize parentU x.1 = q at *
      obtain ⟨t, b⟩ := q
      simp only at hts
      cases b with
      | false =>
        simp only [Bool.false_and, Bool.false_eq_true, if_false, List.append_nil] at hts
        simp -implicitDefEqProofs [g0, g1, g5, g6, gA]
        refine rfd (rd := rd) (en := entsD E) hw 2 (by omega) (by simp [gA]) ?_
        simp -implicitDefEqProofs [g0, g1, g5, g6, gA, entsD, hlt, hlt']
        refine rfd (rd := rd) (en := entsD E) hw 2 (by omega) (by simp [gA, entsD]) ?_
        simp -implicitDefEqProofs [g0, g1, g5, g6, gA, entsD, hlt, hlt', hxe, ent_str]
        refine ⟨rfl, callK c1 ?_⟩
        simp -implicitDefEqProofs [g0, g1, g5, g6, gA, entsD]
        repeat refine And.intro (by first | omega | rfl) ?_
        exact again hlt ⟨by simp [g0], by simp [g1], by simp only [hT2, hts]; simp [g5], by simp, by simp [gA, entsD]⟩
      | true =>
        by_cases hts2 : t = []
        · simp only [hts2, decide_true, Bool.and_self, if_true] at hts
          simp -implicitDefEqProofs [g0, g1, g5, g6, gA]
          refine rfd (rd := rd) (en := entsD E) hw 2 (by omega) (by simp [gA]) ?_
          simp -implicitDefEqProofs [g0, g1, g5, g6, gA, entsD, hlt, hlt']
          refine rfd (rd := rd) (en := entsD E) hw 2 (by omega) (by simp [gA, entsD]) ?_
          simp -implicitDefEqProofs [g0, g1, g5, g6, gA, entsD, hlt, hlt', hxe, ent_str]
          refine ⟨rfl, callK c1 ?_⟩
          simp -implicitDefEqProofs [g0, g1, g5, g6, gA, entsD, hts2]
          refine rfd (rd := rd) (en := entsD E) hw 2 (by omega) (by simp [gA, entsD]) ?_
          simp -implicitDefEqProofs [g0, g1, g5, g6, gA, entsD, hlt, hlt', hxe, ent_str, hts2]
          repeat refine And.intro (by first | omega | rfl) ?_
          exact again hlt ⟨by simp [g0], by simp [g1], by simp only [hT2, hts]; simp, by simp, by simp [gA, entsD]⟩
        · simp only [hts2, decide_false, Bool.and_false, Bool.false_eq_true, if_false, List.append_nil] at hts
          simp -implicitDefEqProofs [g0, g1, g5, g6, gA]
          refine rfd (rd := rd) (en := entsD E) hw 2 (by omega) (by simp [gA]) ?_
          simp -implicitDefEqProofs [g0, g1, g5, g6, gA, entsD, hlt, hlt']
          refine rfd (rd := rd) (en := entsD E) hw 2 (by omega) (by simp [gA, entsD]) ?_
          simp -implicitDefEqProofs [g0, g1, g5, g6, gA, entsD, hlt, hlt', hxe, ent_str]
          refine ⟨rfl, callK c1 ?_⟩
          simp -implicitDefEqProofs [g0, g1, g5, g6, gA, entsD, hts2]
          repeat refine And.intro (by first | omega | rfl) ?_
          exact again hlt ⟨by simp [g0], by simp [g1], by simp only [hT2, hts]; simp [g5], by simp, by simp [gA, entsD]⟩
    · have hlt' : ¬ (k : Int) < E.length := by omega
      rw [List.take_of_length_le (by omega), hkf] at g5
      simp -implicitDefEqProofs [g0, g1, g5, g6, gA]
      refine rfd (rd := rd) (en := entsD E) hw 2 (by omega) (by simp [gA]) ?_
      simp -implicitDefEqProofs [g0, g1, g5, g6, gA, entsD, hlt, hlt']
      exact ⟨.own true 9 KK, [1000000], by simp, by simp [gA, isH], by simp [ResG], by simp, by simp [gA, entsD]⟩
  · rcases hf with ⟨h1, h2, h3⟩ | ⟨h1, _⟩
    case inr => exact absurd ⟨h0, h1⟩ hn
    generalize atE E s = A at *
    simp -implicitDefEqProofs [initG, rtr]
    refine givB [1000000] 1000000 c0 (by simp [initG, rtr]) rfl (by simp) ?_
    rintro r hs' ⟨rfl, rfl⟩
    simp -implicitDefEqProofs [initG, takeH, putH, rtr, h0]
    refine givB [1000000] 1000000 c2 (by simp [initG, rtr]) rfl (by simp) ?_
    rintro r hs' ⟨rfl, rfl⟩
    simp -implicitDefEqProofs [initG, takeH, putH, rtr, h3]
    refine loopN E.length (RcI p rd E s (fun e => (parentU e.1).2 && decide ((parentU e.1).1 = s)) (fun e => .str e.1) 9) ⟨by simp [initG], by simp [initG], by simp [initG], by simp [initG], by simp [initG]⟩ ?_
    rintro k τ hk2 ⟨g0, g1, g5, g6, gA⟩
    by_cases hlt : k < E.length
    · have hlt' : (k : Int) < E.length := by omega
      have hx := hk _ (List.getElem_mem hlt)
      have c1 := nparentR_fn E[k].1 hx
      have hts : (E.take (k + 1)).filter (fun e => (parentU e.1).2 && decide ((parentU e.1).1 = s)) = (E.take k).filter (fun e => (parentU e.1).2 && decide ((parentU e.1).1 = s)) ++ (if ((parentU E[k].1).2 && decide ((parentU E[k].1).1 = s)) = true then [E[k]] else []) := by
        rw [take_s hlt, filter_snoc]
      have hln := len_filter E (f := fun e => (parentU e.1).2 && decide ((parentU e.1).1 = s)) (k := k) hl
      generalize hT2 : (E.take (k + 1)).filter (fun e => (parentU e.1).2 && decide ((parentU e.1).1 = s)) = T2 at *
      generalize (E.take k).filter (fun e => (parentU e.1).2 && decide ((parentU e.1).1 = s)) = T at *
      generalize hxe : E[k] = x at *
      generalize parentU x.1 = q at *
      obtain ⟨t, b⟩ := q
      simp only at hts
      cases b with
      | false =>
        simp only [Bool.false_and, Bool.false_eq_true, if_false, List.append_nil] at hts
        simp -implicitDefEqProofs [g0, g1, g5, g6, gA]
        refine rfd (rd := rd) (en := entsD E) hw 2 (by omega) (by simp [gA]) ?_
        simp -implicitDefEqProofs [g0, g1, g5, g6, gA, entsD, hlt, hlt']
        refine rfd (rd := rd) (en := entsD E) hw 2 (by omega) (by simp [gA, entsD]) ?_
        simp -implicitDefEqProofs [g0, g1, g5, g6, gA, entsD, hlt, hlt', hxe, ent_str]
        refine ⟨rfl, callK c1 ?_⟩
        simp -implicitDefEqProofs [g0, g1, g5, g6, gA, entsD]
        repeat refine And.intro (by first | omega | rfl) ?_
        exact again hlt ⟨by simp [g0], by simp [g1], by simp only [hT2, hts]; simp [g5], by simp, by simp [gA, entsD]⟩
      | true =>
        by_cases hts2 : t = s
        · simp only [hts2, decide_true, Bool.and_self, if_true] at hts
          simp -implicitDefEqProofs [g0, g1, g5, g6, gA]
          refine rfd (rd := rd) (en := entsD E) hw 2 (by omega) (by simp [gA]) ?_
          simp -implicitDefEqProofs [g0, g1, g5, g6, gA, entsD, hlt, hlt']
          refine rfd (rd := rd) (en := entsD E) hw 2 (by omega) (by simp [gA, entsD]) ?_
          simp -implicitDefEqProofs [g0, g1, g5, g6, gA, entsD, hlt, hlt', hxe, ent_str]
          refine ⟨rfl, callK c1 ?_⟩
          simp -implicitDefEqProofs [g0, g1, g5, g6, gA, entsD, hts2]
          refine rfd (rd := rd) (en := entsD E) hw 2 (by omega) (by simp [gA, entsD]) ?_
          simp -implicitDefEqProofs [g0, g1, g5, g6, gA, entsD, hlt, hlt', hxe, ent_str, hts2]
          repeat refine And.intro (by first | omega | rfl) ?_
          exact again hlt ⟨by simp [g0], by simp [g1], by simp only [hT2, hts]; simp, by simp, by simp [gA, entsD]⟩
        · simp only [hts2, decide_false, Bool.and_false, Bool.false_eq_true, if_false, List.append_nil] at hts
          simp -implicitDefEqProofs [g0, g1, g5, g6, gA]
          refine rfd (rd := rd) (en := entsD E) hw 2 (by omega) (by simp [gA]) ?_
          simp -implicitDefEqProofs [g0, g1, g5, g6, gA, entsD, hlt, hlt']
          refine rfd (rd := rd) (en := entsD E) hw 2 (by omega) (by simp [gA, entsD]) ?_
          simp -implicitDefEqProofs [g0, g1, g5, g6, gA, entsD, hlt, hlt', hxe, ent_str]
          refine ⟨rfl, callK c1 ?_⟩
          simp -implicitDefEqProofs [g0, g1, g5, g6, gA, entsD, hts2]
          repeat refine And.intro (by first | omega | rfl) ?_
          exact again hlt ⟨by simp [g0], by simp [g1], by simp only [hT2, hts]; simp [g5], by simp, by simp [gA, entsD]⟩
    · have hlt' : ¬ (k : Int) < E.length := by omega
      rw [List.take_of_length_le (by omega), hkf] at g5
      simp -implicitDefEqProofs [g0, g1, g5, g6, gA]
      refine rfd (rd := rd) (en := entsD E) hw 2 (by omega) (by simp [gA]) ?_
      simp -implicitDefEqProofs [g0, g1, g5, g6, gA, entsD, hlt, hlt']
      exact ⟨.own true 9 KK, [1000000], by simp, by simp [gA, isH], by simp [ResG], by simp, by simp [gA, entsD]⟩
def subF (s : Str) (e : Ent) : Bool := decide (s = []) || underU e.1 s
theorem rsubtree_fn (hl : E.length < 100000) (hk : ∀ e ∈ E, List.length e.1 < 900000) (s : Str) (hs : List.length s < 900000) : CtrG Tryz.prog 46 [.d (.raw (va p)), .d (.str s)] (rtr p rd (entsD E)) (fun r hs' => r = .own true 44 ((subtreeE E s).map entD) ∧ hs' = rtr p rd (entsD E)) := by
  refine fn_of_vwpG (fun i => i == 4 || i == 5 || i == 52 || i == 5000008 || i == 5000016) (by kernel_rfl) Tryz.func46 (by kernel_rfl) rfl rfl (Nat.le_of_ble_eq_true rfl) (by kernel_rfl) rfl ?_
  have c0 := rmade_fn p rd (entsD E) hw
  have c2 := rat_fn p rd (entsD E) hw E (.inl rfl) hl s
  have hf := at_facts E s
  have hR : subtreeE E s = if s ≠ [] ∧ hasE E s = false then [] else subE E s := rfl
  have hkf : (E.filter (subF s)).map entD = (subE E s).map entD := rfl
  by_cases hn : s ≠ [] ∧ hasE E s = false
  · rw [if_pos hn] at hR
    rw [hR]
    have h0 := hn.1
    rcases hf with ⟨h1, _⟩ | ⟨h1, h2, h3⟩
    · rw [hn.2] at h1; cases h1
    generalize atE E s = A at *
    simp -implicitDefEqProofs [initG, rtr]
    refine givB [1000000] 1000000 c0 (by simp [initG, rtr]) rfl (by simp) ?_
    rintro r hs' ⟨rfl, rfl⟩
    simp -implicitDefEqProofs [initG, takeH, putH, rtr, h0]
    refine givB [1000000] 1000000 c2 (by simp [initG, rtr]) rfl (by simp) ?_
    rintro r hs' ⟨rfl, rfl⟩
    simp -implicitDefEqProofs [initG, takeH, putH, rtr, h3]
    exact ⟨.own true 44 [], [1000000], by simp, by simp [initG, isH], by simp [ResG], by simp, by simp [initG]⟩
  rw [if_neg hn] at hR
  rw [hR]
  generalize (subE E s).map entD = KK at *
  by_cases h0 : s = []
  · subst h0
    clear c2 hf
    simp -implicitDefEqProofs [initG, rtr]
    refine givB [1000000] 1000000 c0 (by simp [initG, rtr]) rfl (by simp) ?_
    rintro r hs' ⟨rfl, rfl⟩
    simp -implicitDefEqProofs [initG, takeH, putH, rtr]
    refine loopN E.length (RcI p rd E [] (subF []) entD 44) ⟨by simp [initG], by simp [initG], by simp [initG], by simp [initG], by simp [initG]⟩ ?_
    rintro k τ hk2 ⟨g0, g1, g5, g6, gA⟩
    by_cases hlt : k < E.length
    · have hlt' : (k : Int) < E.length := by omega
      have hx := hk _ (List.getElem_mem hlt)
      have hwx : ∀ x : Ent, width (entD x) = 2 := fun _ => rfl
      have hts : (E.take (k + 1)).filter (subF []) = (E.take k).filter (subF []) ++ [E[k]] := by
        rw [take_s hlt, filter_snoc]; simp [subF]
      have hln := len_filter E (f := (subF [])) (k := k) hl
      generalize hT2 : (E.take (k + 1)).filter (subF []) = T2 at *
      generalize (E.take k).filter (subF []) = T at *
      generalize hxe : E[k] = x at *
      simp -implicitDefEqProofs [g0, g1, g5, g6, gA]
      refine rfd (rd := rd) (en := entsD E) hw 2 (by omega) (by simp [gA]) ?_
      simp -implicitDefEqProofs [g0, g1, g5, g6, gA, entsD, hlt, hlt']
      refine rfd (rd := rd) (en := entsD E) hw 2 (by omega) (by simp [gA, entsD]) ?_
      simp -implicitDefEqProofs [g0, g1, g5, g6, gA, entsD, hlt, hlt', hxe, hwx]
      repeat refine And.intro (by first | omega | rfl) ?_
      exact again hlt ⟨by simp [g0], by simp [g1], by simp only [hT2, hts]; simp, by simp, by simp [gA, entsD]⟩
    · have hlt' : ¬ (k : Int) < E.length := by omega
      rw [List.take_of_length_le (by omega), hkf] at g5
      simp -implicitDefEqProofs [g0, g1, g5, g6, gA]
      refine rfd (rd := rd) (en := entsD E) hw 2 (by omega) (by simp [gA]) ?_
      simp -implicitDefEqProofs [g0, g1, g5, g6, gA, entsD, hlt, hlt']
      exact ⟨.own true 44 KK, [1000000], by simp, by simp [gA, isH], by simp [ResG], by simp, by simp [gA, entsD]⟩
  · rcases hf with ⟨h1, h2, h3⟩ | ⟨h1, _⟩
    case inr => exact absurd ⟨h0, h1⟩ hn
    generalize atE E s = A at *
    simp -implicitDefEqProofs [initG, rtr]
    refine givB [1000000] 1000000 c0 (by simp [initG, rtr]) rfl (by simp) ?_
    rintro r hs' ⟨rfl, rfl⟩
    simp -implicitDefEqProofs [initG, takeH, putH, rtr, h0]
    refine givB [1000000] 1000000 c2 (by simp [initG, rtr]) rfl (by simp) ?_
    rintro r hs' ⟨rfl, rfl⟩
    simp -implicitDefEqProofs [initG, takeH, putH, rtr, h3]
    refine loopN E.length (RcI p rd E s (subF s) entD 44) ⟨by simp [initG], by simp [initG], by simp [initG], by simp [initG], by simp [initG]⟩ ?_
    rintro k τ hk2 ⟨g0, g1, g5, g6, gA⟩
    by_cases hlt : k < E.length
    · have hlt' : (k : Int) < E.length := by omega
      have hx := hk _ (List.getElem_mem hlt)
      have hwx : ∀ x : Ent, width (entD x) = 2 := fun _ => rfl
      have c1 := nunderR_fn E[k].1 s hx hs
      have hts : (E.take (k + 1)).filter (subF s) = (E.take k).filter (subF s) ++ (if underU E[k].1 s = true then [E[k]] else []) := by
        rw [take_s hlt, filter_snoc]; simp [subF, h0]
      have hln := len_filter E (f := (subF s)) (k := k) hl
      generalize hT2 : (E.take (k + 1)).filter (subF s) = T2 at *
      generalize (E.take k).filter (subF s) = T at *
      generalize hxe : E[k] = x at *
      generalize underU x.1 s = b at *
      cases b with
      | false =>
        simp only [Bool.false_eq_true, if_false, List.append_nil] at hts
        simp -implicitDefEqProofs [g0, g1, g5, g6, gA]
        refine rfd (rd := rd) (en := entsD E) hw 2 (by omega) (by simp [gA]) ?_
        simp -implicitDefEqProofs [g0, g1, g5, g6, gA, entsD, hlt, hlt', h0]
        refine rfd (rd := rd) (en := entsD E) hw 2 (by omega) (by simp [gA, entsD]) ?_
        simp -implicitDefEqProofs [g0, g1, g5, g6, gA, entsD, hlt, hlt', hxe, ent_str]
        refine ⟨rfl, callK c1 ?_⟩
        simp -implicitDefEqProofs [g0, g1, g5, g6, gA, entsD]
        repeat refine And.intro (by first | omega | rfl) ?_
        exact again hlt ⟨by simp [g0], by simp [g1], by simp only [hT2, hts]; simp [g5], by simp, by simp [gA, entsD]⟩
      | true =>
        simp only [if_true] at hts
        simp -implicitDefEqProofs [g0, g1, g5, g6, gA]
        refine rfd (rd := rd) (en := entsD E) hw 2 (by omega) (by simp [gA]) ?_
        simp -implicitDefEqProofs [g0, g1, g5, g6, gA, entsD, hlt, hlt', h0]
        refine rfd (rd := rd) (en := entsD E) hw 2 (by omega) (by simp [gA, entsD]) ?_
        simp -implicitDefEqProofs [g0, g1, g5, g6, gA, entsD, hlt, hlt', hxe, ent_str]
        refine ⟨rfl, callK c1 ?_⟩
        simp -implicitDefEqProofs [g0, g1, g5, g6, gA, entsD]
        refine rfd (rd := rd) (en := entsD E) hw 2 (by omega) (by simp [gA, entsD]) ?_
        simp -implicitDefEqProofs [g0, g1, g5, g6, gA, entsD, hlt, hlt', hxe, hwx]
        repeat refine And.intro (by first | omega | rfl) ?_
        exact again hlt ⟨by simp [g0], by simp [g1], by simp only [hT2, hts]; simp, by simp, by simp [gA, entsD]⟩
    · have hlt' : ¬ (k : Int) < E.length := by omega
      rw [List.take_of_length_le (by omega), hkf] at g5
      simp -implicitDefEqProofs [g0, g1, g5, g6, gA]
      refine rfd (rd := rd) (en := entsD E) hw 2 (by omega) (by simp [gA]) ?_
      simp -implicitDefEqProofs [g0, g1, g5, g6, gA, entsD, hlt, hlt']
      exact ⟨.own true 44 KK, [1000000], by simp, by simp [gA, isH], by simp [ResG], by simp, by simp [gA, entsD]⟩
omit hw in
theorem del_erase : ∀ {E : List Ent} {k : Nat} {s : Str}, (keysE E).Nodup → (hk : k < E.length) → E[k].1 = s → E.eraseIdx k = delE E s
  | [], _, _, _, hk, _ => by simp at hk
  | e :: E, 0, s, hn, _, he => by
    have h2 := List.nodup_cons.1 hn
    simp only [List.getElem_cons_zero] at he
    have hno : ∀ x ∈ E, x.1 ≠ s := fun x hx q => h2.1 (List.mem_map.2 ⟨x, hx, q.trans he.symm⟩)
    have e2 : delE E s = E := List.filter_eq_self.2 fun x hx => by simp [hno x hx]
    have e3 : delE (e :: E) s = delE E s := by simp [delE, he]
    rw [e3, e2]; rfl
  | e :: E, k + 1, s, hn, hk, he => by
    have h2 := List.nodup_cons.1 hn
    have hk' : k < E.length := by simpa using hk
    have he' : E[k].1 = s := by simpa using he
    have hne : ¬ e.1 = s := fun q => h2.1 (List.mem_map.2 ⟨E[k], List.getElem_mem hk', he'.trans q.symm⟩)
    have e3 : delE (e :: E) s = e :: delE E s := by simp [delE, hne]
    rw [e3, ← del_erase h2.2 hk' he']; rfl
theorem radd_fn (hl : E.length < 100000) (hk : ∀ e ∈ E, List.length e.1 < 900000) (n : Str) (a : List Att) (hn : List.length n < 900000) (ha : Fit2 a) : CtrG Tryz.prog 39 [.d (.raw (va p)), .d (entD (n, a))] (rtr p rd (entsD E)) (fun r hs' => r = .d (.int .i64 (addE E n a).2) ∧ hs' = rtr p rd (entsD (addE E n a).1)) := by
  refine fn_of_vwpG (fun i => i == 5000006 || i == 5000015 || i == 5000020 || i == 5000035) (by kernel_rfl) Tryz.func39 (by kernel_rfl) rfl rfl (Nat.le_of_ble_eq_true rfl) (by kernel_rfl) rfl ?_
  have c0 := rmade_fn p rd (entsD E) hw
  have c1 := rproper_fn n hn
  have c2 := rat_fn p rd (entsD E) hw E (.inl rfl) hl n
  have c3 := rparent_fn p rd hw E hl n hn
  have c4 := sortedR_fn a ha
  have c5 := rins_fn p rd (entsD E) hw E (.inl rfl) hl hk (n, sortedL a) hn
  have hf := at_facts E n
  obtain ⟨R, hR⟩ : ∃ R, addE E n a = R := ⟨_, rfl⟩
  rw [hR]
  unfold addE at hR
  simp only [ent_str, atts] at c4 c5
  cases h1 : properU n with
  | false =>
    rw [h1] at c1
    simp only [h1, if_true] at hR
    subst hR
    simp -implicitDefEqProofs [initG, rtr, ent_str, atts]
    refine givB [1000000] 1000000 c0 (by simp [initG, rtr]) rfl (by simp) ?_
    rintro r hs' ⟨rfl, rfl⟩
    simp -implicitDefEqProofs [initG, takeH, putH, rtr]
    refine callK c1 ?_
    simp -implicitDefEqProofs [initG]
    exact ⟨.d (.int .i64 5), [1000000], by simp, by simp [initG, isH], by simp [ResG], by simp, by simp [initG]⟩
  | true =>
  rw [h1] at c1
  simp only [h1, Bool.true_eq_false, if_false] at hR
  rcases hf with ⟨h2, h3, h4⟩ | ⟨h2, h3, h4⟩
  · simp only [h2, if_true] at hR
    subst hR
    generalize atE E n = A at *
    simp -implicitDefEqProofs [initG, rtr, ent_str, atts]
    refine givB [1000000] 1000000 c0 (by simp [initG, rtr]) rfl (by simp) ?_
    rintro r hs' ⟨rfl, rfl⟩
    simp -implicitDefEqProofs [initG, takeH, putH, rtr]
    refine callK c1 ?_
    simp -implicitDefEqProofs [initG]
    refine givB [1000000] 1000000 c2 (by simp [initG, rtr]) rfl (by simp) ?_
    rintro r hs' ⟨rfl, rfl⟩
    simp -implicitDefEqProofs [initG, takeH, putH, rtr, h3]
    exact ⟨.d (.int .i64 7), [1000000], by simp, by simp [initG, isH], by simp [ResG], by simp, by simp [initG]⟩
  simp only [h2, Bool.false_eq_true, if_false] at hR
  generalize atE E n = A at *
  cases h5 : parentedE E n with
  | false =>
    rw [h5] at c3
    simp only [h5, if_true] at hR
    subst hR
    simp -implicitDefEqProofs [initG, rtr, ent_str, atts]
    refine givB [1000000] 1000000 c0 (by simp [initG, rtr]) rfl (by simp) ?_
    rintro r hs' ⟨rfl, rfl⟩
    simp -implicitDefEqProofs [initG, takeH, putH, rtr]
    refine callK c1 ?_
    simp -implicitDefEqProofs [initG]
    refine givB [1000000] 1000000 c2 (by simp [initG, rtr]) rfl (by simp) ?_
    rintro r hs' ⟨rfl, rfl⟩
    simp -implicitDefEqProofs [initG, takeH, putH, rtr, h3]
    refine givB [1000000] 1000000 c3 (by simp [initG, rtr]) rfl (by simp) ?_
    rintro r hs' ⟨rfl, rfl⟩
    simp -implicitDefEqProofs [initG, takeH, putH, rtr]
    exact ⟨.d (.int .i64 6), [1000000], by simp, by simp [initG, isH], by simp [ResG], by simp, by simp [initG]⟩
  | true =>
  rw [h5] at c3
  simp only [h5, Bool.true_eq_false, if_false] at hR
  by_cases h6 : 256 ≤ E.length
  · have h6' : (256 : Int) ≤ E.length := by omega
    rw [if_pos h6] at hR
    subst hR
    simp -implicitDefEqProofs [initG, rtr, ent_str, atts]
    refine givB [1000000] 1000000 c0 (by simp [initG, rtr]) rfl (by simp) ?_
    rintro r hs' ⟨rfl, rfl⟩
    simp -implicitDefEqProofs [initG, takeH, putH, rtr]
    refine callK c1 ?_
    simp -implicitDefEqProofs [initG]
    refine givB [1000000] 1000000 c2 (by simp [initG, rtr]) rfl (by simp) ?_
    rintro r hs' ⟨rfl, rfl⟩
    simp -implicitDefEqProofs [initG, takeH, putH, rtr, h3]
    refine givB [1000000] 1000000 c3 (by simp [initG, rtr]) rfl (by simp) ?_
    rintro r hs' ⟨rfl, rfl⟩
    simp -implicitDefEqProofs [initG, takeH, putH, rtr]
    refine rfd (rd := rd) (en := entsD E) hw 2 (by omega) (by simp [initG]) ?_
    simp -implicitDefEqProofs [initG, entsD, h6, h6']
    exact ⟨.d (.int .i64 3), [1000000], by simp, by simp [initG, isH], by simp [ResG], by simp, by simp [initG]⟩
  · have h6' : ¬ (256 : Int) ≤ E.length := by omega
    rw [if_neg h6] at hR
    subst hR
    generalize insE (n, sortedL a) E = E2 at *
    simp -implicitDefEqProofs [initG, rtr, ent_str, atts]
    refine givB [1000000] 1000000 c0 (by simp [initG, rtr]) rfl (by simp) ?_
    rintro r hs' ⟨rfl, rfl⟩
    simp -implicitDefEqProofs [initG, takeH, putH, rtr]
    refine callK c1 ?_
    simp -implicitDefEqProofs [initG]
    refine givB [1000000] 1000000 c2 (by simp [initG, rtr]) rfl (by simp) ?_
    rintro r hs' ⟨rfl, rfl⟩
    simp -implicitDefEqProofs [initG, takeH, putH, rtr, h3]
    refine givB [1000000] 1000000 c3 (by simp [initG, rtr]) rfl (by simp) ?_
    rintro r hs' ⟨rfl, rfl⟩
    simp -implicitDefEqProofs [initG, takeH, putH, rtr]
    refine rfd (rd := rd) (en := entsD E) hw 2 (by omega) (by simp [initG]) ?_
    simp -implicitDefEqProofs [initG, entsD, h6, h6']
    refine callP c4 ?_
    simp -implicitDefEqProofs [initG]
    refine givB [1000000] 1000000 c5 (by simp [initG, rtr, entsD]) rfl (by simp) ?_
    rintro r hs' ⟨rfl, rfl⟩
    simp -implicitDefEqProofs [initG, takeH, putH, rtr]
    exact ⟨.d (.int .i64 0), [1000000], by simp, by simp [initG, isH], by simp [ResG], by simp, by simp [initG, entsD]⟩
theorem rput_fn (hE : OrdE E) (hl : E.length < 100000) (hk : ∀ e ∈ E, List.length e.1 < 900000) (n : Str) (a : List Att) (hn : List.length n < 900000) (ha : Fit2 a) : CtrG Tryz.prog 40 [.d (.raw (va p)), .d (entD (n, a))] (rtr p rd (entsD E)) (fun r hs' => r = .d (.int .i64 (putE E n a).2) ∧ hs' = rtr p rd (entsD (putE E n a).1)) := by
  refine fn_of_vwpG (fun i => i == 5000007 || i == 5000012 || i == 5000017 || i == 5000025) (by kernel_rfl) Tryz.func40 (by kernel_rfl) rfl rfl (Nat.le_of_ble_eq_true rfl) (by kernel_rfl) rfl ?_
  have c0 := rmade_fn p rd (entsD E) hw
  have c2 := rat_fn p rd (entsD E) hw E (.inl rfl) hl n
  have c4 := sortedR_fn a ha
  simp only [atts] at c4
  obtain ⟨R, hR⟩ : ∃ R, putE E n a = R := ⟨_, rfl⟩
  rw [hR]
  unfold putE at hR
  rcases at_facts E n with ⟨h2, h3, h4⟩ | ⟨h2, h3, h4⟩
  · simp only [h2, Bool.true_eq_false, if_false] at hR
    subst hR
    obtain ⟨k, hkl, b, e1, e2, e3⟩ := at_entry hE h2
    rw [e1] at c2
    have hk0 : ¬ (k : Int) < 0 := by omega
    have c3 := rdrop_fn p rd hw E hl k hkl
    rw [del_erase (NS.nodup hE) hkl (by rw [e2])] at c3
    have hdl : (delE E n).length < 100000 := by
      have := List.length_filter_le (fun e : Ent => !decide (e.1 = n)) E
      unfold delE; omega
    have c5 := rins_fn p rd (entsD (delE E n)) hw (delE E n) (.inl rfl) hdl (fun e he => hk e (List.mem_filter.1 he).1) (n, sortedL a) hn
    simp only [ent_str, atts] at c5
    generalize insE (n, sortedL a) (delE E n) = E2 at *
    generalize delE E n = E1 at *
    simp -implicitDefEqProofs [initG, rtr, ent_str, atts]
    refine givB [1000000] 1000000 c0 (by simp [initG, rtr]) rfl (by simp) ?_
    rintro r hs' ⟨rfl, rfl⟩
    simp -implicitDefEqProofs [initG, takeH, putH, rtr]
    refine givB [1000000] 1000000 c2 (by simp [initG, rtr]) rfl (by simp) ?_
    rintro r hs' ⟨rfl, rfl⟩
    simp -implicitDefEqProofs [initG, takeH, putH, rtr, hk0]
    refine givB [1000000] 1000000 c3 (by simp [initG, rtr]) rfl (by simp) ?_
    rintro r hs' ⟨rfl, rfl⟩
    simp -implicitDefEqProofs [initG, takeH, putH, rtr]
    refine callP c4 ?_
    simp -implicitDefEqProofs [initG]
    refine givB [1000000] 1000000 c5 (by simp [initG, rtr, entsD]) rfl (by simp) ?_
    rintro r hs' ⟨rfl, rfl⟩
    simp -implicitDefEqProofs [initG, takeH, putH, rtr]
    exact ⟨.d (.int .i64 0), [1000000], by simp, by simp [initG, isH], by simp [ResG], rfl, 1000000, rfl, by simp [initG, entsD]⟩
  · simp only [h2, if_true] at hR
    subst hR
    generalize atE E n = A at *
    simp -implicitDefEqProofs [initG, rtr, ent_str, atts]
    refine givB [1000000] 1000000 c0 (by simp [initG, rtr]) rfl (by simp) ?_
    rintro r hs' ⟨rfl, rfl⟩
    simp -implicitDefEqProofs [initG, takeH, putH, rtr]
    refine givB [1000000] 1000000 c2 (by simp [initG, rtr]) rfl (by simp) ?_
    rintro r hs' ⟨rfl, rfl⟩
    simp -implicitDefEqProofs [initG, takeH, putH, rtr, h4]
    refine ⟨.d (.int .i64 6), [1000000], by simp, by simp [initG, isH], ?_, rfl, ?_⟩
    · simp [ResG]
    · simp [initG, rtr]
theorem rdelete_fn (hE : OrdE E) (hl : E.length < 100000) (hk : ∀ e ∈ E, List.length e.1 < 900000) (s : Str) (hs : List.length s < 900000) : CtrG Tryz.prog 41 [.d (.raw (va p)), .d (.str s)] (rtr p rd (entsD E)) (fun r hs' => r = .d (.int .i64 (deleteE E s).2) ∧ hs' = rtr p rd (entsD (deleteE E s).1)) := by
  refine fn_of_vwpG (fun i => i == 5000007 || i == 5000011 || i == 5000020 || i == 5000026) (by kernel_rfl) Tryz.func41 (by kernel_rfl) rfl rfl (Nat.le_of_ble_eq_true rfl) (by kernel_rfl) rfl ?_
  have c0 := rmade_fn p rd (entsD E) hw
  have c2 := rat_fn p rd (entsD E) hw E (.inl rfl) hl s
  have c4 := ndepthR_fn s hs
  have c5 := rchildren_fn p rd hw E hl hk s
  obtain ⟨R, hR⟩ : ∃ R, deleteE E s = R := ⟨_, rfl⟩
  rw [hR]
  unfold deleteE at hR
  rcases at_facts E s with ⟨h2, h3, h4⟩ | ⟨h2, h3, h4⟩
  case inr =>
    simp only [h2, if_true] at hR
    subst hR
    generalize atE E s = A at *
    simp -implicitDefEqProofs [initG, rtr]
    refine givB [1000000] 1000000 c0 (by simp [initG, rtr]) rfl (by simp) ?_
    rintro r hs' ⟨rfl, rfl⟩
    simp -implicitDefEqProofs [initG, takeH, putH, rtr]
    refine givB [1000000] 1000000 c2 (by simp [initG, rtr]) rfl (by simp) ?_
    rintro r hs' ⟨rfl, rfl⟩
    simp -implicitDefEqProofs [initG, takeH, putH, rtr, h4]
    exact ⟨.d (.int .i64 6), [1000000], by simp, by simp [initG, isH], by simp [ResG], by simp, by simp [initG, rtr]⟩
  simp only [h2, Bool.true_eq_false, if_false] at hR
  obtain ⟨k, hkl, b, e1, e2, e3⟩ := at_entry hE h2
  rw [e1] at c2
  have hk0 : ¬ (k : Int) < 0 := by omega
  have c3 := rdrop_fn p rd hw E hl k hkl
  rw [del_erase (NS.nodup hE) hkl (by rw [e2])] at c3
  have hc : childrenE E s = kidsE E s := by unfold childrenE; rw [if_neg (fun q => by rw [h2] at q; cases q.2)]
  rw [hc] at c5
  have hkl : (kidsE E s).length < 100000 := by
    have h1 : (kidsE E s).length ≤ (keysE E).length := List.length_filter_le _ _
    simp only [keysE, List.length_map] at h1
    omega
  generalize delE E s = E1 at *
  generalize depthU s = dp at *
  generalize kidsE E s = kids at *
  by_cases h6 : dp = 1
  · rw [if_pos (.inl h6)] at hR
    subst hR
    simp -implicitDefEqProofs [initG, rtr]
    refine givB [1000000] 1000000 c0 (by simp [initG, rtr]) rfl (by simp) ?_
    rintro r hs' ⟨rfl, rfl⟩
    simp -implicitDefEqProofs [initG, takeH, putH, rtr]
    refine givB [1000000] 1000000 c2 (by simp [initG, rtr]) rfl (by simp) ?_
    rintro r hs' ⟨rfl, rfl⟩
    simp -implicitDefEqProofs [initG, takeH, putH, rtr, hk0]
    refine callK c4 ?_
    simp -implicitDefEqProofs [initG, h6]
    exact ⟨.d (.int .i64 12), [1000000], by simp, by simp [initG, isH], by simp [ResG], by simp, by simp [initG, rtr]⟩
  have h6' : ¬ (dp : Int) = 1 := by omega
  by_cases h7 : kids = []
  · subst h7
    rw [if_neg (by simp [h6])] at hR
    subst hR
    simp -implicitDefEqProofs [initG, rtr]
    refine givB [1000000] 1000000 c0 (by simp [initG, rtr]) rfl (by simp) ?_
    rintro r hs' ⟨rfl, rfl⟩
    simp -implicitDefEqProofs [initG, takeH, putH, rtr]
    refine givB [1000000] 1000000 c2 (by simp [initG, rtr]) rfl (by simp) ?_
    rintro r hs' ⟨rfl, rfl⟩
    simp -implicitDefEqProofs [initG, takeH, putH, rtr, hk0]
    refine callK c4 ?_
    simp -implicitDefEqProofs [initG, h6, h6']
    refine givB [1000000] 1000000 c5 (by simp [initG, rtr]) rfl (by simp) ?_
    rintro r hs' ⟨rfl, rfl⟩
    simp -implicitDefEqProofs [initG, takeH, putH, rtr]
    refine givB [1000000] 1000000 c3 (by simp [initG, rtr]) rfl (by simp) ?_
    rintro r hs' ⟨rfl, rfl⟩
    simp -implicitDefEqProofs [initG, takeH, putH, rtr]
    exact ⟨.d (.int .i64 0), [1000000], by simp, by simp [initG, isH], by simp [ResG], by simp, by simp [initG, rtr]⟩
  · rw [if_pos (.inr h7)] at hR
    subst hR
    have h8 := List.length_pos_iff.2 h7
    have h8' : (0 : Int) < kids.length := by omega
    simp -implicitDefEqProofs [initG, rtr]
    refine givB [1000000] 1000000 c0 (by simp [initG, rtr]) rfl (by simp) ?_
    rintro r hs' ⟨rfl, rfl⟩
    simp -implicitDefEqProofs [initG, takeH, putH, rtr]
    refine givB [1000000] 1000000 c2 (by simp [initG, rtr]) rfl (by simp) ?_
    rintro r hs' ⟨rfl, rfl⟩
    simp -implicitDefEqProofs [initG, takeH, putH, rtr, hk0]
    refine callK c4 ?_
    simp -implicitDefEqProofs [initG, h6, h6']
    refine givB [1000000] 1000000 c5 (by simp [initG, rtr]) rfl (by simp) ?_
    rintro r hs' ⟨rfl, rfl⟩
    simp -implicitDefEqProofs [initG, takeH, putH, rtr, h8, h8']
    exact ⟨.d (.int .i64 12), [1000000], by simp, by simp [initG, isH], by simp [ResG], by simp, by simp [initG, rtr]⟩
end

/-! ### equality -/
theorem sameE_fn (a b : Ent) (ha : Fits a.2) (hb : Fits b.2) : Ctr Tryz.prog 29 [.d (entD a), .d (entD b)] (.d (.bool (decide (a = b)))) := by
  refine fn_of_vwp (fun _ => false) (by kernel_rfl) Tryz.func29 (by kernel_rfl) rfl rfl (Nat.le_of_ble_eq_true rfl) (by kernel_rfl) rfl rfl ?_
  have c1 := sameA_fn a.2 b.2 ha hb
  obtain ⟨n, x⟩ := a
  obtain ⟨m, y⟩ := b
  simp only at c1
  simp only [Prod.mk.injEq]
  by_cases h : n = m
  · subst h
    simp only [true_and]
    simp -implicitDefEqProofs [ent_str, atts]
    refine callK c1 ?_
    simp -implicitDefEqProofs
  · simp only [h, false_and, decide_false]
    simp -implicitDefEqProofs [ent_str, atts, h]
def FitS2 (E : List Ent) : Prop := E.length < 100000 ∧ ∀ e ∈ E, Fits e.2
def SeI (A B : List Ent) (k : Nat) (τ : St) : Prop := τ 0 = .d (entsD A) ∧ τ 1 = .d (entsD B) ∧ τ 5 = .d (.int .i64 k) ∧ A.take k = B.take k
theorem sameEs_fn (A B : List Ent) (hA : FitS2 A) (hB : FitS2 B) : Ctr Tryz.prog 27 [.d (entsD A), .d (entsD B)] (.d (.bool (decide (A = B)))) := by
  refine fn_of_vwp (fun _ => false) (by kernel_rfl) Tryz.func27 (by kernel_rfl) rfl rfl (Nat.le_of_ble_eq_true rfl) (by kernel_rfl) rfl rfl ?_
  obtain ⟨hA1, hA2⟩ := hA
  obtain ⟨hB1, hB2⟩ := hB
  obtain ⟨R, hR⟩ : ∃ R, decide (A = B) = R := ⟨_, rfl⟩
  rw [hR]
  by_cases hlen : A.length = B.length
  · have hlen' : (A.length : Int) = B.length := by omega
    simp -implicitDefEqProofs [entsD, hlen]
    refine loopN B.length (SeI A B) ⟨by simp [entsD], by simp [entsD], by simp, by simp⟩ ?_
    rintro k τ hk ⟨g0, g1, g5, ht⟩
    by_cases hlt : k < B.length
    · have hlt2 : k < A.length := by omega
      have hlt' : (k : Int) < B.length := by omega
      have hlt2' : (k : Int) < A.length := by omega
      have c1 := sameE_fn A[k] B[k] (hA2 _ (List.getElem_mem hlt2)) (hB2 _ (List.getElem_mem hlt))
      have e1 := take_s hlt
      have e2 := take_s hlt2
      have hne : A[k] ≠ B[k] → ¬ A = B := by rintro h rfl; exact h rfl
      have hwx : ∀ x : Ent, width (entD x) = 2 := fun _ => rfl
      generalize hx : A[k] = x at *
      generalize hy : B[k] = y at *
      by_cases he : x = y
      · subst he
        simp only [decide_true] at c1
        simp -implicitDefEqProofs [g0, g1, g5, entsD, hlen, hlt, hlt', hlt2, hlt2', hx, hy, hwx]
        repeat refine And.intro (by first | omega | rfl) ?_
        refine callP c1 ?_
        simp -implicitDefEqProofs [g0, g1, g5]
        repeat refine And.intro (by first | omega | rfl) ?_
        exact again hlt ⟨by simp [g0, entsD], by simp [g1, entsD], by simp, by rw [e1, e2, ht]⟩
      · have hR0 : R = false := by rw [← hR]; simpa using hne he
        rw [decide_eq_false he] at c1
        simp -implicitDefEqProofs [g0, g1, g5, entsD, hlen, hlt, hlt', hlt2, hlt2', hx, hy, hwx]
        repeat refine And.intro (by first | omega | rfl) ?_
        refine callP c1 ?_
        simp -implicitDefEqProofs [g0, g1, g5, hR0]
    · have hlt' : ¬ (k : Int) < B.length := by omega
      have hAB : A = B := by
        rw [List.take_of_length_le (by omega), List.take_of_length_le (by omega)] at ht
        exact ht
      have hR0 : R = true := by rw [← hR]; simpa using hAB
      simp -implicitDefEqProofs [g0, g1, g5, entsD, hlen, hlt, hlt', hR0]
  · have hlen' : ¬ (A.length : Int) = B.length := by omega
    have hR0 : R = false := by rw [← hR]; simp; rintro rfl; exact hlen rfl
    simp -implicitDefEqProofs [entsD, hlen, hlen', hR0]
end Go.Proofs.Tz

/- The reference's tree: Clone, New, Move. -/
set_option maxRecDepth 100000
set_option maxHeartbeats 8000000
set_option linter.unusedSimpArgs false
set_option linter.unusedVariables false
namespace Go.Proofs.Tz
open Go.Vw Go.RowKit Go.Proofs Go.Sort

theorem rclone_fn (p : Nat) (R : List Str) (E : List Ent) (hl : E.length < 100000) (hr : R.length < 100000) : CtrG Tryz.prog 43 [.d (.raw (va p))] (rtr p (strs R) (entsD E)) (fun r hs' => ∃ p', r = .d (.raw (va p')) ∧ hs' = rtr p (strs R) (entsD E) ++ rtr p' (strs R) (entsD E)) := by
  refine fn_of_vwpG (fun i => i == 5000004 || i == 9000003 || i == 14000003 || i == 15000018 || i == 6 || i == 12 || i == 1000019) (by kernel_rfl) Tryz.func43 (by kernel_rfl) rfl rfl (Nat.le_of_ble_eq_true rfl) (by kernel_rfl) rfl ?_
  have hw : width (strs R) = 1 := rfl
  have c0 := rmade_fn p (strs R) (entsD E) hw
  simp -implicitDefEqProofs [initG, rtr]
  refine givB [1000000] 1000000 c0 (by simp [initG, rtr]) rfl (by simp) ?_
  rintro r hs' ⟨rfl, rfl⟩
  simp -implicitDefEqProofs [initG, takeH, putH, rtr]
  refine rfd (rd := strs R) (en := entsD E) hw 1 (by omega) (by simp [initG]) ?_
  simp -implicitDefEqProofs [initG, strs]
  refine ⟨by omega, by omega, ?_⟩
  refine rfd (rd := strs R) (en := entsD E) hw 2 (by omega) (by simp [initG, strs]) ?_
  simp -implicitDefEqProofs [initG, entsD]
  refine ⟨by rintro _ x y _ rfl; rfl, by omega, by omega, 1000001, by simp [initG], fun q => ?_⟩
  simp -implicitDefEqProofs [initG]
  exact ⟨.d (.raw (va q)), [1000000, 1000001], by simp, by simp [initG, isH], by simp [ResG, va], q, rfl, by simp [initG, strs, entsD, va]⟩

theorem sdx68 : structDX Tryz.prog true 68 = some [.bool false, .raw (.slice none 0 0), .raw (.slice none 0 0)] := by kernel_rfl
def RnI (R : List Str) (V : List Ent × Int) (k : Nat) (τ : St) : Prop := ∃ E p hd en, τ 0 = .d (strs R) ∧ τ 4 = .d (.raw (va p)) ∧ τ 5 = .d (.int .i64 k) ∧ newGo E (R.drop k) = V ∧ E.length ≤ k ∧ (∀ e ∈ E, List.length e.1 < 900000) ∧
  τ 1000000 = .hb (va p) 68 (.agg [.bool true, .raw hd, en]) ∧ EnD E en ∧ ((k = 0 ∧ hd = .slice none 0 0 ∧ τ 1000001 = .undef) ∨ (0 < k ∧ en = entsD E ∧ τ 1000001 = .hs hd 9 ((R.take k).map .str)))
/-- What comes back of a new tree, ahead of its roots' freezing. -/
def RnQ (R : List Str) (V : List Ent × Int) (r : AV) (hs' : List AV) : Prop := (V.2 ≠ 0 ∧ r = .tup [.d .nilp, .d (.int .i64 V.2)] ∧ hs' = []) ∨
  (V.2 = 0 ∧ ∃ p hd, r = .tup [.d (.raw (va p)), .d (.int .i64 0)] ∧ hs' = [.hb (va p) 68 (.agg [.bool true, .raw hd, entsD V.1]), .hs hd 9 (R.map .str)])
def RnP (R : List Str) (V : List Ent × Int) (r : AV) (hs' : List AV) : Prop := (V.2 ≠ 0 ∧ r = .tup [.d .nilp, .d (.int .i64 V.2)] ∧ hs' = []) ∨
  (V.2 = 0 ∧ ∃ p, r = .tup [.d (.raw (va p)), .d (.int .i64 0)] ∧ hs' = rtr p (strs R) (entsD V.1))
theorem rnewQ_fn (R : List Str) (hR : ∀ s ∈ R, List.length s < 900000) : CtrG Tryz.prog 12 [.d (strs R)] [] (RnQ R (newE R)) := by
  refine fn_of_vwpGN (rs := [.tmp 2, .tmp 3]) (fun i => i == 1000012 || i == 1000013 || i == 5000039 || i == 5000060) (by kernel_rfl) Tryz.func12 (by kernel_rfl) rfl rfl (by simp) (Nat.le_of_ble_eq_true rfl) (by kernel_rfl) rfl ?_
  obtain ⟨V, hV⟩ : ∃ V, newE R = V := ⟨_, rfl⟩
  rw [hV]
  unfold newE at hV
  by_cases h0 : R = []
  · rw [if_pos h0] at hV
    subst hV h0
    simp -implicitDefEqProofs [initG, strs]
    exact ⟨[.d .nilp, .d (.int .i64 6)], [], by simp, by simp, by simp [resDs, resD], .inl ⟨by decide, rfl, rfl⟩⟩
  rw [if_neg h0] at hV
  have h0l : ¬ R.length = 0 := fun q => h0 (List.eq_nil_of_length_eq_zero q)
  have h0i : ¬ (R.length : Int) = 0 := by omega
  by_cases h1 : 256 < R.length
  · have h1i : (256 : Int) < R.length := by omega
    rw [if_pos h1] at hV
    subst hV
    simp -implicitDefEqProofs [initG, strs, h0, h0i, h1, h1i]
    exact ⟨[.d .nilp, .d (.int .i64 3)], [], by simp, by simp, by simp [resDs, resD], .inl ⟨by decide, rfl, rfl⟩⟩
  rw [if_neg h1] at hV
  have h1i : ¬ (256 : Int) < R.length := by omega
  simp -implicitDefEqProofs [initG, strs, h0, h0i, h1, h1i, sdx68]
  refine ⟨1000000, by simp [initG], fun q => ?_⟩
  simp -implicitDefEqProofs [initG]
  refine loopN R.length (RnI R V) ⟨[], q, .slice none 0 0, .raw (.slice none 0 0), by simp [initG, strs], by simp [initG, va], by simp [initG], by simpa using hV, by simp, by simp, by simp [initG, va], .inr ⟨rfl, rfl⟩, .inl ⟨rfl, rfl, by simp [initG]⟩⟩ ?_
  rintro k τ hk ⟨E, p, hd, en, g0, g4, g5, hgo, hEl, hEn, gA, hen, gB⟩
  have hw : width (D.raw hd) = 1 := rfl
  by_cases hlt : k < R.length
  · have hlt' : (k : Int) < R.length := by omega
    rw [List.drop_eq_getElem_cons hlt, newGo] at hgo
    have hs := hR _ (List.getElem_mem hlt)
    have hts := take_s hlt
    generalize hx : R[k] = s at *
    have c1 := nvalidR_fn s hs
    have c2 := ndepthR_fn s hs
    have c3 := rat_fn p (.raw hd) en hw E hen (by omega) s
    have hf := at_facts E s
    cases h2 : validU s with
    | false =>
      rw [if_pos (.inl h2)] at hgo
      subst hgo
      rw [h2] at c1
      simp -implicitDefEqProofs [g0, g4, g5, gA, strs, hlt, hlt', hx]
      refine callK c1 ?_
      simp -implicitDefEqProofs [g0, g4, g5, gA]
      exact ⟨[.d .nilp, .d (.int .i64 5)], [], by simp, by simp, by simp [resDs, resD], .inl ⟨by decide, rfl, rfl⟩⟩
    | true =>
    rw [h2] at c1
    generalize depthU s = dp at *
    by_cases h3 : dp = 1
    case neg =>
      have h3' : ¬ (dp : Int) = 1 := by omega
      rw [if_pos (.inr h3)] at hgo
      subst hgo
      simp -implicitDefEqProofs [g0, g4, g5, gA, strs, hlt, hlt', hx]
      refine callK c1 ?_
      simp -implicitDefEqProofs [g0, g4, g5, gA, strs, hlt, hlt', hx]
      refine callK c2 ?_
      simp -implicitDefEqProofs [g0, g4, g5, gA, h3, h3']
      exact ⟨[.d .nilp, .d (.int .i64 5)], [], by simp, by simp, by simp [resDs, resD], .inl ⟨by decide, rfl, rfl⟩⟩
    subst h3
    rw [if_neg (by simp [h2])] at hgo
    generalize atE E s = A at *
    rcases hf with ⟨h4, h5, h6⟩ | ⟨h4, h5, h6⟩
    · rw [if_pos h4] at hgo
      subst hgo
      simp -implicitDefEqProofs [g0, g4, g5, gA, strs, hlt, hlt', hx]
      refine callK c1 ?_
      simp -implicitDefEqProofs [g0, g4, g5, gA, strs, hlt, hlt', hx]
      refine callK c2 ?_
      simp -implicitDefEqProofs [g0, g4, g5, gA, strs, hlt, hlt', hx]
      refine givB [1000000] 1000000 c3 (by simp [gA, rtr]) rfl (by simp) ?_
      rintro r hs' ⟨rfl, rfl⟩
      simp -implicitDefEqProofs [g0, g4, g5, gA, takeH, putH, rtr, h5]
      exact ⟨[.d .nilp, .d (.int .i64 7)], [], by simp, by simp, by simp [resDs, resD], .inl ⟨by decide, rfl, rfl⟩⟩
    · rw [if_neg (by simp [h4])] at hgo
      have hE2 : ∀ e ∈ insE (s, []) E, List.length e.1 < 900000 := fun e he => by
        rcases insE_mem.1 he with rfl | he
        · exact hs
        · exact hEn e he
      have hE2l : (insE (s, []) E).length ≤ k + 1 := by rw [(insE_perm _ _).length_eq]; simp; omega
      have c4 := fun hd' => rins_fn p (.raw hd') en rfl E hen (by omega) hEn (s, []) hs
      simp only [ent_str, atts, List.map_nil] at c4
      generalize insE (s, []) E = E2 at *
      have hE2d : ∀ e : List Ent, width (entsD e) = 1 := fun _ => rfl
      rcases gB with ⟨rfl, rfl, gB⟩ | ⟨hk0, rfl, gB⟩
      · simp -implicitDefEqProofs [g0, g4, g5, gA, strs, hlt, hlt', hx]
        refine callK c1 ?_
        simp -implicitDefEqProofs [g0, g4, g5, gA, strs, hlt, hlt', hx]
        refine callK c2 ?_
        simp -implicitDefEqProofs [g0, g4, g5, gA, strs, hlt, hlt', hx]
        refine givB [1000000] 1000000 c3 (by simp [gA, rtr]) rfl (by simp) ?_
        rintro r hs' ⟨rfl, rfl⟩
        simp -implicitDefEqProofs [g0, g4, g5, gA, takeH, putH, rtr, h5]
        refine rfd (rd := .raw (.slice none 0 0)) (en := en) hw 1 (by omega) (by simp) ?_
        simp -implicitDefEqProofs [g0, g4, g5, gA, strs, hlt, hlt', hx]
        refine appK0 1000001 (by simp [gB]) (by simp) (by simp) (by simp) (fun A' c => ?_)
        simp -implicitDefEqProofs [g0, g4, g5, gA]
        refine rfd (rd := .raw (.slice none 0 0)) (en := en) hw 1 (by omega) (by simp) ?_
        simp -implicitDefEqProofs [g0, g4, g5, gA, strs, hlt, hlt', hx]
        refine givB [1000000] 1000000 (c4 (.slice A' 1 c)) (by simp [gA, rtr]) rfl (by simp) ?_
        rintro r hs' ⟨rfl, rfl⟩
        simp -implicitDefEqProofs [g0, g4, g5, gA, takeH, putH, rtr]
        repeat refine And.intro (by omega) ?_
        exact again hlt ⟨E2, p, .slice A' 1 c, entsD E2, by simp [g0, strs], by simp [g4], by simp, hgo, hE2l, hE2, by simp, .inl rfl, .inr ⟨by omega, rfl, by rw [hts]; simp⟩⟩
      · simp -implicitDefEqProofs [g0, g4, g5, gA, strs, hlt, hlt', hx]
        refine callK c1 ?_
        simp -implicitDefEqProofs [g0, g4, g5, gA, strs, hlt, hlt', hx]
        refine callK c2 ?_
        simp -implicitDefEqProofs [g0, g4, g5, gA, strs, hlt, hlt', hx]
        refine givB [1000000] 1000000 c3 (by simp [gA, rtr]) rfl (by simp) ?_
        rintro r hs' ⟨rfl, rfl⟩
        simp -implicitDefEqProofs [g0, g4, g5, gA, takeH, putH, rtr, h5]
        refine rfd (rd := .raw hd) (en := entsD E) hw 1 (by omega) (by simp) ?_
        simp -implicitDefEqProofs [g0, g4, g5, gA, strs, hlt, hlt', hx]
        refine appK (e := 9) (l := (R.take k).map .str) 1000001 (by simp [gB]) (by simp) (by simp; omega) (by simp; omega) (fun A' c => ?_)
        simp -implicitDefEqProofs [g0, g4, g5, gA]
        refine rfd (rd := .raw hd) (en := entsD E) hw 1 (by omega) (by simp) ?_
        simp -implicitDefEqProofs [g0, g4, g5, gA, strs, hlt, hlt', hx]
        refine givB [1000000] 1000000 (c4 (.slice A' (min k R.length + 1) c)) (by simp [gA, rtr]) rfl (by simp) ?_
        rintro r hs' ⟨rfl, rfl⟩
        simp -implicitDefEqProofs [g0, g4, g5, gA, takeH, putH, rtr]
        repeat refine And.intro (by omega) ?_
        exact again hlt ⟨E2, p, .slice A' (min k R.length + 1) c, entsD E2, by simp [g0, strs], by simp [g4], by simp, hgo, hE2l, hE2, by simp, .inl rfl, .inr ⟨by omega, rfl, by rw [hts]; simp⟩⟩
  · have hlt' : ¬ (k : Int) < R.length := by omega
    rw [List.drop_eq_nil_of_le (by omega), newGo] at hgo
    subst hgo
    have hk0 : 0 < k := by omega
    rcases gB with ⟨h, _⟩ | ⟨_, rfl, gB⟩
    · omega
    rw [List.take_of_length_le (by omega)] at gB
    simp -implicitDefEqProofs [g0, g4, g5, gA, strs, hlt, hlt']
    exact ⟨[.d (.raw (va p)), .d (.int .i64 0)], [1000000, 1000001], by simp, by simp [gA, gB, isH], by simp [resDs, resD, g4], .inr ⟨rfl, p, hd, rfl, by simp [gA, gB]⟩⟩
theorem rnew_fn (R : List Str) (hR : ∀ s ∈ R, List.length s < 900000) : CtrG Tryz.prog 12 [.d (strs R)] [] (RnP R (newE R)) := by
  refine (rnewQ_fn R hR).frzBox fun r hs' h => ?_
  rcases h with h | ⟨h0, p, hd, rfl, rfl⟩
  · exact .inl (.inl h)
  · refine .inr ⟨[.raw (va p), .int .i64 0], va p, 68, .agg [.bool true, .raw hd, entsD (newE R).1], .agg [.bool true, strs R, entsD (newE R).1], _, rfl, rfl, fun z hz => ?_, .agg (.cons (.same _) (.cons (.sl (e := 9) (by simp)) (.cons (.same _) .nil))), .inr ⟨h0, p, rfl, rfl⟩⟩
    simp only [List.mem_singleton] at hz
    exact ⟨_, _, _, hz⟩

/-! ### moves -/
theorem depth_le (s : Str) : depthU s ≤ 8 := by
  unfold depthU
  cases h : normU s with
  | none => simp
  | some l => simpa using (normU_inv h).2.1
/-- The entries without the first k of some. -/
def dropK2 (E S : List Ent) (k : Nat) : List Ent := E.filter fun e => !decide (e.1 ∈ keysE (S.take k))
theorem dropK2_zero (E S : List Ent) : dropK2 E S 0 = E := by simp [dropK2, keysE]
theorem dropK2_succ (E S : List Ent) {k : Nat} (hk : k < S.length) : dropK2 E S (k + 1) = delE (dropK2 E S k) S[k].1 := by
  unfold dropK2 delE
  rw [List.filter_filter]
  refine List.filter_congr fun e _ => ?_
  have : keysE (S.take (k + 1)) = keysE (S.take k) ++ [S[k].1] := by unfold keysE; rw [take_s hk, List.map_append]; rfl
  rw [this]
  by_cases h1 : e.1 ∈ keysE (S.take k) <;> by_cases h2 : e.1 = S[k].1 <;> simp [h1, h2]
theorem dropK2_has {E S : List Ent} (hS : ∀ e ∈ S, e ∈ E) (hn : (keysE S).Nodup) {k : Nat} (hk : k < S.length) : hasE (dropK2 E S k) S[k].1 = true := by
  refine hasE_iff.2 (List.mem_map.2 ⟨S[k], List.mem_filter.2 ⟨hS _ (List.getElem_mem hk), ?_⟩, rfl⟩)
  simp only [Bool.not_eq_true', decide_eq_false_iff_not]
  intro h
  obtain ⟨e, he, hq⟩ := List.mem_map.1 h
  obtain ⟨j, hj, rfl⟩ := List.mem_take_iff_getElem.1 he
  have hj2 : j < k := by omega
  have hjl : j < S.length := by omega
  have := (List.pairwise_iff_getElem.1 hn) j k (by simpa [keysE] using hjl) (by simpa [keysE] using hk) hj2
  simp only [keysE, List.getElem_map] at this
  exact this hq
theorem dropK2_all {E : List Ent} {fr : Str} (hf : fr ≠ []) : dropK2 E (subE E fr) (subE E fr).length = E.filter fun e => !underU e.1 fr := by
  unfold dropK2
  refine List.filter_congr fun e he => ?_
  rw [List.take_of_length_le (Nat.le_refl _)]
  congr 1
  rw [Bool.eq_iff_iff, decide_eq_true_eq]
  constructor
  · intro h
    obtain ⟨x, hx, hq⟩ := List.mem_map.1 h
    have := ((mem_subE hf).1 hx).2
    rw [show x.1 = e.1 from hq] at this
    exact this
  · intro h
    exact List.mem_map.2 ⟨e, (mem_subE hf).2 ⟨he, h⟩, rfl⟩
theorem dropK2_len (E S : List Ent) (k : Nat) : (dropK2 E S k).length ≤ E.length := List.length_filter_le _ _
theorem dropK2_ord {E : List Ent} (h : OrdE E) (S : List Ent) (k : Nat) : OrdE (dropK2 E S k) := h.filter _
def moveK (E S : List Ent) (fr to : Str) (k : Nat) : List Ent := ((S.take k).map fun e => ((rebaseU e.1 fr to).1, e.2)).foldl (fun E e => insE e E) E
theorem moveK_succ (E S : List Ent) (fr to : Str) {k : Nat} (hk : k < S.length) : moveK E S fr to (k + 1) = insE ((rebaseU S[k].1 fr to).1, S[k].2) (moveK E S fr to k) := by
  unfold moveK
  rw [take_s hk, List.map_append, List.foldl_append]; rfl
theorem moveK_perm (E S : List Ent) (fr to : Str) (k : Nat) : (moveK E S fr to k).Perm (((S.take k).map fun e => ((rebaseU e.1 fr to).1, e.2)) ++ E) := foldIns_perm _ _
def Deep0 (S : List Ent) (fr to : Str) (k : Nat) : Prop := ∀ e ∈ S.take k, ¬ (8 : Int) < depthU e.1 - depthU fr + depthU to
def Mv1 (p : Nat) (rd : D) (E S : List Ent) (fr to : Str) (k : Nat) (τ : St) : Prop := τ 0 = .d (.raw (va p)) ∧ τ 1 = .d (.str fr) ∧ τ 2 = .d (.str to) ∧ τ 7 = .own true 44 (S.map entD) ∧ τ 8 = .d (.int .i64 k) ∧ τ 1000000 = .hb (va p) 68 (.agg [.bool true, rd, entsD E]) ∧ Deep0 S fr to k
def Mv2 (p : Nat) (rd : D) (E S : List Ent) (fr to : Str) (k : Nat) (τ : St) : Prop := τ 0 = .d (.raw (va p)) ∧ τ 1 = .d (.str fr) ∧ τ 2 = .d (.str to) ∧ τ 7 = .own true 44 (S.map entD) ∧ τ 9 = .d (.int .i64 k) ∧ τ 1000000 = .hb (va p) 68 (.agg [.bool true, rd, entsD (dropK2 E S k)])
def Mv3 (p : Nat) (rd : D) (E S : List Ent) (fr to : Str) (k : Nat) (τ : St) : Prop := τ 0 = .d (.raw (va p)) ∧ τ 1 = .d (.str fr) ∧ τ 2 = .d (.str to) ∧ τ 7 = .own true 44 (S.map entD) ∧ τ 10 = .d (.int .i64 k) ∧ τ 1000000 = .hb (va p) 68 (.agg [.bool true, rd, entsD (moveK E S fr to k)])
theorem rmove_fn (p : Nat) (rd : D) (hw : width rd = 1) (E : List Ent) (hE : TI E) (fr to : Str) (hf : List.length fr < 900000) (ht : List.length to < 900000) :
    CtrG Tryz.prog 42 [.d (.raw (va p)), .d (.str fr), .d (.str to)] (rtr p rd (entsD E)) (fun r hs' => r = .d (.int .i64 (moveE E fr to).2) ∧ hs' = rtr p rd (entsD (moveE E fr to).1)) := by
  refine fn_of_vwpG (fun i => i == 5000014 || i == 5000018 || i == 5000025 || i == 5000032 || i == 5000039 || i == 5000072 || i == 5000073 || i == 5000099 || i == 7) (by kernel_rfl) Tryz.func42 (by kernel_rfl) rfl rfl (Nat.le_of_ble_eq_true rfl) (by kernel_rfl) rfl ?_
  have hl : E.length < 100000 := by have := hE.few; omega
  have hkl : ∀ e ∈ E, List.length e.1 < 900000 := fun e he => hE.klen (List.mem_map.2 ⟨e, he, rfl⟩)
  have c0 := rmade_fn p rd (entsD E) hw
  have c1 := rat_fn p rd (entsD E) hw E (.inl rfl) hl fr
  have c2 := rproper_fn to ht
  have c3 := rat_fn p rd (entsD E) hw E (.inl rfl) hl to
  have c4 := nunderR_fn to fr ht hf
  have c5 := rparent_fn p rd hw E hl to ht
  have c6 := ndepthR_fn fr hf
  have c7 := rsubtree_fn p rd hw E hl hkl fr hf
  have c8 := ndepthR_fn to ht
  obtain ⟨R, hR⟩ : ∃ R, moveE E fr to = R := ⟨_, rfl⟩
  rw [hR]
  have hob : obsE E fr to = obsE E fr to := rfl
  unfold moveE at hR
  conv at hob => rhs; unfold obsE
  rcases at_facts E fr with ⟨h1, _, a1⟩ | ⟨h1, _, a1⟩
  case inr =>
    rw [if_pos h1] at hob
    rw [hob, if_neg (by decide)] at hR
    subst hR
    generalize atE E fr = A at *
    simp -implicitDefEqProofs [initG, rtr]
    refine givB [1000000] 1000000 c0 (by simp [initG, rtr]) rfl (by simp) ?_
    rintro r hs' ⟨rfl, rfl⟩
    simp -implicitDefEqProofs [initG, takeH, putH, rtr]
    refine givB [1000000] 1000000 c1 (by simp [initG, rtr]) rfl (by simp) ?_
    rintro r hs' ⟨rfl, rfl⟩
    simp -implicitDefEqProofs [initG, takeH, putH, rtr, a1]
    exact ⟨.d (.int .i64 6), [1000000], by simp, by simp [initG, isH], by simp [ResG], rfl, by simp [initG, rtr]⟩
  rw [if_neg (by simp [h1])] at hob
  generalize atE E fr = A at *
  cases h2 : properU to with
  | false =>
    rw [if_pos h2] at hob
    rw [hob, if_neg (by decide)] at hR
    subst hR
    rw [h2] at c2
    simp -implicitDefEqProofs [initG, rtr]
    refine givB [1000000] 1000000 c0 (by simp [initG, rtr]) rfl (by simp) ?_
    rintro r hs' ⟨rfl, rfl⟩
    simp -implicitDefEqProofs [initG, takeH, putH, rtr]
    refine givB [1000000] 1000000 c1 (by simp [initG, rtr]) rfl (by simp) ?_
    rintro r hs' ⟨rfl, rfl⟩
    simp -implicitDefEqProofs [initG, takeH, putH, rtr, a1]
    refine callK c2 ?_
    simp -implicitDefEqProofs [initG]
    exact ⟨.d (.int .i64 5), [1000000], by simp, by simp [initG, isH], by simp [ResG], rfl, by simp [initG, rtr]⟩
  | true =>
  rw [h2] at c2
  rw [if_neg (by simp [h2])] at hob
  rcases at_facts E to with ⟨h3, a3, _⟩ | ⟨h3, a3, _⟩
  · rw [if_pos h3] at hob
    rw [hob, if_neg (by decide)] at hR
    subst hR
    generalize atE E to = A2 at *
    simp -implicitDefEqProofs [initG, rtr]
    refine givB [1000000] 1000000 c0 (by simp [initG, rtr]) rfl (by simp) ?_
    rintro r hs' ⟨rfl, rfl⟩
    simp -implicitDefEqProofs [initG, takeH, putH, rtr]
    refine givB [1000000] 1000000 c1 (by simp [initG, rtr]) rfl (by simp) ?_
    rintro r hs' ⟨rfl, rfl⟩
    simp -implicitDefEqProofs [initG, takeH, putH, rtr, a1]
    refine callK c2 ?_
    simp -implicitDefEqProofs [initG]
    refine givB [1000000] 1000000 c3 (by simp [initG, rtr]) rfl (by simp) ?_
    rintro r hs' ⟨rfl, rfl⟩
    simp -implicitDefEqProofs [initG, takeH, putH, rtr, a3]
    exact ⟨.d (.int .i64 7), [1000000], by simp, by simp [initG, isH], by simp [ResG], rfl, by simp [initG, rtr]⟩
  rw [if_neg (by simp [h3])] at hob
  generalize atE E to = A2 at *
  cases h4 : underU to fr with
  | true =>
    rw [if_pos h4] at hob
    rw [hob, if_neg (by decide)] at hR
    subst hR
    rw [h4] at c4
    simp -implicitDefEqProofs [initG, rtr]
    refine givB [1000000] 1000000 c0 (by simp [initG, rtr]) rfl (by simp) ?_
    rintro r hs' ⟨rfl, rfl⟩
    simp -implicitDefEqProofs [initG, takeH, putH, rtr]
    refine givB [1000000] 1000000 c1 (by simp [initG, rtr]) rfl (by simp) ?_
    rintro r hs' ⟨rfl, rfl⟩
    simp -implicitDefEqProofs [initG, takeH, putH, rtr, a1]
    refine callK c2 ?_
    simp -implicitDefEqProofs [initG]
    refine givB [1000000] 1000000 c3 (by simp [initG, rtr]) rfl (by simp) ?_
    rintro r hs' ⟨rfl, rfl⟩
    simp -implicitDefEqProofs [initG, takeH, putH, rtr, a3]
    refine callK c4 ?_
    simp -implicitDefEqProofs [initG]
    exact ⟨.d (.int .i64 28), [1000000], by simp, by simp [initG, isH], by simp [ResG], rfl, by simp [initG, rtr]⟩
  | false =>
  rw [h4] at c4
  rw [if_neg (by simp [h4])] at hob
  cases h5 : parentedE E to with
  | false =>
    rw [if_pos h5] at hob
    rw [hob, if_neg (by decide)] at hR
    subst hR
    rw [h5] at c5
    simp -implicitDefEqProofs [initG, rtr]
    refine givB [1000000] 1000000 c0 (by simp [initG, rtr]) rfl (by simp) ?_
    rintro r hs' ⟨rfl, rfl⟩
    simp -implicitDefEqProofs [initG, takeH, putH, rtr]
    refine givB [1000000] 1000000 c1 (by simp [initG, rtr]) rfl (by simp) ?_
    rintro r hs' ⟨rfl, rfl⟩
    simp -implicitDefEqProofs [initG, takeH, putH, rtr, a1]
    refine callK c2 ?_
    simp -implicitDefEqProofs [initG]
    refine givB [1000000] 1000000 c3 (by simp [initG, rtr]) rfl (by simp) ?_
    rintro r hs' ⟨rfl, rfl⟩
    simp -implicitDefEqProofs [initG, takeH, putH, rtr, a3]
    refine callK c4 ?_
    simp -implicitDefEqProofs [initG]
    refine givB [1000000] 1000000 c5 (by simp [initG, rtr]) rfl (by simp) ?_
    rintro r hs' ⟨rfl, rfl⟩
    simp -implicitDefEqProofs [initG, takeH, putH, rtr]
    exact ⟨.d (.int .i64 6), [1000000], by simp, by simp [initG, isH], by simp [ResG], rfl, by simp [initG, rtr]⟩
  | true =>
  rw [h5] at c5
  rw [if_neg (by simp [h5])] at hob
  have hfn : fr ≠ [] := fun e => by
    have := hE.key (hasE_iff.1 h1)
    rw [e] at this; simp [properU] at this
  have hsub : subtreeE E fr = subE E fr := by unfold subtreeE; rw [if_neg (fun q => by rw [h1] at q; cases q.2)]
  rw [hsub] at c7
  have hd1 := depth_le fr
  have hd2 := depth_le to
  by_cases h6 : depthU fr = 1
  · rw [if_pos h6] at hob
    rw [hob, if_neg (by decide)] at hR
    subst hR
    have h6' : (depthU fr : Int) = 1 := by omega
    generalize depthU fr = dp at *
    simp -implicitDefEqProofs [initG, rtr]
    refine givB [1000000] 1000000 c0 (by simp [initG, rtr]) rfl (by simp) ?_
    rintro r hs' ⟨rfl, rfl⟩
    simp -implicitDefEqProofs [initG, takeH, putH, rtr]
    refine givB [1000000] 1000000 c1 (by simp [initG, rtr]) rfl (by simp) ?_
    rintro r hs' ⟨rfl, rfl⟩
    simp -implicitDefEqProofs [initG, takeH, putH, rtr, a1]
    refine callK c2 ?_
    simp -implicitDefEqProofs [initG]
    refine givB [1000000] 1000000 c3 (by simp [initG, rtr]) rfl (by simp) ?_
    rintro r hs' ⟨rfl, rfl⟩
    simp -implicitDefEqProofs [initG, takeH, putH, rtr, a3]
    refine callK c4 ?_
    simp -implicitDefEqProofs [initG]
    refine givB [1000000] 1000000 c5 (by simp [initG, rtr]) rfl (by simp) ?_
    rintro r hs' ⟨rfl, rfl⟩
    simp -implicitDefEqProofs [initG, takeH, putH, rtr]
    refine callK c6 ?_
    simp -implicitDefEqProofs [initG, h6, h6']
    exact ⟨.d (.int .i64 12), [1000000], by simp, by simp [initG, isH], by simp [ResG], rfl, by simp [initG, rtr]⟩
  have h6' : ¬ (depthU fr : Int) = 1 := by omega
  rw [if_neg h6] at hob
  have hdeep : deepE E fr to = (subE E fr).any fun e => decide ((8 : Int) < depthU e.1 - depthU fr + depthU to) := rfl
  have hSl := sub_len hE fr
  have hSm : ∀ e ∈ subE E fr, e ∈ E := fun e he => (List.mem_filter.1 he).1
  have hSu : ∀ e ∈ subE E fr, underU e.1 fr = true := fun e he => ((mem_subE hfn).1 he).2
  have hSn : (keysE (subE E fr)).Nodup := NS.nodup (hE.ord.filter _)
  have hall := dropK2_all (E := E) hfn
  have hmv : moveK (E.filter fun e => !underU e.1 fr) (subE E fr) fr to (subE E fr).length = movedE E fr to := by
    unfold moveK movedE
    rw [List.take_of_length_le (Nat.le_refl _)]
  have hMV := fun h => @MV.of E fr to hE h
  generalize hS : subE E fr = S at *
  generalize hdp : depthU fr = dp at *
  generalize hdq : depthU to = dq at *
  simp -implicitDefEqProofs [initG, rtr]
  refine givB [1000000] 1000000 c0 (by simp [initG, rtr]) rfl (by simp) ?_
  rintro r hs' ⟨rfl, rfl⟩
  simp -implicitDefEqProofs [initG, takeH, putH, rtr]
  refine givB [1000000] 1000000 c1 (by simp [initG, rtr]) rfl (by simp) ?_
  rintro r hs' ⟨rfl, rfl⟩
  simp -implicitDefEqProofs [initG, takeH, putH, rtr, a1]
  refine callK c2 ?_
  simp -implicitDefEqProofs [initG]
  refine givB [1000000] 1000000 c3 (by simp [initG, rtr]) rfl (by simp) ?_
  rintro r hs' ⟨rfl, rfl⟩
  simp -implicitDefEqProofs [initG, takeH, putH, rtr, a3]
  refine callK c4 ?_
  simp -implicitDefEqProofs [initG]
  refine givB [1000000] 1000000 c5 (by simp [initG, rtr]) rfl (by simp) ?_
  rintro r hs' ⟨rfl, rfl⟩
  simp -implicitDefEqProofs [initG, takeH, putH, rtr]
  refine callK c6 ?_
  simp -implicitDefEqProofs [initG, h6, h6']
  refine givB [1000000] 1000000 c7 (by simp [initG, rtr]) rfl (by simp) ?_
  rintro r hs' ⟨rfl, rfl⟩
  simp -implicitDefEqProofs [initG, takeH, putH, rtr]
  refine loopN S.length (Mv1 p rd E S fr to) ⟨by simp [initG], by simp [initG], by simp [initG], by simp [initG], by simp [initG], by simp [initG], by simp [Deep0]⟩ ?_
  rintro k τ hk ⟨g0, g1, g2, g7, g8, gA, hno⟩
  clear c0 c1 c2 c3 c4 c5 c7
  by_cases hlt : k < S.length
  · have hlt' : (k : Int) < S.length := by omega
    have hts := take_s hlt
    have hxk := hE.klen (List.mem_map.2 ⟨_, hSm _ (List.getElem_mem hlt), rfl⟩)
    have c1 := ndepthR_fn S[k].1 hxk
    have hdx := depth_le S[k].1
    have hxm := List.getElem_mem hlt
    generalize hx : S[k] = x at *
    generalize hdxx : depthU x.1 = dx at *
    by_cases h8 : (8 : Int) < (dx : Int) - dp + dq
    · have hd : deepE E fr to = true := by
        rw [hdeep, List.any_eq_true]
        exact ⟨x, hxm, by rw [hdxx]; simpa using h8⟩
      rw [if_pos hd] at hob
      rw [hob, if_neg (by decide)] at hR
      subst hR
      simp -implicitDefEqProofs [g0, g1, g2, g7, g8, gA, hlt, hlt', hx, ent_str]
      refine callK c1 ?_
      simp -implicitDefEqProofs [g0, g1, g2, g7, g8, gA]
      refine callK c6 ?_
      simp -implicitDefEqProofs [g0, g1, g2, g7, g8, gA]
      repeat refine And.intro (by omega) ?_
      refine callK c8 ?_
      simp -implicitDefEqProofs [g0, g1, g2, g7, g8, gA, h8]
      repeat refine And.intro (by omega) ?_
      exact ⟨.d (.int .i64 3), [1000000], by simp, by simp [gA, isH], by simp [ResG], rfl, by simp [gA, rtr]⟩
    · simp -implicitDefEqProofs [g0, g1, g2, g7, g8, gA, hlt, hlt', hx, ent_str]
      refine callK c1 ?_
      simp -implicitDefEqProofs [g0, g1, g2, g7, g8, gA]
      refine callK c6 ?_
      simp -implicitDefEqProofs [g0, g1, g2, g7, g8, gA]
      repeat refine And.intro (by omega) ?_
      refine callK c8 ?_
      simp -implicitDefEqProofs [g0, g1, g2, g7, g8, gA, h8]
      repeat refine And.intro (by omega) ?_
      refine again hlt ⟨by simp [g0], by simp [g1], by simp [g2], by simp [g7], by simp, by simp [gA], ?_⟩
      unfold Deep0 at hno ⊢
      rw [hts]
      intro e he
      rcases List.mem_append.1 he with he | he
      · exact hno e he
      · simp only [List.mem_singleton] at he; subst he; rw [hdxx, hdp, hdq]; exact h8
  have hlt' : ¬ (k : Int) < S.length := by omega
  have hnd : deepE E fr to = false := by
    rw [hdeep, List.any_eq_false]
    intro e he
    unfold Deep0 at hno
    rw [List.take_of_length_le (by omega)] at hno
    have := hno e he
    rw [hdp, hdq] at this
    simpa using this
  rw [if_neg (by simp [hnd])] at hob
  have hM := hMV hob
  rw [if_pos hob] at hR
  subst hR
  clear hno hdeep hob hMV c6 c8
  simp -implicitDefEqProofs [g0, g1, g2, g7, g8, gA, hlt, hlt']
  refine loopN S.length (Mv2 p rd E S fr to) ⟨by simp [g0], by simp [g1], by simp [g2], by simp [g7], by simp, by simp [gA, dropK2_zero]⟩ ?_
  clear g0 g1 g2 g7 g8 gA hlt hlt' hk
  rintro j τ2 hj ⟨g0, g1, g2, g7, g9, gA⟩
  by_cases hlt : j < S.length
  · have hlt' : (j : Int) < S.length := by omega
    have hh := dropK2_has hSm hSn hlt
    have hs2 := dropK2_succ E S hlt
    have hol := dropK2_ord hE.ord S j
    have hln := dropK2_len E S j
    generalize hx : S[j] = x at *
    obtain ⟨i, hi, a, e1, e2, e3⟩ := at_entry hol hh
    have c1 := rat_fn p rd (entsD (dropK2 E S j)) hw (dropK2 E S j) (.inl rfl) (by omega) x.1
    rw [e1] at c1
    have c2 := rdrop_fn p rd hw (dropK2 E S j) (by omega) i hi
    rw [del_erase (NS.nodup hol) hi (by rw [e2]), ← hs2] at c2
    generalize hD1 : dropK2 E S j = D1 at *
    simp -implicitDefEqProofs [g0, g1, g2, g7, g9, gA, hlt, hlt', hx, ent_str]
    refine givB [1000000] 1000000 c1 (by simp [gA, rtr]) rfl (by simp) ?_
    rintro r hs' ⟨rfl, rfl⟩
    simp -implicitDefEqProofs [g0, g1, g2, g7, g9, gA, takeH, putH, rtr]
    refine givB [1000000] 1000000 c2 (by simp [gA, rtr]) rfl (by simp) ?_
    rintro r hs' ⟨rfl, rfl⟩
    simp -implicitDefEqProofs [g0, g1, g2, g7, g9, gA, takeH, putH, rtr]
    repeat refine And.intro (by omega) ?_
    exact again hlt ⟨by simp [g0], by simp [g1], by simp [g2], by simp [g7], by simp, by simp⟩
  have hlt' : ¬ (j : Int) < S.length := by omega
  obtain rfl : j = S.length := by omega
  rw [hall] at gA
  generalize hF0 : (E.filter fun e => !underU e.1 fr) = F0 at *
  have hF0l : F0.length ≤ 256 := by
    rw [← hF0]
    exact Nat.le_trans (List.length_filter_le _ _) hE.few
  have hF0k : ∀ e ∈ F0, List.length e.1 < 900000 := fun e he => by
    rw [← hF0] at he
    exact hkl e (List.mem_filter.1 he).1
  have hrl : ∀ e ∈ S, List.length (rebaseU e.1 fr to).1 < 900000 := fun e he => by
    obtain ⟨k, m, n, t, q1, q2, q3, q4, q5, _, q6, q7, q8⟩ := hM.below (List.mem_map.2 ⟨e, hSm e he, rfl⟩) (hSu e he)
    rw [q6]
    have := valid_len (valid_norm.2 ⟨_, q7⟩)
    simp only; omega
  simp -implicitDefEqProofs [g0, g1, g2, g7, g9, gA, hlt, hlt']
  refine loopN S.length (Mv3 p rd F0 S fr to) ⟨by simp [g0], by simp [g1], by simp [g2], by simp [g7], by simp, by simp [gA, moveK]⟩ ?_
  clear g0 g1 g2 g7 g9 gA hlt hlt' hj
  rintro j τ3 hj ⟨g0, g1, g2, g7, g10, gA⟩
  by_cases hlt : j < S.length
  · have hlt' : (j : Int) < S.length := by omega
    have hs2 := moveK_succ F0 S fr to hlt
    have hpm := moveK_perm F0 S fr to j
    have hxm := List.getElem_mem hlt
    have hxk := hE.klen (List.mem_map.2 ⟨_, hSm _ hxm, rfl⟩)
    have c1 := nrebaseR_fn S[j].1 fr to hxk hf ht
    have hml : (moveK F0 S fr to j).length < 100000 := by
      rw [hpm.length_eq]
      simp only [List.length_append, List.length_map, List.length_take]
      omega
    have hmk : ∀ e ∈ moveK F0 S fr to j, List.length e.1 < 900000 := fun e he => by
      rcases List.mem_append.1 (hpm.mem_iff.1 he) with he | he
      · obtain ⟨y, hy, rfl⟩ := List.mem_map.1 he
        exact hrl y (List.mem_of_mem_take hy)
      · exact hF0k e he
    have c2 := rins_fn p rd (entsD (moveK F0 S fr to j)) hw (moveK F0 S fr to j) (.inl rfl) hml hmk ((rebaseU S[j].1 fr to).1, S[j].2) (hrl _ hxm)
    rw [← hs2] at c2
    generalize hM2 : moveK F0 S fr to (j + 1) = M2 at *
    generalize moveK F0 S fr to j = M1 at *
    clear hrl hmv hM hSu
    generalize hx : S[j] = x at *
    generalize rebaseU x.1 fr to = G at *
    obtain ⟨t, er⟩ := G
    simp only [ent_str, atts] at c2
    simp -implicitDefEqProofs [g0, g1, g2, g7, g10, gA, hlt, hlt', hx, ent_str, atts]
    refine callK c1 ?_
    simp -implicitDefEqProofs [g0, g1, g2, g7, g10, gA, hlt, hlt', hx, ent_str, atts]
    refine givB [1000000] 1000000 c2 (by simp [gA, rtr]) rfl (by simp) ?_
    rintro r hs' ⟨rfl, rfl⟩
    simp -implicitDefEqProofs [g0, g1, g2, g7, g10, gA, takeH, putH, rtr]
    repeat refine And.intro (by omega) ?_
    exact again hlt ⟨by simp [g0], by simp [g1], by simp [g2], by simp [g7], by simp, by simp [hM2]⟩
  · have hlt' : ¬ (j : Int) < S.length := by omega
    obtain rfl : j = S.length := by omega
    rw [hmv] at gA
    simp -implicitDefEqProofs [g0, g1, g2, g7, g10, gA, hlt, hlt']
    exact ⟨.d (.int .i64 0), [1000000], by simp, by simp [gA, isH], by simp [ResG], rfl, by simp [gA, rtr]⟩
end Go.Proofs.Tz

/- The statements about trees: light, do, done, same. -/
set_option maxRecDepth 100000
set_option maxHeartbeats 8000000
set_option linter.unusedSimpArgs false
set_option linter.unusedVariables false
namespace Go.Proofs.Tz
open Go.Vw Go.RowKit Go.Proofs Go.Sort

/-- A call: its kind, the name, the other name, the attributes. -/
abbrev TOp := Int × Str × Str × List Att
def topD (x : TOp) : D := .agg [.int .i64 x.1, .str x.2.1, .str x.2.2.1, atts x.2.2.2]
def topsD (l : List TOp) : D := .sl (l.map topD)
def doE (E : List Ent) (x : TOp) : List Ent × Int := if x.1 = 0 then addE E x.2.1 x.2.2.2 else if x.1 = 1 then putE E x.2.1 x.2.2.2 else if x.1 = 2 then deleteE E x.2.1 else if x.1 = 3 then moveE E x.2.1 x.2.2.1 else (E, 0)
def FitO (x : TOp) : Prop := List.length x.2.1 < 900000 ∧ List.length x.2.2.1 < 900000 ∧ Fit2 x.2.2.2
def TdP (V : List Ent × Int) (r : AV) (hs' : List AV) : Prop := ∃ p' u', r = .tup [.d (.raw (va p')), .d (.int .i64 V.2)] ∧ TR p' u' V.1 hs'
def RdP (R0 : List Str) (V : List Ent × Int) (r : AV) (hs' : List AV) : Prop := ∃ p', r = .tup [.d (.raw (va p')), .d (.int .i64 V.2)] ∧ hs' = rtr p' (strs R0) (entsD V.1)
theorem tdo_fn (p u : Nat) (E : List Ent) (X : Option (List (D × Nat) × Nat)) (hE : TI E) (x : TOp) (hx : FitO x) : CtrG Tryz.prog 13 [.d (.raw (va p)), .d (topD x)] (tr p u E X) (TdP (doE E x)) := by
  obtain ⟨c, n, to, a⟩ := x
  obtain ⟨hn, hto, ha⟩ := hx
  refine fn_of_vwpGN (rs := [.tmp 4, .tmp 5]) (fun i => i == 5000019 || i == 5000025 || i == 5000032 || i == 5000041 || i == 5000043) (by kernel_rfl) Tryz.func13 (by kernel_rfl) rfl rfl (by simp) (Nat.le_of_ble_eq_true rfl) (by kernel_rfl) rfl ?_
  simp only at hn hto ha
  obtain ⟨R, hR⟩ : ∃ R, doE E (c, n, to, a) = R := ⟨_, rfl⟩
  rw [hR]
  unfold doE at hR
  simp only at hR
  by_cases h0 : c = 0
  · rw [if_pos h0] at hR
    have c1 := tadd_fn p u E X n a hn ha
    rw [hR] at c1
    simp only [ent_str, atts] at c1
    subst h0
    simp -implicitDefEqProofs [initG, tr, topD, atts]
    refine givB [1000000, 1000001] 1000000 c1 (by simp [initG, tr]) rfl (by simp) ?_
    rintro r hs' ⟨rfl, X', rfl⟩
    simp -implicitDefEqProofs [initG, takeH, putH, tr]
    exact ⟨[.d (.raw (va p)), .d (.int .i64 R.2)], [1000000, 1000001], by simp, by simp [initG, isH], by simp [resDs, resD, initG], p, u, rfl, X', by simp [initG, tr]⟩
  rw [if_neg h0] at hR
  by_cases h1 : c = 1
  · rw [if_pos h1] at hR
    have c1 := tput_fn p u E X hE.ord n a ha
    rw [hR] at c1
    simp only [ent_str, atts] at c1
    subst h1
    simp -implicitDefEqProofs [initG, tr, topD, atts]
    refine givB [1000000, 1000001] 1000000 c1 (by simp [initG, tr]) rfl (by simp) ?_
    rintro r hs' ⟨rfl, X', rfl⟩
    simp -implicitDefEqProofs [initG, takeH, putH, tr]
    exact ⟨[.d (.raw (va p)), .d (.int .i64 R.2)], [1000000, 1000001], by simp, by simp [initG, isH], by simp [resDs, resD, initG], p, u, rfl, X', by simp [initG, tr]⟩
  rw [if_neg h1] at hR
  by_cases h2 : c = 2
  · rw [if_pos h2] at hR
    have c1 := tdelete_fn p u E X hE n hn
    rw [hR] at c1
    subst h2
    simp -implicitDefEqProofs [initG, tr, topD, atts]
    refine givB [1000000, 1000001] 1000000 c1 (by simp [initG, tr]) rfl (by simp) ?_
    rintro r hs' ⟨rfl, X', rfl⟩
    simp -implicitDefEqProofs [initG, takeH, putH, tr]
    exact ⟨[.d (.raw (va p)), .d (.int .i64 R.2)], [1000000, 1000001], by simp, by simp [initG, isH], by simp [resDs, resD, initG], p, u, rfl, X', by simp [initG, tr]⟩
  rw [if_neg h2] at hR
  by_cases h3 : c = 3
  · rw [if_pos h3] at hR
    have c1 := tmove_fn p u E X hE n to hn hto
    rw [hR] at c1
    subst h3
    simp -implicitDefEqProofs [initG, tr, topD, atts]
    refine givB [1000000, 1000001] 1000000 c1 (by simp [initG, tr]) rfl (by simp) ?_
    rintro r hs' ⟨rfl, u', X', rfl⟩
    simp -implicitDefEqProofs [initG, takeH, putH, tr]
    exact ⟨[.d (.raw (va p)), .d (.int .i64 R.2)], [1000000, 1000001], by simp, by simp [initG, isH], by simp [resDs, resD, initG], p, u', rfl, X', by simp [initG, tr]⟩
  rw [if_neg h3] at hR
  subst hR
  have c1 := tclone_fn p u E X hE
  simp -implicitDefEqProofs [initG, tr, topD, atts, h0, h1, h2, h3]
  refine givB [1000000, 1000001] 1000002 c1 (by simp [initG, tr]) rfl (by simp) ?_
  rintro r hs' ⟨p', u', X', rfl, rfl⟩
  simp -implicitDefEqProofs [initG, takeH, putH, tr]
  exact ⟨[.d (.raw (va p')), .d (.int .i64 0)], [1000002, 1000003], by simp, by simp [initG, isH], by simp [resDs, resD, initG], p', u', rfl, none, by simp [initG, tr]⟩
theorem rdo_fn (p : Nat) (R0 : List Str) (hr : R0.length < 100000) (E : List Ent) (hE : TI E) (x : TOp) (hx : FitO x) : CtrG Tryz.prog 14 [.d (.raw (va p)), .d (topD x)] (rtr p (strs R0) (entsD E)) (RdP R0 (doE E x)) := by
  obtain ⟨c, n, to, a⟩ := x
  obtain ⟨hn, hto, ha⟩ := hx
  refine fn_of_vwpGN (rs := [.tmp 4, .tmp 5]) (fun i => i == 5000019 || i == 5000025 || i == 5000032 || i == 5000041 || i == 5000043) (by kernel_rfl) Tryz.func14 (by kernel_rfl) rfl rfl (by simp) (Nat.le_of_ble_eq_true rfl) (by kernel_rfl) rfl ?_
  simp only at hn hto ha
  have hw : width (strs R0) = 1 := rfl
  have hl : E.length < 100000 := by have := hE.few; omega
  have hk : ∀ e ∈ E, List.length e.1 < 900000 := fun e he => hE.klen (List.mem_map.2 ⟨e, he, rfl⟩)
  obtain ⟨R, hR⟩ : ∃ R, doE E (c, n, to, a) = R := ⟨_, rfl⟩
  rw [hR]
  unfold doE at hR
  simp only at hR
  by_cases h0 : c = 0
  · rw [if_pos h0] at hR
    have c1 := radd_fn p (strs R0) hw E hl hk n a hn ha
    rw [hR] at c1
    simp only [ent_str, atts] at c1
    subst h0
    simp -implicitDefEqProofs [initG, rtr, topD, atts]
    refine givB [1000000] 1000000 c1 (by simp [initG, rtr]) rfl (by simp) ?_
    rintro r hs' ⟨rfl, rfl⟩
    simp -implicitDefEqProofs [initG, takeH, putH, rtr]
    exact ⟨[.d (.raw (va p)), .d (.int .i64 R.2)], [1000000], by simp, by simp [initG, isH], by simp [resDs, resD, initG], p, rfl, by simp [initG, rtr]⟩
  rw [if_neg h0] at hR
  by_cases h1 : c = 1
  · rw [if_pos h1] at hR
    have c1 := rput_fn p (strs R0) hw E hE.ord hl hk n a hn ha
    rw [hR] at c1
    simp only [ent_str, atts] at c1
    subst h1
    simp -implicitDefEqProofs [initG, rtr, topD, atts]
    refine givB [1000000] 1000000 c1 (by simp [initG, rtr]) rfl (by simp) ?_
    rintro r hs' ⟨rfl, rfl⟩
    simp -implicitDefEqProofs [initG, takeH, putH, rtr]
    exact ⟨[.d (.raw (va p)), .d (.int .i64 R.2)], [1000000], by simp, by simp [initG, isH], by simp [resDs, resD, initG], p, rfl, by simp [initG, rtr]⟩
  rw [if_neg h1] at hR
  by_cases h2 : c = 2
  · rw [if_pos h2] at hR
    have c1 := rdelete_fn p (strs R0) hw E hE.ord hl hk n hn
    rw [hR] at c1
    subst h2
    simp -implicitDefEqProofs [initG, rtr, topD, atts]
    refine givB [1000000] 1000000 c1 (by simp [initG, rtr]) rfl (by simp) ?_
    rintro r hs' ⟨rfl, rfl⟩
    simp -implicitDefEqProofs [initG, takeH, putH, rtr]
    exact ⟨[.d (.raw (va p)), .d (.int .i64 R.2)], [1000000], by simp, by simp [initG, isH], by simp [resDs, resD, initG], p, rfl, by simp [initG, rtr]⟩
  rw [if_neg h2] at hR
  by_cases h3 : c = 3
  · rw [if_pos h3] at hR
    have c1 := rmove_fn p (strs R0) hw E hE n to hn hto
    rw [hR] at c1
    subst h3
    simp -implicitDefEqProofs [initG, rtr, topD, atts]
    refine givB [1000000] 1000000 c1 (by simp [initG, rtr]) rfl (by simp) ?_
    rintro r hs' ⟨rfl, rfl⟩
    simp -implicitDefEqProofs [initG, takeH, putH, rtr]
    exact ⟨[.d (.raw (va p)), .d (.int .i64 R.2)], [1000000], by simp, by simp [initG, isH], by simp [resDs, resD, initG], p, rfl, by simp [initG, rtr]⟩
  rw [if_neg h3] at hR
  subst hR
  have c1 := rclone_fn p R0 E hl hr
  simp -implicitDefEqProofs [initG, rtr, topD, atts, h0, h1, h2, h3]
  refine givB [1000000] 1000001 c1 (by simp [initG, rtr]) rfl (by simp) ?_
  rintro r hs' ⟨p', rfl, rfl⟩
  simp -implicitDefEqProofs [initG, takeH, putH, rtr]
  exact ⟨[.d (.raw (va p')), .d (.int .i64 0)], [1000001], by simp, by simp [initG, isH], by simp [resDs, resD, initG], p', rfl, by simp [initG, rtr]⟩
theorem get_same {E : List Ent} (hE : TI E) (s : Str) : getT E s = getR E s := by
  unfold getT getR
  cases h : getE E s with
  | none => rfl
  | some a => simp only [hE.normal _ (getE_in h)]
theorem fits_get {E : List Ent} (hF : FE E) (s : Str) : Fits (getR E s).1.2 := by
  unfold getR
  cases h : getE E s with
  | none => exact ⟨by simp, by simp⟩
  | some a => exact (hF _ (getE_in h)).1
theorem fits_sub {E : List Ent} (hE : TI E) (hF : FE E) (s : Str) : FitS2 (subtreeE E s) := by
  have hm : ∀ e ∈ subtreeE E s, e ∈ E := fun e he => by
    unfold subtreeE at he
    split at he
    · simp at he
    · exact (List.mem_filter.1 he).1
  refine ⟨?_, fun e he => (hF e (hm e he)).1⟩
  unfold subtreeE
  split
  · simp
  · have := sub_len hE s; omega
theorem child_len {E : List Ent} (hE : TI E) (s : Str) : (childrenE E s).length < 1000000 := by
  unfold childrenE
  split
  · simp
  · have h1 : (kidsE E s).length ≤ (keysE E).length := List.length_filter_le _ _
    have h2 := hE.few
    simp only [keysE, List.length_map] at h1
    omega
theorem same15_fn (p u q : Nat) (rd : D) (hw : width rd = 1) (E : List Ent) (X : Option (List (D × Nat) × Nat)) (hE : TI E) (hF : FE E) (a b : Str) (ha : List.length a < 900000) (hb : List.length b < 900000) :
    CtrG Tryz.prog 15 [.d (.raw (va p)), .d (.raw (va q)), .d (.str a), .d (.str b)] (tr p u E X ++ rtr q rd (entsD E)) (fun r hs' => r = .d (.bool true) ∧ ∃ X', hs' = tr p u E X' ++ rtr q rd (entsD E)) := by
  refine fn_of_vwpG (fun i => i == 5000016 || i == 5000022 || i == 5000035 || i == 5000037 || i == 5000042 || i == 5000044 || i == 5000050 || i == 5000053 || i == 5000059 || i == 5000062 || i == 5000068 || i == 5000071 || i == 5000076 || i == 5000078 || i == 2000045 || i == 2000054 || i == 2000063 || i == 2000072 || i == 2000079) (by kernel_rfl) Tryz.func15 (by kernel_rfl) rfl rfl (Nat.le_of_ble_eq_true rfl) (by kernel_rfl) rfl ?_
  have hl : E.length < 100000 := by have := hE.few; omega
  have hk : ∀ e ∈ E, List.length e.1 < 900000 := fun e he => hE.klen (List.mem_map.2 ⟨e, he, rfl⟩)
  have c1 := tget_fn p u E X a hF
  rw [get_same hE] at c1
  have c2 := rget_fn q rd hw E hE.ord hl a
  have c3 := sameE_fn (getR E a).1 (getR E a).1 (fits_get hF a) (fits_get hF a)
  have c4 := tlen_fn p u E X
  have c5 := rlen_fn q rd hw E
  have c6 := tsubtree_fn p u E X hE hF [] (by simp)
  have c7 := rsubtree_fn q rd hw E hl hk [] (by simp)
  have c8 := sameEs_fn _ _ (fits_sub hE hF []) (fits_sub hE hF [])
  have c9 := fun X => tsubtree_fn p u E X hE hF a ha
  have c10 := rsubtree_fn q rd hw E hl hk a ha
  have c11 := sameEs_fn _ _ (fits_sub hE hF a) (fits_sub hE hF a)
  have c12 := fun X => tchildren_fn p u E X hE a
  have c13 := rchildren_fn q rd hw E hl hk a
  have c14 := same_fn _ _ (child_len hE a) (child_len hE a)
  have c15 := fun X => tchildren_fn p u E X hE b
  have c16 := rchildren_fn q rd hw E hl hk b
  have c17 := same_fn _ _ (child_len hE b) (child_len hE b)
  have c18 := fun X => tchildren_fn p u E X hE []
  have c19 := rchildren_fn q rd hw E hl hk []
  have c20 := same_fn _ _ (child_len hE []) (child_len hE [])
  simp only [decide_true] at c3 c8 c11 c14 c17 c20
  generalize getR E a = G at *
  obtain ⟨⟨g1, g2⟩, g3⟩ := G
  simp only [ent_str, atts] at c1 c2 c3
  generalize subtreeE E [] = S0 at *
  generalize subtreeE E a = S1 at *
  generalize childrenE E a = C1 at *
  generalize childrenE E b = C2 at *
  generalize childrenE E [] = C3 at *
  simp only [entsD, strs] at c8 c11 c14 c17 c20
  simp -implicitDefEqProofs [initG, tr, rtr]
  refine givB [1000000, 1000001] 1000000 c1 (by simp [initG, tr]) rfl (by simp) ?_
  rintro r hs' ⟨rfl, rfl⟩
  simp -implicitDefEqProofs [initG, takeH, putH, tr, rtr]
  refine givB [1000002] 1000002 c2 (by simp [initG, rtr]) rfl (by simp) ?_
  rintro r hs' ⟨rfl, rfl⟩
  simp -implicitDefEqProofs [initG, takeH, putH, tr, rtr]
  refine callK c3 ?_
  simp -implicitDefEqProofs [initG]
  refine givB [1000000, 1000001] 1000000 c4 (by simp [initG, tr]) rfl (by simp) ?_
  rintro r hs' ⟨rfl, rfl⟩
  simp -implicitDefEqProofs [initG, takeH, putH, tr, rtr]
  refine givB [1000002] 1000002 c5 (by simp [initG, rtr]) rfl (by simp) ?_
  rintro r hs' ⟨rfl, rfl⟩
  simp -implicitDefEqProofs [initG, takeH, putH, tr, rtr]
  refine givB [1000000, 1000001] 1000000 c6 (by simp [initG, tr]) rfl (by simp) ?_
  rintro r hs' ⟨rfl, X1, rfl⟩
  simp -implicitDefEqProofs [initG, takeH, putH, tr, rtr]
  refine givB [1000002] 1000002 c7 (by simp [initG, rtr]) rfl (by simp) ?_
  rintro r hs' ⟨rfl, rfl⟩
  simp -implicitDefEqProofs [initG, takeH, putH, tr, rtr]
  refine lendK c8 rfl ?_
  simp -implicitDefEqProofs [initG]
  refine givB [1000000, 1000001] 1000000 (c9 X1) (by simp [initG, tr]) rfl (by simp) ?_
  rintro r hs' ⟨rfl, X2, rfl⟩
  simp -implicitDefEqProofs [initG, takeH, putH, tr, rtr]
  refine givB [1000002] 1000002 c10 (by simp [initG, rtr]) rfl (by simp) ?_
  rintro r hs' ⟨rfl, rfl⟩
  simp -implicitDefEqProofs [initG, takeH, putH, tr, rtr]
  refine lendK c11 rfl ?_
  simp -implicitDefEqProofs [initG]
  refine givB [1000000, 1000001] 1000000 (c12 X2) (by simp [initG, tr]) rfl (by simp) ?_
  rintro r hs' ⟨rfl, X3, rfl⟩
  simp -implicitDefEqProofs [initG, takeH, putH, tr, rtr]
  refine givB [1000002] 1000002 c13 (by simp [initG, rtr]) rfl (by simp) ?_
  rintro r hs' ⟨rfl, rfl⟩
  simp -implicitDefEqProofs [initG, takeH, putH, tr, rtr]
  refine lendK c14 rfl ?_
  simp -implicitDefEqProofs [initG]
  refine givB [1000000, 1000001] 1000000 (c15 X3) (by simp [initG, tr]) rfl (by simp) ?_
  rintro r hs' ⟨rfl, X4, rfl⟩
  simp -implicitDefEqProofs [initG, takeH, putH, tr, rtr]
  refine givB [1000002] 1000002 c16 (by simp [initG, rtr]) rfl (by simp) ?_
  rintro r hs' ⟨rfl, rfl⟩
  simp -implicitDefEqProofs [initG, takeH, putH, tr, rtr]
  refine lendK c17 rfl ?_
  simp -implicitDefEqProofs [initG]
  refine givB [1000000, 1000001] 1000000 (c18 X4) (by simp [initG, tr]) rfl (by simp) ?_
  rintro r hs' ⟨rfl, X5, rfl⟩
  simp -implicitDefEqProofs [initG, takeH, putH, tr, rtr]
  refine givB [1000002] 1000002 c19 (by simp [initG, rtr]) rfl (by simp) ?_
  rintro r hs' ⟨rfl, rfl⟩
  simp -implicitDefEqProofs [initG, takeH, putH, tr, rtr]
  refine lendK c20 rfl ?_
  simp -implicitDefEqProofs [initG]
  exact ⟨.d (.bool true), [1000000, 1000001, 1000002], by simp, by simp [initG, isH], by simp [ResG], rfl, X5, by simp [initG, tr, rtr]⟩
end Go.Proofs.Tz

/- The statements about trees: light inputs; what stays true. -/
set_option maxRecDepth 100000
set_option maxHeartbeats 8000000
set_option linter.unusedSimpArgs false
set_option linter.unusedVariables false
namespace Go.Proofs.Tz
open Go.Vw Go.RowKit Go.Proofs Go.Sort

def shB (s : Str) : Bool := decide (List.length s ≤ 300)
def attB (t : Att) : Bool := shB t.1 && (decide (t.2.length ≤ 8) && t.2.all shB)
def opB (x : TOp) : Bool := shB x.2.1 && (shB x.2.2.1 && (decide (x.2.2.2.length ≤ 8) && x.2.2.2.all attB))
def lightB (R : List Str) (l : List TOp) : Bool := (R.take 6).all shB && ((l.take 24).all opB && (decide (R.length ≤ 6) && decide (l.length ≤ 24)))
theorem all_false {α : Type} {f : α → Bool} {l : List α} {k : Nat} (h : k < l.length) (hx : f l[k] = false) : l.all f = false := by
  rw [List.all_eq_false]
  exact ⟨l[k], List.getElem_mem h, by rw [hx]; simp⟩
def LiA (R : List Str) (l : List TOp) (k : Nat) (τ : St) : Prop := τ 0 = .d (strs R) ∧ τ 1 = .d (topsD l) ∧ τ 5 = .d (.int .i64 k) ∧ (R.take k).all shB = true
def LiB (R : List Str) (l : List TOp) (k : Nat) (τ : St) : Prop := τ 0 = .d (strs R) ∧ τ 1 = .d (topsD l) ∧ τ 6 = .d (.int .i64 k) ∧ (l.take k).all opB = true
def LiC (R : List Str) (l : List TOp) (i : Nat) (A : List Att) (k : Nat) (τ : St) : Prop := τ 0 = .d (strs R) ∧ τ 1 = .d (topsD l) ∧ τ 6 = .d (.int .i64 i) ∧ τ 7 = .d (.int .i64 k) ∧ (A.take k).all attB = true
def LiD (R : List Str) (l : List TOp) (i j : Nat) (V : List Str) (k : Nat) (τ : St) : Prop := τ 0 = .d (strs R) ∧ τ 1 = .d (topsD l) ∧ τ 6 = .d (.int .i64 i) ∧ τ 7 = .d (.int .i64 j) ∧ τ 8 = .d (.int .i64 k) ∧ (V.take k).all shB = true
theorem take_all {α : Type} {f : α → Bool} {l : List α} {k : Nat} (h : k < l.length) : (l.take (k + 1)).all f = ((l.take k).all f && f l[k]) := by
  rw [take_s h, List.all_append]; simp
theorem lightT_fn (R : List Str) (l : List TOp) : Ctr Tryz.prog 9 [.d (strs R), .d (topsD l)] (.d (.bool (lightB R l))) := by
  refine fn_of_vwp (fun _ => false) (by kernel_rfl) Tryz.func9 (by kernel_rfl) rfl rfl (Nat.le_of_ble_eq_true rfl) (by kernel_rfl) rfl rfl ?_
  obtain ⟨V, hV⟩ : ∃ V, lightB R l = V := ⟨_, rfl⟩
  rw [hV]
  unfold lightB at hV
  simp -implicitDefEqProofs
  refine loopN (min R.length 6) (LiA R l) ⟨by simp, by simp, by simp, by simp⟩ ?_
  rintro k τ hk ⟨g0, g1, g5, hI⟩
  by_cases hlt : k < min R.length 6
  · have b1 : k < R.length := by omega
    have b1' : (k : Int) < R.length := by omega
    have b2 : (k : Int) < 6 := by omega
    have hts := take_all (f := shB) b1
    have hbad : shB R[k] = false → V = false := fun h => by
      rw [← hV, all_false (k := k) (by simp; omega) (by simpa using h)]; rfl
    generalize hx : R[k] = s at *
    by_cases hs : List.length s ≤ 300
    · have hs' : ¬ (300 : Int) < List.length s := by omega
      simp -implicitDefEqProofs [g0, g1, g5, strs, b1, b1', b2, hx, hs']
      repeat refine And.intro (by omega) ?_
      exact again hlt ⟨by simp [g0, strs], by simp [g1], by simp, by rw [hts, hI]; simp [shB, hs]⟩
    · have hs' : (300 : Int) < List.length s := by omega
      have hV0 := hbad (by simp [shB]; omega)
      simp -implicitDefEqProofs [g0, g1, g5, strs, b1, b1', b2, hx, hs', hV0]
  have hRA : (R.take 6).all shB = true := by
    have : R.take k = R.take 6 := by
      by_cases h6 : R.length ≤ 6
      · rw [List.take_of_length_le (by omega), List.take_of_length_le h6]
      · have : k = 6 := by omega
        rw [this]
    rw [← this]; exact hI
  rw [hRA, Bool.true_and] at hV
  have hgo : (¬ (k : Int) < R.length) ∨ ((k : Int) < R.length ∧ ¬ (k : Int) < 6) := by omega
  rcases hgo with h1 | ⟨h1, h2⟩
  · simp -implicitDefEqProofs [g0, g1, g5, strs, h1]
    refine loopN (min l.length 24) (LiB R l) ⟨by simp [g0, strs], by simp [g1], by simp, by simp⟩ ?_
    clear g0 g1 g5 hI hlt hk
    rintro i τ2 hi ⟨g0, g1, g6, hI⟩
    by_cases hlt : i < min l.length 24
    · have b1 : i < l.length := by omega
      have b1' : (i : Int) < l.length := by omega
      have b2 : (i : Int) < 24 := by omega
      have hts := take_all (f := opB) b1
      have hbad : opB l[i] = false → V = false := fun h => by
        rw [← hV, all_false (k := i) (by simp; omega) (by simpa using h)]; rfl
      have hwx : ∀ x : TOp, width (topD x) = 4 := fun _ => rfl
      generalize hx : l[i] = x at *
      obtain ⟨c, n, to, A⟩ := x
      have htd : topD (c, n, to, A) = .agg [.int .i64 c, .str n, .str to, .sl (A.map att)] := rfl
      by_cases n1 : List.length n ≤ 300
      case neg =>
        have n1' : (300 : Int) < List.length n := by omega
        have hV0 := hbad (by simp [opB, shB]; omega)
        simp -implicitDefEqProofs [g0, g1, g6, topsD, b1, b1', b2, hx, htd, n1', hV0]
        all_goals rfl
      have n1' : ¬ (300 : Int) < List.length n := by omega
      by_cases n2 : List.length to ≤ 300
      case neg =>
        have n2' : (300 : Int) < List.length to := by omega
        have hV0 := hbad (by simp [opB, shB]; omega)
        simp -implicitDefEqProofs [g0, g1, g6, topsD, b1, b1', b2, hx, htd, n1', n2', hV0]
        all_goals rfl
      have n2' : ¬ (300 : Int) < List.length to := by omega
      by_cases n3 : A.length ≤ 8
      case neg =>
        have n3' : (8 : Int) < A.length := by omega
        have hV0 := hbad (by simp [opB, shB]; omega)
        simp -implicitDefEqProofs [g0, g1, g6, topsD, b1, b1', b2, hx, htd, n1', n2', n3', hV0]
        all_goals rfl
      have n3' : ¬ (8 : Int) < A.length := by omega
      have hop : opB (c, n, to, A) = A.all attB := by simp [opB, shB, n1, n2, n3]
      rw [hop] at hts hbad
      simp -implicitDefEqProofs [g0, g1, g6, topsD, b1, b1', b2, hx, htd, n1', n2', n3']
      repeat refine And.intro (by first | omega | rfl) ?_
      refine loopN A.length (LiC R l i A) ⟨by simp [g0, strs], by simp [g1, topsD], by simp [g6], by simp, by simp⟩ ?_
      clear g0 g1 g6
      rintro j τ3 hj ⟨g0, g1, g6, g7, hJ⟩
      by_cases hlt2 : j < A.length
      · have d1' : (j : Int) < A.length := by omega
        have hts2 := take_all (f := attB) hlt2
        have hbad2 : attB A[j] = false → V = false := fun h => hbad (all_false hlt2 h)
        generalize hy : A[j] = y at *
        obtain ⟨an, vs⟩ := y
        have hta : att (an, vs) = .agg [.str an, .sl (vs.map .str)] := rfl
        by_cases m1 : List.length an ≤ 300
        case neg =>
          have m1' : (300 : Int) < List.length an := by omega
          have hV0 := hbad2 (by simp [attB, shB]; omega)
          simp -implicitDefEqProofs [g0, g1, g6, g7, topsD, b1, b1', b2, hx, htd, hlt2, d1', hy, hta, m1', hV0]
          all_goals first | rfl | exact ⟨rfl, rfl⟩
        have m1' : ¬ (300 : Int) < List.length an := by omega
        by_cases m2 : vs.length ≤ 8
        case neg =>
          have m2' : (8 : Int) < vs.length := by omega
          have hV0 := hbad2 (by simp [attB, shB]; omega)
          simp -implicitDefEqProofs [g0, g1, g6, g7, topsD, b1, b1', b2, hx, htd, hlt2, d1', hy, hta, m1', m2', hV0]
          all_goals first | rfl | exact ⟨rfl, rfl⟩
        have m2' : ¬ (8 : Int) < vs.length := by omega
        have hat : attB (an, vs) = vs.all shB := by simp [attB, shB, m1, m2]
        rw [hat] at hts2 hbad2
        simp -implicitDefEqProofs [g0, g1, g6, g7, topsD, b1, b1', b2, hx, htd, hlt2, d1', hy, hta, m1', m2']
        repeat refine And.intro (by first | omega | rfl) ?_
        refine loopN vs.length (LiD R l i j vs) ⟨by simp [g0, strs], by simp [g1, topsD], by simp [g6], by simp [g7], by simp, by simp⟩ ?_
        clear g0 g1 g6 g7
        rintro q τ4 hq ⟨g0, g1, g6, g7, g8, hQ⟩
        by_cases hlt3 : q < vs.length
        · have f1' : (q : Int) < vs.length := by omega
          have hts3 := take_all (f := shB) hlt3
          have hbad3 : shB vs[q] = false → V = false := fun h => hbad2 (all_false hlt3 h)
          generalize hz : vs[q] = z at *
          by_cases z1 : List.length z ≤ 300
          · have z1' : ¬ (300 : Int) < List.length z := by omega
            simp -implicitDefEqProofs [g0, g1, g6, g7, g8, topsD, b1, b1', b2, hx, htd, hlt2, d1', hy, hta, hlt3, f1', hz, z1']
            repeat refine And.intro (by first | omega | rfl) ?_
            exact again hlt3 ⟨by simp [g0, strs], by simp [g1, topsD], by simp [g6], by simp [g7], by simp, by rw [hts3, hQ]; simp [shB, z1]⟩
          · have z1' : (300 : Int) < List.length z := by omega
            have hV0 := hbad3 (by simp [shB]; omega)
            simp -implicitDefEqProofs [g0, g1, g6, g7, g8, topsD, b1, b1', b2, hx, htd, hlt2, d1', hy, hta, hlt3, f1', hz, z1', hV0]
            all_goals first | rfl | exact ⟨rfl, rfl⟩ | exact ⟨rfl, rfl, rfl⟩
        · have f1' : ¬ (q : Int) < vs.length := by omega
          rw [List.take_of_length_le (by omega)] at hQ
          simp -implicitDefEqProofs [g0, g1, g6, g7, g8, topsD, b1, b1', b2, hx, htd, hlt2, d1', hy, hta, f1']
          repeat refine And.intro (by first | omega | rfl) ?_
          exact again hlt2 ⟨by simp [g0, strs], by simp [g1, topsD], by simp [g6], by simp, by rw [hts2, hJ, hQ]; rfl⟩
      · have d1' : ¬ (j : Int) < A.length := by omega
        rw [List.take_of_length_le (by omega)] at hJ
        simp -implicitDefEqProofs [g0, g1, g6, g7, topsD, b1, b1', b2, hx, htd, d1']
        repeat refine And.intro (by first | omega | rfl) ?_
        exact again hlt ⟨by simp [g0, strs], by simp [g1, topsD], by simp, by rw [hts, hI, hJ]; rfl⟩
    have hLA : (l.take 24).all opB = true := by
      have : l.take i = l.take 24 := by
        by_cases h6 : l.length ≤ 24
        · rw [List.take_of_length_le (by omega), List.take_of_length_le h6]
        · have : i = 24 := by omega
          rw [this]
      rw [← this]; exact hI
    rw [hLA, Bool.true_and] at hV
    by_cases e1 : (i : Int) < l.length
    · have e2 : ¬ (i : Int) < 24 := by omega
      by_cases r1 : R.length ≤ 6
      · have r1' : (R.length : Int) ≤ 6 := by omega
        by_cases r2 : l.length ≤ 24
        · have r2' : (l.length : Int) ≤ 24 := by omega
          have hV0 : V = true := by rw [← hV]; simp [r1, r2]
          simp -implicitDefEqProofs [g0, g1, g6, topsD, strs, e1, e2, r1, r1', r2, r2', hV0]
        · have r2' : ¬ (l.length : Int) ≤ 24 := by omega
          have hV0 : V = false := by rw [← hV]; simp [r1, r2]
          simp -implicitDefEqProofs [g0, g1, g6, topsD, strs, e1, e2, r1, r1', r2, r2', hV0]
      · have r1' : ¬ (R.length : Int) ≤ 6 := by omega
        have hV0 : V = false := by rw [← hV]; simp [r1]
        simp -implicitDefEqProofs [g0, g1, g6, topsD, strs, e1, e2, r1, r1', hV0]
    · by_cases r1 : R.length ≤ 6
      · have r1' : (R.length : Int) ≤ 6 := by omega
        by_cases r2 : l.length ≤ 24
        · have r2' : (l.length : Int) ≤ 24 := by omega
          have hV0 : V = true := by rw [← hV]; simp [r1, r2]
          simp -implicitDefEqProofs [g0, g1, g6, topsD, strs, e1, r1, r1', r2, r2', hV0]
        · have r2' : ¬ (l.length : Int) ≤ 24 := by omega
          have hV0 : V = false := by rw [← hV]; simp [r1, r2]
          simp -implicitDefEqProofs [g0, g1, g6, topsD, strs, e1, r1, r1', r2, r2', hV0]
      · have r1' : ¬ (R.length : Int) ≤ 6 := by omega
        have hV0 : V = false := by rw [← hV]; simp [r1]
        simp -implicitDefEqProofs [g0, g1, g6, topsD, strs, e1, r1, r1', hV0]
  · simp -implicitDefEqProofs [g0, g1, g5, strs, h1, h2]
    refine loopN (min l.length 24) (LiB R l) ⟨by simp [g0, strs], by simp [g1], by simp, by simp⟩ ?_
    clear g0 g1 g5 hI hlt hk
    rintro i τ2 hi ⟨g0, g1, g6, hI⟩
    by_cases hlt : i < min l.length 24
    · have b1 : i < l.length := by omega
      have b1' : (i : Int) < l.length := by omega
      have b2 : (i : Int) < 24 := by omega
      have hts := take_all (f := opB) b1
      have hbad : opB l[i] = false → V = false := fun h => by
        rw [← hV, all_false (k := i) (by simp; omega) (by simpa using h)]; rfl
      have hwx : ∀ x : TOp, width (topD x) = 4 := fun _ => rfl
      generalize hx : l[i] = x at *
      obtain ⟨c, n, to, A⟩ := x
      have htd : topD (c, n, to, A) = .agg [.int .i64 c, .str n, .str to, .sl (A.map att)] := rfl
      by_cases n1 : List.length n ≤ 300
      case neg =>
        have n1' : (300 : Int) < List.length n := by omega
        have hV0 := hbad (by simp [opB, shB]; omega)
        simp -implicitDefEqProofs [g0, g1, g6, topsD, b1, b1', b2, hx, htd, n1', hV0]
        all_goals rfl
      have n1' : ¬ (300 : Int) < List.length n := by omega
      by_cases n2 : List.length to ≤ 300
      case neg =>
        have n2' : (300 : Int) < List.length to := by omega
        have hV0 := hbad (by simp [opB, shB]; omega)
        simp -implicitDefEqProofs [g0, g1, g6, topsD, b1, b1', b2, hx, htd, n1', n2', hV0]
        all_goals rfl
      have n2' : ¬ (300 : Int) < List.length to := by omega
      by_cases n3 : A.length ≤ 8
      case neg =>
        have n3' : (8 : Int) < A.length := by omega
        have hV0 := hbad (by simp [opB, shB]; omega)
        simp -implicitDefEqProofs [g0, g1, g6, topsD, b1, b1', b2, hx, htd, n1', n2', n3', hV0]
        all_goals rfl
      have n3' : ¬ (8 : Int) < A.length := by omega
      have hop : opB (c, n, to, A) = A.all attB := by simp [opB, shB, n1, n2, n3]
      rw [hop] at hts hbad
      simp -implicitDefEqProofs [g0, g1, g6, topsD, b1, b1', b2, hx, htd, n1', n2', n3']
      repeat refine And.intro (by first | omega | rfl) ?_
      refine loopN A.length (LiC R l i A) ⟨by simp [g0, strs], by simp [g1, topsD], by simp [g6], by simp, by simp⟩ ?_
      clear g0 g1 g6
      rintro j τ3 hj ⟨g0, g1, g6, g7, hJ⟩
      by_cases hlt2 : j < A.length
      · have d1' : (j : Int) < A.length := by omega
        have hts2 := take_all (f := attB) hlt2
        have hbad2 : attB A[j] = false → V = false := fun h => hbad (all_false hlt2 h)
        generalize hy : A[j] = y at *
        obtain ⟨an, vs⟩ := y
        have hta : att (an, vs) = .agg [.str an, .sl (vs.map .str)] := rfl
        by_cases m1 : List.length an ≤ 300
        case neg =>
          have m1' : (300 : Int) < List.length an := by omega
          have hV0 := hbad2 (by simp [attB, shB]; omega)
          simp -implicitDefEqProofs [g0, g1, g6, g7, topsD, b1, b1', b2, hx, htd, hlt2, d1', hy, hta, m1', hV0]
          all_goals first | rfl | exact ⟨rfl, rfl⟩
        have m1' : ¬ (300 : Int) < List.length an := by omega
        by_cases m2 : vs.length ≤ 8
        case neg =>
          have m2' : (8 : Int) < vs.length := by omega
          have hV0 := hbad2 (by simp [attB, shB]; omega)
          simp -implicitDefEqProofs [g0, g1, g6, g7, topsD, b1, b1', b2, hx, htd, hlt2, d1', hy, hta, m1', m2', hV0]
          all_goals first | rfl | exact ⟨rfl, rfl⟩
        have m2' : ¬ (8 : Int) < vs.length := by omega
        have hat : attB (an, vs) = vs.all shB := by simp [attB, shB, m1, m2]
        rw [hat] at hts2 hbad2
        simp -implicitDefEqProofs [g0, g1, g6, g7, topsD, b1, b1', b2, hx, htd, hlt2, d1', hy, hta, m1', m2']
        repeat refine And.intro (by first | omega | rfl) ?_
        refine loopN vs.length (LiD R l i j vs) ⟨by simp [g0, strs], by simp [g1, topsD], by simp [g6], by simp [g7], by simp, by simp⟩ ?_
        clear g0 g1 g6 g7
        rintro q τ4 hq ⟨g0, g1, g6, g7, g8, hQ⟩
        by_cases hlt3 : q < vs.length
        · have f1' : (q : Int) < vs.length := by omega
          have hts3 := take_all (f := shB) hlt3
          have hbad3 : shB vs[q] = false → V = false := fun h => hbad2 (all_false hlt3 h)
          generalize hz : vs[q] = z at *
          by_cases z1 : List.length z ≤ 300
          · have z1' : ¬ (300 : Int) < List.length z := by omega
            simp -implicitDefEqProofs [g0, g1, g6, g7, g8, topsD, b1, b1', b2, hx, htd, hlt2, d1', hy, hta, hlt3, f1', hz, z1']
            repeat refine And.intro (by first | omega | rfl) ?_
            exact again hlt3 ⟨by simp [g0, strs], by simp [g1, topsD], by simp [g6], by simp [g7], by simp, by rw [hts3, hQ]; simp [shB, z1]⟩
          · have z1' : (300 : Int) < List.length z := by omega
            have hV0 := hbad3 (by simp [shB]; omega)
            simp -implicitDefEqProofs [g0, g1, g6, g7, g8, topsD, b1, b1', b2, hx, htd, hlt2, d1', hy, hta, hlt3, f1', hz, z1', hV0]
            all_goals first | rfl | exact ⟨rfl, rfl⟩ | exact ⟨rfl, rfl, rfl⟩
        · have f1' : ¬ (q : Int) < vs.length := by omega
          rw [List.take_of_length_le (by omega)] at hQ
          simp -implicitDefEqProofs [g0, g1, g6, g7, g8, topsD, b1, b1', b2, hx, htd, hlt2, d1', hy, hta, f1']
          repeat refine And.intro (by first | omega | rfl) ?_
          exact again hlt2 ⟨by simp [g0, strs], by simp [g1, topsD], by simp [g6], by simp, by rw [hts2, hJ, hQ]; rfl⟩
      · have d1' : ¬ (j : Int) < A.length := by omega
        rw [List.take_of_length_le (by omega)] at hJ
        simp -implicitDefEqProofs [g0, g1, g6, g7, topsD, b1, b1', b2, hx, htd, d1']
        repeat refine And.intro (by first | omega | rfl) ?_
        exact again hlt ⟨by simp [g0, strs], by simp [g1, topsD], by simp, by rw [hts, hI, hJ]; rfl⟩
    have hLA : (l.take 24).all opB = true := by
      have : l.take i = l.take 24 := by
        by_cases h6 : l.length ≤ 24
        · rw [List.take_of_length_le (by omega), List.take_of_length_le h6]
        · have : i = 24 := by omega
          rw [this]
      rw [← this]; exact hI
    rw [hLA, Bool.true_and] at hV
    by_cases e1 : (i : Int) < l.length
    · have e2 : ¬ (i : Int) < 24 := by omega
      by_cases r1 : R.length ≤ 6
      · have r1' : (R.length : Int) ≤ 6 := by omega
        by_cases r2 : l.length ≤ 24
        · have r2' : (l.length : Int) ≤ 24 := by omega
          have hV0 : V = true := by rw [← hV]; simp [r1, r2]
          simp -implicitDefEqProofs [g0, g1, g6, topsD, strs, e1, e2, r1, r1', r2, r2', hV0]
        · have r2' : ¬ (l.length : Int) ≤ 24 := by omega
          have hV0 : V = false := by rw [← hV]; simp [r1, r2]
          simp -implicitDefEqProofs [g0, g1, g6, topsD, strs, e1, e2, r1, r1', r2, r2', hV0]
      · have r1' : ¬ (R.length : Int) ≤ 6 := by omega
        have hV0 : V = false := by rw [← hV]; simp [r1]
        simp -implicitDefEqProofs [g0, g1, g6, topsD, strs, e1, e2, r1, r1', hV0]
    · by_cases r1 : R.length ≤ 6
      · have r1' : (R.length : Int) ≤ 6 := by omega
        by_cases r2 : l.length ≤ 24
        · have r2' : (l.length : Int) ≤ 24 := by omega
          have hV0 : V = true := by rw [← hV]; simp [r1, r2]
          simp -implicitDefEqProofs [g0, g1, g6, topsD, strs, e1, r1, r1', r2, r2', hV0]
        · have r2' : ¬ (l.length : Int) ≤ 24 := by omega
          have hV0 : V = false := by rw [← hV]; simp [r1, r2]
          simp -implicitDefEqProofs [g0, g1, g6, topsD, strs, e1, r1, r1', r2, r2', hV0]
      · have r1' : ¬ (R.length : Int) ≤ 6 := by omega
        have hV0 : V = false := by rw [← hV]; simp [r1]
        simp -implicitDefEqProofs [g0, g1, g6, topsD, strs, e1, r1, r1', hV0]
end Go.Proofs.Tz

/- The statements about trees: what stays true of the trees; trees that no call made. -/
set_option maxRecDepth 100000
set_option maxHeartbeats 8000000
set_option linter.unusedSimpArgs false
set_option linter.unusedVariables false
namespace Go.Proofs.Tz
open Go.Vw Go.RowKit Go.Proofs Go.Sort

theorem FE.ins {E : List Ent} (h : FE E) {n : Str} {a : List Att} (ha : Fit2 a) : FE (insE (n, a) E) := fun e he => by
  rcases insE_mem.1 he with rfl | he
  · exact ha
  · exact h e he
theorem FE.add {E : List Ent} (h : FE E) (n : Str) {a : List Att} (ha : Fit2 a) : FE (addE E n a).1 := by
  unfold addE
  repeat' split
  all_goals first | exact h | exact h.ins (sorted_fit2 ha)
theorem FE.put {E : List Ent} (h : FE E) (n : Str) {a : List Att} (ha : Fit2 a) : FE (putE E n a).1 := by
  unfold putE
  split
  · exact h
  · exact FE.ins (fun e he => h e (List.mem_filter.1 he).1) (sorted_fit2 ha)
theorem FE.delete {E : List Ent} (h : FE E) (s : Str) : FE (deleteE E s).1 := by
  unfold deleteE
  repeat' split
  · exact h
  · exact h
  · exact fun e he => h e (List.mem_filter.1 he).1
theorem FE.move {E : List Ent} (h : FE E) (fr to : Str) : FE (moveE E fr to).1 := by
  unfold moveE
  split
  · intro e he
    rcases List.mem_append.1 ((foldIns_perm _ _).mem_iff.1 he) with he | he
    · obtain ⟨x, hx, rfl⟩ := List.mem_map.1 he
      exact h x (List.mem_filter.1 hx).1
    · exact h e (List.mem_filter.1 he).1
  · exact h
theorem FE.act {E : List Ent} (h : FE E) {x : TOp} (hx : FitO x) : FE (doE E x).1 := by
  unfold doE
  repeat' split
  · exact h.add _ hx.2.2
  · exact h.put _ hx.2.2
  · exact h.delete _
  · exact h.move _ _
  · exact h
theorem TI.act {E : List Ent} (h : TI E) (x : TOp) : TI (doE E x).1 := by
  unfold doE
  repeat' split
  · exact h.add _ _
  · exact h.put _ _
  · exact h.delete _
  · exact h.move _ _
  · exact h
theorem RootI.act {R : List Str} {E : List Ent} (h : TI E) (hr : RootI R E) (x : TOp) : RootI R (doE E x).1 := by
  unfold doE
  repeat' split
  · exact hr.add h _ _
  · exact hr.put _ _
  · exact hr.delete _
  · exact hr.move h _ _
  · exact hr
theorem sortedL_nil : sortedL [] = [] := List.eq_nil_of_length_eq_zero (Nat.le_zero.1 (sorted_len []))
theorem fit2_nil : Fit2 [] := ⟨⟨by simp, by simp⟩, by simp [total]⟩
theorem newGo_ok : ∀ (l : List Str) (E : List Ent), TI E → FE E → (∀ e ∈ E, depthU e.1 = 1) → E.length + l.length ≤ 256 → (newGo E l).2 = 0 →
    TI (newGo E l).1 ∧ FE (newGo E l).1 ∧ (∀ e ∈ (newGo E l).1, depthU e.1 = 1) ∧ ((keysE (newGo E l).1).Perm (l ++ keysE E))
  | [], E, h1, h2, h3, _, _ => ⟨h1, h2, h3, by simp [newGo]⟩
  | s :: l, E, h1, h2, h3, h4, h5 => by
    rw [newGo] at h5 ⊢
    split at h5
    · simp at h5
    rename_i hv
    rw [if_neg hv]
    split at h5
    · simp at h5
    rename_i hh
    rw [if_neg hh]
    have hv1 : validU s = true := by
      cases h : validU s with
      | true => rfl
      | false => exact absurd (.inl h) hv
    have hv2 : depthU s = 1 := by
      by_cases h : depthU s = 1
      · exact h
      · exact absurd (.inr h) hv
    have hp : properU s = true := by
      simp only [properU, Bool.and_eq_true, Bool.not_eq_true', decide_eq_false_iff_not]
      exact ⟨fun e => by subst e; revert hv2; decide, hv1⟩
    simp only [List.length_cons] at h4
    have hi := h1.ins (a := []) hp (by simpa using hh) (fun q => absurd hv2 q) (by omega)
    rw [sortedL_nil] at hi
    have hlen : (insE (s, []) E).length = E.length + 1 := by rw [(insE_perm _ _).length_eq]; simp
    obtain ⟨r1, r2, r3, r4⟩ := newGo_ok l (insE (s, []) E) hi (h2.ins fit2_nil) (fun e he => by
      rcases insE_mem.1 he with rfl | he
      · exact hv2
      · exact h3 e he) (by omega) h5
    refine ⟨r1, r2, r3, r4.trans ?_⟩
    have : (keysE (insE (s, []) E)).Perm (s :: keysE E) := (insE_perm (s, []) E).map _
    exact (this.append_left l).trans List.perm_middle
theorem new_ok {R : List Str} (h : (newE R).2 = 0) : TI (newE R).1 ∧ FE (newE R).1 ∧ (∀ e ∈ (newE R).1, depthU e.1 = 1) ∧ ((keysE (newE R).1).Perm R) := by
  unfold newE at h ⊢
  split at h
  · simp at h
  rename_i h0
  rw [if_neg h0]
  split at h
  · simp at h
  rename_i h1
  rw [if_neg h1]
  have := newGo_ok R [] ⟨by simp [OrdE, NS, keysE], by simp, by simp, by simp, by simp⟩ (by simp [FE]) (by simp) (by simp; omega) h
  simpa [keysE] using this
theorem new_roots {R : List Str} (h : (newE R).2 = 0) : RootI R (newE R).1 ∧ R.Nodup := by
  obtain ⟨h1, h2, h3, h4⟩ := new_ok h
  refine ⟨fun s => ⟨fun hs => h4.mem_iff.1 hs.1, fun hs => ?_⟩, h4.nodup_iff.1 h1.nodup⟩
  have hm := h4.mem_iff.2 hs
  obtain ⟨e, he, rfl⟩ := List.mem_map.1 hm
  exact ⟨hm, h3 e he⟩

/-! ### trees that no call made -/
theorem made0_fn : Ctr Tryz.prog 49 [.d .nilp] (.d (.bool false)) := by
  refine fn_of_vwp (fun _ => false) (by kernel_rfl) Tryz.func49 (by kernel_rfl) rfl rfl (Nat.le_of_ble_eq_true rfl) (by kernel_rfl) rfl rfl ?_
  simp -implicitDefEqProofs
/-- A tree of no call's making. -/
def zr (p : Nat) : List AV := [.hb (va p) 61 (.agg [.raw (.map none)])]
theorem made1_fn (p : Nat) : CtrG Tryz.prog 49 [.d (.raw (va p))] (zr p) (fun r hs' => r = .d (.bool false) ∧ hs' = zr p) := by
  refine fn_of_vwpG (fun _ => false) (by kernel_rfl) Tryz.func49 (by kernel_rfl) rfl rfl (Nat.le_of_ble_eq_true rfl) (by kernel_rfl) rfl ?_
  simp -implicitDefEqProofs [initG, zr]
  refine rawFd (e := 61) (ds := [.raw (.map none)]) 1000000 (by simp [initG]) (by omega) (by simp) (by kernel_rfl) ?_
  simp -implicitDefEqProofs [initG]
  exact ⟨.d (.bool false), [1000000], by simp, by simp [initG, isH], by simp [ResG], rfl, by simp [initG]⟩
theorem add0_fn (e : Ent) : Ctr Tryz.prog 32 [.d .nilp, .d (entD e)] (.d (.int .i64 1)) := by
  refine fn_of_vwp (fun _ => false) (by kernel_rfl) Tryz.func32 (by kernel_rfl) rfl rfl (Nat.le_of_ble_eq_true rfl) (by kernel_rfl) rfl rfl ?_
  simp -implicitDefEqProofs [ent_str]
  refine callK made0_fn ?_
  simp -implicitDefEqProofs
theorem add01_fn (p : Nat) (e : Ent) : CtrG Tryz.prog 32 [.d (.raw (va p)), .d (entD e)] (zr p) (fun r hs' => r = .d (.int .i64 1) ∧ hs' = zr p) := by
  refine fn_of_vwpG (fun i => i == 5000006) (by kernel_rfl) Tryz.func32 (by kernel_rfl) rfl rfl (Nat.le_of_ble_eq_true rfl) (by kernel_rfl) rfl ?_
  simp -implicitDefEqProofs [initG, zr, ent_str]
  refine givB [1000000] 1000000 (made1_fn p) (by simp [initG, zr]) rfl (by simp) ?_
  rintro r hs' ⟨rfl, rfl⟩
  simp -implicitDefEqProofs [initG, takeH, putH, zr]
  exact ⟨.d (.int .i64 1), [1000000], by simp, by simp [initG, isH], by simp [ResG], rfl, by simp [initG]⟩
theorem put0_fn (e : Ent) : Ctr Tryz.prog 38 [.d .nilp, .d (entD e)] (.d (.int .i64 1)) := by
  refine fn_of_vwp (fun _ => false) (by kernel_rfl) Tryz.func38 (by kernel_rfl) rfl rfl (Nat.le_of_ble_eq_true rfl) (by kernel_rfl) rfl rfl ?_
  simp -implicitDefEqProofs [ent_str]
  refine callK made0_fn ?_
  simp -implicitDefEqProofs
theorem put01_fn (p : Nat) (e : Ent) : CtrG Tryz.prog 38 [.d (.raw (va p)), .d (entD e)] (zr p) (fun r hs' => r = .d (.int .i64 1) ∧ hs' = zr p) := by
  refine fn_of_vwpG (fun i => i == 5000006) (by kernel_rfl) Tryz.func38 (by kernel_rfl) rfl rfl (Nat.le_of_ble_eq_true rfl) (by kernel_rfl) rfl ?_
  simp -implicitDefEqProofs [initG, zr, ent_str]
  refine givB [1000000] 1000000 (made1_fn p) (by simp [initG, zr]) rfl (by simp) ?_
  rintro r hs' ⟨rfl, rfl⟩
  simp -implicitDefEqProofs [initG, takeH, putH, zr]
  exact ⟨.d (.int .i64 1), [1000000], by simp, by simp [initG, isH], by simp [ResG], rfl, by simp [initG]⟩
theorem delete0_fn (s : Str) : Ctr Tryz.prog 31 [.d .nilp, .d (.str s)] (.d (.int .i64 1)) := by
  refine fn_of_vwp (fun _ => false) (by kernel_rfl) Tryz.func31 (by kernel_rfl) rfl rfl (Nat.le_of_ble_eq_true rfl) (by kernel_rfl) rfl rfl ?_
  simp -implicitDefEqProofs [ent_str]
  refine callK made0_fn ?_
  simp -implicitDefEqProofs
theorem delete01_fn (p : Nat) (s : Str) : CtrG Tryz.prog 31 [.d (.raw (va p)), .d (.str s)] (zr p) (fun r hs' => r = .d (.int .i64 1) ∧ hs' = zr p) := by
  refine fn_of_vwpG (fun i => i == 5000006) (by kernel_rfl) Tryz.func31 (by kernel_rfl) rfl rfl (Nat.le_of_ble_eq_true rfl) (by kernel_rfl) rfl ?_
  simp -implicitDefEqProofs [initG, zr, ent_str]
  refine givB [1000000] 1000000 (made1_fn p) (by simp [initG, zr]) rfl (by simp) ?_
  rintro r hs' ⟨rfl, rfl⟩
  simp -implicitDefEqProofs [initG, takeH, putH, zr]
  exact ⟨.d (.int .i64 1), [1000000], by simp, by simp [initG, isH], by simp [ResG], rfl, by simp [initG]⟩
theorem move0_fn (a b : Str) : Ctr Tryz.prog 28 [.d .nilp, .d (.str a), .d (.str b)] (.d (.int .i64 1)) := by
  refine fn_of_vwp (fun _ => false) (by kernel_rfl) Tryz.func28 (by kernel_rfl) rfl rfl (Nat.le_of_ble_eq_true rfl) (by kernel_rfl) rfl rfl ?_
  simp -implicitDefEqProofs [ent_str]
  refine callK made0_fn ?_
  simp -implicitDefEqProofs
theorem move01_fn (p : Nat) (a b : Str) : CtrG Tryz.prog 28 [.d (.raw (va p)), .d (.str a), .d (.str b)] (zr p) (fun r hs' => r = .d (.int .i64 1) ∧ hs' = zr p) := by
  refine fn_of_vwpG (fun i => i == 5000012) (by kernel_rfl) Tryz.func28 (by kernel_rfl) rfl rfl (Nat.le_of_ble_eq_true rfl) (by kernel_rfl) rfl ?_
  simp -implicitDefEqProofs [initG, zr, ent_str]
  refine givB [1000000] 1000000 (made1_fn p) (by simp [initG, zr]) rfl (by simp) ?_
  rintro r hs' ⟨rfl, rfl⟩
  simp -implicitDefEqProofs [initG, takeH, putH, zr]
  exact ⟨.d (.int .i64 1), [1000000], by simp, by simp [initG, isH], by simp [ResG], rfl, by simp [initG]⟩
theorem len0_fn  : Ctr Tryz.prog 25 [.d .nilp] (.d (.int .i64 0)) := by
  refine fn_of_vwp (fun _ => false) (by kernel_rfl) Tryz.func25 (by kernel_rfl) rfl rfl (Nat.le_of_ble_eq_true rfl) (by kernel_rfl) rfl rfl ?_
  simp -implicitDefEqProofs [ent_str]
  refine callK made0_fn ?_
  simp -implicitDefEqProofs
theorem len01_fn (p : Nat)  : CtrG Tryz.prog 25 [.d (.raw (va p))] (zr p) (fun r hs' => r = .d (.int .i64 0) ∧ hs' = zr p) := by
  refine fn_of_vwpG (fun i => i == 5000004) (by kernel_rfl) Tryz.func25 (by kernel_rfl) rfl rfl (Nat.le_of_ble_eq_true rfl) (by kernel_rfl) rfl ?_
  simp -implicitDefEqProofs [initG, zr, ent_str]
  refine givB [1000000] 1000000 (made1_fn p) (by simp [initG, zr]) rfl (by simp) ?_
  rintro r hs' ⟨rfl, rfl⟩
  simp -implicitDefEqProofs [initG, takeH, putH, zr]
  exact ⟨.d (.int .i64 0), [1000000], by simp, by simp [initG, isH], by simp [ResG], rfl, by simp [initG]⟩
theorem clone0_fn  : Ctr Tryz.prog 26 [.d .nilp] (.d .nilp) := by
  refine fn_of_vwp (fun _ => false) (by kernel_rfl) Tryz.func26 (by kernel_rfl) rfl rfl (Nat.le_of_ble_eq_true rfl) (by kernel_rfl) rfl rfl ?_
  simp -implicitDefEqProofs [ent_str]
  refine callK made0_fn ?_
  simp -implicitDefEqProofs
theorem clone01_fn (p : Nat)  : CtrG Tryz.prog 26 [.d (.raw (va p))] (zr p) (fun r hs' => r = .d .nilp ∧ hs' = zr p) := by
  refine fn_of_vwpG (fun i => i == 5000007) (by kernel_rfl) Tryz.func26 (by kernel_rfl) rfl rfl (Nat.le_of_ble_eq_true rfl) (by kernel_rfl) rfl ?_
  simp -implicitDefEqProofs [initG, zr, ent_str]
  refine givB [1000000] 1000000 (made1_fn p) (by simp [initG, zr]) rfl (by simp) ?_
  rintro r hs' ⟨rfl, rfl⟩
  simp -implicitDefEqProofs [initG, takeH, putH, zr]
  exact ⟨.d .nilp, [1000000], by simp, by simp [initG, isH], by simp [ResG], rfl, by simp [initG]⟩
theorem child0_fn (s : Str) : Ctr Tryz.prog 24 [.d .nilp, .d (.str s)] (.own true 9 []) := by
  refine fn_of_vwp (fun i => i == 4) (by kernel_rfl) Tryz.func24 (by kernel_rfl) rfl rfl (Nat.le_of_ble_eq_true rfl) (by kernel_rfl) rfl rfl ?_
  simp -implicitDefEqProofs [ent_str]
  refine callK made0_fn ?_
  simp -implicitDefEqProofs
theorem child01_fn (p : Nat) (s : Str) : CtrG Tryz.prog 24 [.d (.raw (va p)), .d (.str s)] (zr p) (fun r hs' => r = .own true 9 [] ∧ hs' = zr p) := by
  refine fn_of_vwpG (fun i => i == 4 || i == 5000006) (by kernel_rfl) Tryz.func24 (by kernel_rfl) rfl rfl (Nat.le_of_ble_eq_true rfl) (by kernel_rfl) rfl ?_
  simp -implicitDefEqProofs [initG, zr, ent_str]
  refine givB [1000000] 1000000 (made1_fn p) (by simp [initG, zr]) rfl (by simp) ?_
  rintro r hs' ⟨rfl, rfl⟩
  simp -implicitDefEqProofs [initG, takeH, putH, zr]
  exact ⟨.own true 9 [], [1000000], by simp, by simp [initG, isH], by simp [ResG], rfl, by simp [initG]⟩
theorem sub0_fn (s : Str) : Ctr Tryz.prog 16 [.d .nilp, .d (.str s)] (.own true 44 []) := by
  refine fn_of_vwp (fun i => i == 4) (by kernel_rfl) Tryz.func16 (by kernel_rfl) rfl rfl (Nat.le_of_ble_eq_true rfl) (by kernel_rfl) rfl rfl ?_
  simp -implicitDefEqProofs [ent_str]
  refine callK made0_fn ?_
  simp -implicitDefEqProofs
theorem sub01_fn (p : Nat) (s : Str) : CtrG Tryz.prog 16 [.d (.raw (va p)), .d (.str s)] (zr p) (fun r hs' => r = .own true 44 [] ∧ hs' = zr p) := by
  refine fn_of_vwpG (fun i => i == 4 || i == 5000009) (by kernel_rfl) Tryz.func16 (by kernel_rfl) rfl rfl (Nat.le_of_ble_eq_true rfl) (by kernel_rfl) rfl ?_
  simp -implicitDefEqProofs [initG, zr, ent_str]
  refine givB [1000000] 1000000 (made1_fn p) (by simp [initG, zr]) rfl (by simp) ?_
  rintro r hs' ⟨rfl, rfl⟩
  simp -implicitDefEqProofs [initG, takeH, putH, zr]
  exact ⟨.own true 44 [], [1000000], by simp, by simp [initG, isH], by simp [ResG], rfl, by simp [initG]⟩
theorem get0_fn (s : Str) : Ctr Tryz.prog 18 [.d .nilp, .d (.str s)] (.tup [.d (entD ([], [])), .d (.bool false)]) := by
  refine fn_of_vwpN (rv := .cell 4 44) (rs := [.tmp 5]) (r := .d (entD ([], []))) (ys := [.d (.bool false)]) (fun i => false) (by kernel_rfl) Tryz.func18 (by kernel_rfl) rfl rfl (by simp) (Nat.le_of_ble_eq_true rfl) (by kernel_rfl) rfl rfl ?_
  simp -implicitDefEqProofs [ent_str]
  refine callK made0_fn ?_
  simp -implicitDefEqProofs [ent_str, atts]
theorem get01_fn (p : Nat) (s : Str) : CtrG Tryz.prog 18 [.d (.raw (va p)), .d (.str s)] (zr p) (fun r hs' => r = .tup [.d (entD ([], [])), .d (.bool false)] ∧ hs' = zr p) := by
  refine fn_of_vwpGN (rs := [.cell 4 44, .tmp 5]) (fun i => i == 5000007) (by kernel_rfl) Tryz.func18 (by kernel_rfl) rfl rfl (by simp) (Nat.le_of_ble_eq_true rfl) (by kernel_rfl) rfl ?_
  simp -implicitDefEqProofs [initG, zr]
  refine givB [1000000] 1000000 (made1_fn p) (by simp [initG, zr]) rfl (by simp) ?_
  rintro r hs' ⟨rfl, rfl⟩
  simp -implicitDefEqProofs [initG, takeH, putH, zr]
  exact ⟨[.d (entD ([], [])), .d (.bool false)], [1000000], by simp, by simp [initG, isH], by simp [resDs, resD, entD, atts], rfl, by simp [initG]⟩
end Go.Proofs.Tz

/- The statements about trees: the chapter's examples. -/
set_option maxRecDepth 100000
set_option maxHeartbeats 8000000
set_option linter.unusedSimpArgs false
set_option linter.unusedVariables false
namespace Go.Proofs.Tz
open Go.Vw Go.RowKit Go.Proofs Go.Sort

def sO : Str := [111, 61, 120]
def sP : Str := [111, 117, 61, 112, 44, 111, 61, 120]
def sA : Str := [99, 110, 61, 97, 44, 111, 117, 61, 112, 44, 111, 61, 120]
def sB : Str := [99, 110, 61, 98, 44, 99, 110, 61, 99, 44, 111, 61, 120]
def sBP : Str := [99, 110, 61, 98, 44, 111, 117, 61, 112, 44, 111, 61, 120]
def sQ : Str := [111, 117, 61, 113, 44, 111, 61, 120]
def sAQ : Str := [99, 110, 61, 97, 44, 111, 117, 61, 113, 44, 111, 61, 120]
def aA : List Att := [([67, 78], [[97]])]
def W1 : List Ent := [(sO, [])]
def W2 : List Ent := [(sO, []), (sP, [])]
def W3 : List Ent := [(sO, []), (sP, []), (sA, [([99, 110], [[97]])])]
def W4 : List Ent := [(sO, []), (sQ, []), (sAQ, [([99, 110], [[97]])])]
theorem w1 : newE [sO] = (W1, 0) := by kernel_rfl
theorem w1' : newE [sO, sO] = ([], 7) := by kernel_rfl
theorem w2 : addE W1 sP [] = (W2, 0) := by kernel_rfl
theorem w3 : addE W2 sA aA = (W3, 0) := by kernel_rfl
theorem w3' : addE W3 sB [] = (W3, 6) := by kernel_rfl
theorem w4 : deleteE W3 sP = (W3, 12) := by kernel_rfl
theorem w4' : deleteE W3 sO = (W3, 12) := by kernel_rfl
theorem w5 : moveE W3 sP sBP = (W3, 28) := by kernel_rfl
theorem w6 : moveE W3 sP sQ = (W4, 0) := by kernel_rfl
theorem w7 : getT W4 sAQ = ((sAQ, [([99, 110], [[97]])]), true) := by kernel_rfl
theorem w8 : childrenE W4 [] = [sO] := by kernel_rfl
theorem w9 : (subtreeE W3 sP).length = 2 := by kernel_rfl
theorem w9' : (subtreeE W4 sP).length = 0 := by kernel_rfl
theorem fit_aA : Fit2 aA := ⟨⟨by simp [aA], by simp [aA]⟩, by simp [aA, total]⟩
theorem tiW1 : TI W1 ∧ FE W1 := by
  have := new_ok (R := [sO]) (by rw [w1])
  rw [w1] at this
  exact ⟨this.1, this.2.1⟩
theorem tiW2 : TI W2 ∧ FE W2 := by
  have h1 := tiW1.1.add sP []
  have h2 := tiW1.2.add sP fit2_nil
  rw [w2] at h1 h2
  exact ⟨h1, h2⟩
theorem tiW3 : TI W3 ∧ FE W3 := by
  have h1 := tiW2.1.add sA aA
  have h2 := tiW2.2.add sA fit_aA
  rw [w3] at h1 h2
  exact ⟨h1, h2⟩
theorem tiW4 : TI W4 ∧ FE W4 := by
  have h1 := tiW3.1.move sP sQ
  have h2 := tiW3.2.move sP sQ
  rw [w6] at h1 h2
  exact ⟨h1, h2⟩
theorem awakeT_fn : Ctr Tryz.prog 10 [] (.d (.bool true)) := by
  refine fn_of_vwp (fun i => i == 12 || i == 5000015 || i == 5000020 || i == 5000045 || i == 5000051 || i == 5000054 || i == 5000067 || i == 5000072 || i == 5000077 || i == 5000081 || i == 5000086 || i == 5000091 || i == 5000096 || i == 5000100 || i == 5000129 || i == 5000135) (by kernel_rfl) Tryz.func10 (by kernel_rfl) rfl rfl (Nat.le_of_ble_eq_true rfl) (by kernel_rfl) rfl rfl ?_
  have c1 := tnew_fn [sO] (by simp [sO])
  rw [w1] at c1
  have c2 := tnew_fn [sO, sO] (by simp [sO])
  rw [w1'] at c2
  have c3 := delete0_fn sO
  have c4 := len0_fn
  have c5 := fun p u X => tadd_fn p u W1 X sP [] (by simp [sP]) fit2_nil
  rw [w2] at c5
  have c6 := fun p u X => tadd_fn p u W2 X sA aA (by simp [sA]) fit_aA
  rw [w3] at c6
  have c7 := fun p u X => tadd_fn p u W3 X sB [] (by simp [sB]) fit2_nil
  rw [w3'] at c7
  have c8 := fun p u X => tlen_fn p u W3 X
  have c9 := fun p u X => tdelete_fn p u W3 X tiW3.1 sP (by simp [sP])
  rw [w4] at c9
  have c10 := fun p u X => tdelete_fn p u W3 X tiW3.1 sO (by simp [sO])
  rw [w4'] at c10
  have c11 := fun p u X => tclone_fn p u W3 X tiW3.1
  have c12 := fun p u X => tmove_fn p u W3 X tiW3.1 sP sBP (by simp [sP]) (by simp [sBP])
  rw [w5] at c12
  have c13 := fun p u X => tmove_fn p u W3 X tiW3.1 sP sQ (by simp [sP]) (by simp [sQ])
  rw [w6] at c13
  have c14 := fun p u X => tget_fn p u W4 X sAQ tiW4.2
  rw [w7] at c14
  have c15 := fun p u X => tchildren_fn p u W4 X tiW4.1 []
  rw [w8] at c15
  have c16 := fun p u X => tsubtree_fn p u W3 X tiW3.1 tiW3.2 sP (by simp [sP])
  have c17 := fun p u X => tsubtree_fn p u W4 X tiW4.1 tiW4.2 sP (by simp [sP])
  have h9 := w9
  have h9' := w9'
  have hl3 : W3.length = 3 := rfl
  generalize hS3 : subtreeE W3 sP = S3 at *
  generalize hS4 : subtreeE W4 sP = S4 at *
  generalize hW1 : W1 = V1 at *
  generalize hW2 : W2 = V2 at *
  generalize hW3 : W3 = V3 at *
  generalize hW4 : W4 = V4 at *
  clear hS3 hS4 hW1 hW2 hW3 hW4
  simp only [sO, sP, sA, sB, sBP, sQ, sAQ, aA, strs, ent_str, atts, att, List.map_cons, List.map_nil] at c1 c2 c3 c5 c6 c7 c9 c10 c12 c13 c14 c15 c16 c17
  simp -implicitDefEqProofs
  refine givB [] 1000000 c1 (by simp) rfl (by simp) ?_
  rintro r hs' (⟨h, _⟩ | ⟨_, p, u, rfl, rfl⟩)
  · exact absurd rfl h
  simp -implicitDefEqProofs [takeH, putH, tr]
  refine ⟨by decide, ?_⟩
  refine givB [] 1000002 c2 (by simp) rfl (by simp) ?_
  rintro r hs' (⟨_, rfl, rfl⟩ | ⟨h, _⟩)
  case inr => cases h
  simp -implicitDefEqProofs [takeH, putH, tr]
  refine callK c3 ?_
  simp -implicitDefEqProofs
  refine callK c4 ?_
  simp -implicitDefEqProofs
  refine givB [1000000, 1000001] 1000000 (c5 p u none) (by simp [tr]) rfl (by simp) ?_
  rintro r hs' ⟨rfl, X1, rfl⟩
  simp -implicitDefEqProofs [takeH, putH, tr, hl3]
  refine givB [1000000, 1000001] 1000000 (c6 p u X1) (by simp [tr]) rfl (by simp) ?_
  rintro r hs' ⟨rfl, X2, rfl⟩
  simp -implicitDefEqProofs [takeH, putH, tr, hl3]
  refine givB [1000000, 1000001] 1000000 (c7 p u X2) (by simp [tr]) rfl (by simp) ?_
  rintro r hs' ⟨rfl, X3, rfl⟩
  simp -implicitDefEqProofs [takeH, putH, tr, hl3]
  refine givB [1000000, 1000001] 1000000 (c8 p u X3) (by simp [tr]) rfl (by simp) ?_
  rintro r hs' ⟨rfl, rfl⟩
  simp -implicitDefEqProofs [takeH, putH, tr, hl3]
  refine givB [1000000, 1000001] 1000000 (c9 p u X3) (by simp [tr]) rfl (by simp) ?_
  rintro r hs' ⟨rfl, X4, rfl⟩
  simp -implicitDefEqProofs [takeH, putH, tr, hl3]
  refine givB [1000000, 1000001] 1000000 (c10 p u X4) (by simp [tr]) rfl (by simp) ?_
  rintro r hs' ⟨rfl, X5, rfl⟩
  simp -implicitDefEqProofs [takeH, putH, tr, hl3]
  refine givB [1000000, 1000001] 1000002 (c11 p u X5) (by simp [tr]) rfl (by simp) ?_
  rintro r hs' ⟨p', u', X6, rfl, rfl⟩
  simp -implicitDefEqProofs [takeH, putH, tr, hl3]
  refine givB [1000000, 1000001] 1000000 (c12 p u X6) (by simp [tr]) rfl (by simp) ?_
  rintro r hs' ⟨rfl, u2, X7, rfl⟩
  simp -implicitDefEqProofs [takeH, putH, tr, hl3]
  refine givB [1000000, 1000001] 1000000 (c13 p u2 X7) (by simp [tr]) rfl (by simp) ?_
  rintro r hs' ⟨rfl, u3, X8, rfl⟩
  simp -implicitDefEqProofs [takeH, putH, tr, hl3]
  refine givB [1000000, 1000001] 1000000 (c14 p u3 X8) (by simp [tr]) rfl (by simp) ?_
  rintro r hs' ⟨rfl, rfl⟩
  simp -implicitDefEqProofs [takeH, putH, tr, hl3]
  refine givB [1000000, 1000001] 1000000 (c15 p u3 X8) (by simp [tr]) rfl (by simp) ?_
  rintro r hs' ⟨rfl, X9, rfl⟩
  simp -implicitDefEqProofs [takeH, putH, tr, hl3]
  refine givB [1000002, 1000003] 1000002 (c16 p' u' none) (by simp [tr]) rfl (by simp) ?_
  rintro r hs' ⟨rfl, X10, rfl⟩
  simp -implicitDefEqProofs [takeH, putH, tr, h9]
  refine givB [1000000, 1000001] 1000000 (c17 p u3 X9) (by simp [tr]) rfl (by simp) ?_
  rintro r hs' ⟨rfl, X11, rfl⟩
  simp -implicitDefEqProofs [takeH, putH, tr, h9']
end Go.Proofs.Tz

/- The statement TreePlays. -/
set_option maxRecDepth 100000
set_option maxHeartbeats 8000000
set_option linter.unusedSimpArgs false
set_option linter.unusedVariables false
namespace Go.Proofs.Tz
open Go.Vw Go.RowKit Go.Proofs Go.Sort

theorem light_R {R : List Str} {l : List TOp} (h : lightB R l = true) : (∀ s ∈ R, List.length s < 900000) ∧ R.length ≤ 6 ∧ l.length ≤ 24 ∧ ∀ x ∈ l, FitO x := by
  simp only [lightB, Bool.and_eq_true, decide_eq_true_eq] at h
  obtain ⟨h1, h2, h3, h4⟩ := h
  rw [List.take_of_length_le h3] at h1
  rw [List.take_of_length_le h4] at h2
  have sh : ∀ {s : Str}, shB s = true → List.length s < 900000 := fun {s} h => by
    simp only [shB, decide_eq_true_eq] at h; omega
  refine ⟨fun s hs => sh (List.all_eq_true.1 h1 s hs), h3, h4, fun x hx => ?_⟩
  have := List.all_eq_true.1 h2 x hx
  simp only [opB, Bool.and_eq_true, decide_eq_true_eq] at this
  obtain ⟨g1, g2, g3, g4⟩ := this
  have ga : ∀ t ∈ x.2.2.2, List.length t.1 < 900000 ∧ t.2.length ≤ 8 := fun t ht => by
    have := List.all_eq_true.1 g4 t ht
    simp only [attB, Bool.and_eq_true, decide_eq_true_eq] at this
    exact ⟨sh this.1, this.2.1⟩
  refine ⟨sh g1, sh g2, ⟨by omega, fun t ht => ⟨by have := (ga t ht).1; omega, by have := (ga t ht).2; omega⟩⟩, ?_⟩
  have key : ∀ A : List Att, (∀ t ∈ A, t.2.length ≤ 8) → total A ≤ A.length * 8 := by
    intro A
    induction A with
    | nil => intro _; simp [total]
    | cons a A ih =>
      intro h
      have h1 := h a (by simp)
      have h2 := ih fun t ht => h t (by simp [ht])
      simp only [total, List.map_cons, List.sum_cons, List.length_cons] at h2 ⊢
      omega
  have := key _ (fun t ht => (ga t ht).2)
  omega
def L3I (R : List Str) (l : List TOp) (k : Nat) (τ : St) : Prop := ∃ E p u X q, TI E ∧ FE E ∧ τ 0 = .d (strs R) ∧ τ 1 = .d (topsD l) ∧ τ 5 = .d (.raw (va p)) ∧ τ 7 = .d (.raw (va q)) ∧ τ 9 = .d (.int .i64 k) ∧
  τ 1000000 = .hb (va p) 61 (.agg [.raw (.map (some u))]) ∧ τ 1000001 = .hm (.map (some u)) 9 (mapE E) X ∧ τ 1000002 = .hb (va q) 68 (.agg [.bool true, strs R, entsD E])
theorem law3T_fn (R : List Str) (l : List TOp) : Ctr Tryz.prog 3 [.d (strs R), .d (topsD l)] (.d (.bool true)) := by
  refine fn_of_vwp (fun i => i == 5000021 || i == 5000026 || i == 5000060 || i == 5000069 || i == 5000092 || i == 5000099) (by kernel_rfl) Tryz.func3 (by kernel_rfl) rfl rfl (Nat.le_of_ble_eq_true rfl) (by kernel_rfl) rfl rfl ?_
  have c1 := lightT_fn R l
  have cA := awakeT_fn
  simp only [strs, topsD] at c1
  cases hL : lightB R l with
  | false =>
    rw [hL] at c1
    simp -implicitDefEqProofs [strs, topsD]
    refine callK c1 ?_
    simp -implicitDefEqProofs
    refine callK cA ?_
    simp -implicitDefEqProofs
  | true =>
  rw [hL] at c1
  obtain ⟨hR, hR6, hl24, hfit⟩ := light_R hL
  have c2 := tnew_fn R hR
  have c3 := rnew_fn R hR
  simp only [strs] at c2 c3
  have hnew := @new_ok R
  generalize newE R = V at *
  obtain ⟨E0, er⟩ := V
  simp only at hnew
  by_cases h0 : er = 0
  case neg =>
    simp -implicitDefEqProofs [strs, topsD]
    refine callK c1 ?_
    simp -implicitDefEqProofs
    refine givB [] 1000000 c2 (by simp) rfl (by simp) ?_
    rintro r hs' (⟨_, rfl, rfl⟩ | ⟨h, _⟩)
    case inr => exact absurd h h0
    simp -implicitDefEqProofs [takeH, putH]
    refine givB [] 1000002 c3 (by simp) rfl (by simp) ?_
    rintro r hs' (⟨_, rfl, rfl⟩ | ⟨h, _⟩)
    case inr => exact absurd h h0
    simp -implicitDefEqProofs [takeH, putH, h0]
    refine callK cA ?_
    simp -implicitDefEqProofs
  subst h0
  obtain ⟨hT0, hF0, _, _⟩ := hnew rfl
  simp -implicitDefEqProofs [strs, topsD]
  refine callK c1 ?_
  simp -implicitDefEqProofs
  refine givB [] 1000000 c2 (by simp) rfl (by simp) ?_
  rintro r hs' (⟨h, _⟩ | ⟨_, p, u, rfl, rfl⟩)
  · exact absurd rfl h
  simp -implicitDefEqProofs [takeH, putH, tr]
  refine givB [] 1000002 c3 (by simp) rfl (by simp) ?_
  rintro r hs' (⟨h, _⟩ | ⟨_, q, rfl, rfl⟩)
  · exact absurd rfl h
  simp -implicitDefEqProofs [takeH, putH, rtr]
  refine loopN l.length (L3I R l) ⟨E0, p, u, none, q, hT0, hF0, by simp [strs], by simp [topsD], by simp, by simp, by simp, by simp, by simp, by simp [strs]⟩ ?_
  clear c1 c2 c3 hnew
  rintro k τ hk ⟨E, p, u, X, q, hT, hF, g0, g1, g5, g7, g9, gA, gB, gC⟩
  have hwR : width (strs R) = 1 := rfl
  by_cases hlt : k < l.length
  · have hlt' : (k : Int) < l.length := by omega
    have hx := hfit _ (List.getElem_mem hlt)
    have c4 := tdo_fn p u E X hT l[k] hx
    have c5 := rdo_fn q R (by omega) E hT l[k] hx
    have hT2 := hT.act l[k]
    have hF2 := hF.act hx
    have hn := hx.1
    have hto := hx.2.1
    generalize hxe : l[k] = x at *
    generalize hV : doE E x = V at *
    obtain ⟨E2, er⟩ := V
    obtain ⟨c, n, to, a⟩ := x
    simp only at hT2 hF2 hn hto
    have c6 := fun p u X q => same15_fn p u q (strs R) hwR E2 X hT2 hF2 n to hn hto
    have htd : topD (c, n, to, a) = .agg [.int .i64 c, .str n, .str to, .sl (a.map att)] := rfl
    rw [htd] at c4 c5
    simp -implicitDefEqProofs [g0, g1, g5, g7, g9, topsD, hlt, hlt', hxe, htd]
    repeat refine And.intro (by first | omega | rfl) ?_
    refine givB [1000000, 1000001] 1000000 c4 (by simp [gA, gB, tr]) rfl (by simp) ?_
    rintro r hs' ⟨p', u', rfl, X', rfl⟩
    simp -implicitDefEqProofs [g0, g1, g5, g7, g9, gC, topsD, hlt, hlt', hxe, htd, takeH, putH, tr]
    repeat refine And.intro (by first | omega | rfl) ?_
    refine givB [1000002] 1000002 c5 (by simp [gC, rtr]) rfl (by simp) ?_
    rintro r hs' ⟨q', rfl, rfl⟩
    simp -implicitDefEqProofs [g0, g1, g5, g7, g9, gC, topsD, hlt, hlt', hxe, htd, takeH, putH, rtr]
    repeat refine And.intro (by first | omega | rfl) ?_
    refine givB [1000000, 1000001, 1000002] 1000000 (c6 p' u' X' q') (by simp [tr, rtr]) rfl (by simp) ?_
    rintro r hs' ⟨rfl, X2, rfl⟩
    simp -implicitDefEqProofs [g0, g1, g5, g7, g9, topsD, takeH, putH, tr, rtr]
    repeat refine And.intro (by first | omega | rfl) ?_
    exact again hlt ⟨E2, p', u', X2, q', hT2, hF2, by simp [g0, strs], by simp [g1, topsD], by simp, by simp, by simp, by simp, by simp, by simp [strs]⟩
  · have hlt' : ¬ (k : Int) < l.length := by omega
    have c6 := same15_fn p u q (strs R) hwR E X hT hF [] [] (by simp) (by simp)
    simp -implicitDefEqProofs [g0, g1, g5, g7, g9, topsD, hlt, hlt']
    refine givB [1000000, 1000001, 1000002] 1000000 c6 (by simp [gA, gB, gC, tr, rtr]) rfl (by simp) ?_
    rintro r hs' ⟨rfl, X2, rfl⟩
    simp -implicitDefEqProofs [takeH, putH, tr, rtr]
    refine callK cA ?_
    simp -implicitDefEqProofs
end Go.Proofs.Tz
