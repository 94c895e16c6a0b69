/-
  What the functions that the statements about references reach compute, part 5 of 6, for data of bounded size (each theorem states its bound).
-/import Derived.Test.YtcmocioniaggoaaGreatDoorTd
import Derived.Test.YtcmocioniaggoaaGreatDoorTb
import Derived.Test.YtcmocioniaggoaaGreatDoorTc
open Go.Proofs.Tryz
set_option linter.unusedSimpArgs false
set_option linter.unusedVariables false
set_option maxRecDepth 100000
set_option maxHeartbeats 16000000
namespace Go.Proofs.Tz
open Go.Vw Go.RowKit Go.Proofs Go.Sort
def entsD (E : List Ent) : D := .sl (E.map entD)
def rtr (p : Nat) (rd en : D) : List AV := [.hb (va p) 140 (.agg [.bool true, rd, en])]
def EnD (E : List Ent) (en : D) : Prop := en = entsD E ∨ (E = [] ∧ en = .raw (.slice none 0 0))
theorem off68_0 : fieldOff prog 140 0 = some 0 := by kernel_rfl
theorem off68_1 : fieldOff prog 140 1 = some 1 := by kernel_rfl
theorem off68_2 : fieldOff prog 140 2 = some 2 := by kernel_rfl
theorem rfd {p : Nat} {rd en : D} {σ : St} {C : AV → Prop} (hw : width rd = 1) (f : Nat) (hf : f < 3) (hj : σ 1000000 = .hb (va p) 140 (.agg [.bool true, rd, en])) (h : C (.adr 1000000 [f])) : RawFd prog 140 f (va p) σ C := by
  refine rawFd (e := 140) (ds := [.bool true, rd, en]) 1000000 hj (by omega) (by simpa using hf) ?_ h
  match f, hf with
  | 0, _ => simp [widths, off68_0]
  | 1, _ => simp [widths, width, off68_1]
  | 2, _ => simp [widths, width, hw, off68_2]
def atE (E : List Ent) (s : Str) : Int := if hasE E s = true then (E.findIdx fun e => decide (e.1 = s) : Nat) else -1
theorem at_neg {E : List Ent} {s : Str} : atE E s < 0 ↔ hasE E s = false := by
  unfold atE; cases hasE E s <;> simp <;> omega
theorem at_nonneg {E : List Ent} {s : Str} : 0 ≤ atE E s ↔ hasE E s = true := by
  unfold atE; cases hasE E s <;> simp <;> omega
theorem at_found {E : List Ent} {s : Str} {k : Nat} (hk : k < E.length) (he : E[k].1 = s) (hn : ∀ e ∈ E.take k, e.1 ≠ s) : atE E s = k := by
  have hh : hasE E s = true := hasE_iff.2 (List.mem_map.2 ⟨E[k], gmm hk, he⟩); unfold atE; rw [if_pos hh]; have : (E.findIdx fun e => decide (e.1 = s)) = k := by
    refine (List.findIdx_eq hk).2 ⟨by simp [he], fun j hj => ?_⟩; have hjl : j < E.length := (by omega); have := hn E[j] (List.mem_take_iff_getElem.2 ⟨j, by omega, rfl⟩); simp [this]
  rw [this]
theorem at_none {E : List Ent} {s : Str} (hn : ∀ e ∈ E, e.1 ≠ s) : atE E s = -1 := by
  have : hasE E s = false := by
    cases h : hasE E s with
    | false => rfl
    | true =>
      obtain ⟨e, he, hs⟩ := List.mem_map.1 (hasE_iff.1 h); exact absurd hs (hn e he)
  unfold atE; rw [this]; rfl
theorem rmade_fn (p : Nat) (rd en : D) (hw : width rd = 1) : CtrG prog 111 [.d (.raw (va p))] (rtr p rd en) (fun r hs' => r = .d (.bool true) ∧ hs' = rtr p rd en) := by
  refine fn_of_vwpG (fun _ => false) (by kernel_rfl) func111 (by kernel_rfl) rfl rfl (nbl rfl) (by kernel_rfl) rfl ?_; simp -implicitDefEqProofs [initG, rtr]; refine rfd (rd := rd) (en := en) hw 0 (by omega) (by simp [initG]) ?_; simp -implicitDefEqProofs [initG]; exact ⟨.d (.bool true), [1000000], by simp, by simp [initG, isH], by simp [ResG], by simp, by simp [initG]⟩
theorem ent_str (e : Ent) : entD e = .agg [.str e.1, atts e.2] := rfl
def NoK (E : List Ent) (s : Str) (k : Nat) : Prop := ∀ e ∈ E.take k, e.1 ≠ s
theorem rat_fn (p : Nat) (rd en : D) (hw : width rd = 1) (E : List Ent) (hE : EnD E en) (hl : E.length < 100000) (s : Str) : CtrG prog 109 [.d (.raw (va p)), .d (.str s)] (rtr p rd en) (fun r hs' => r = .d (.int .i64 (atE E s)) ∧ hs' = rtr p rd en) := by
  refine fn_of_vwpG (fun _ => false) (by kernel_rfl) func109 (by kernel_rfl) rfl rfl (nbl rfl) (by kernel_rfl) rfl ?_; simp -implicitDefEqProofs [initG, rtr]; refine loopN E.length (fun k τ => τ 0 = .d (.raw (va p)) ∧ τ 1 = .d (.str s) ∧ τ 5 = .d (.int .i64 k) ∧ τ 1000000 = .hb (va p) 140 (.agg [.bool true, rd, en]) ∧ NoK E s k) ⟨by simp [initG], by simp [initG], by simp [initG], by simp [initG], by simp [NoK]⟩ ?_; rintro k τ hk ⟨g0, g1, g5, gA, hno⟩; by_cases hlt : k < E.length
  · have hlt' : (k : Int) < E.length := (by omega); obtain rfl : en = entsD E := by
      rcases hE with h | ⟨rfl, _⟩
      · exact h
      · simp at hlt
    have hts := take_s hlt; have hfo := fun he => at_found (s := s) hlt he hno
    generalize hx : E[k] = x at *; simp -implicitDefEqProofs [g0, g1, g5, gA]; refine rfd (rd := rd) (en := entsD E) hw 2 (by omega) (by simp [gA]) ?_; simp -implicitDefEqProofs [g0, g1, g5, gA, entsD, hlt, hlt']; refine rfd (rd := rd) (en := entsD E) hw 2 (by omega) (by simp [gA, entsD]) ?_; by_cases he : x.1 = s
    · have hR := hfo he; simp -implicitDefEqProofs [g0, g1, g5, gA, entsD, hlt, hlt', hx, ent_str, he, hR]; refine ⟨rfl, ?_⟩; exact ⟨.d (.int .i64 k), [1000000], by simp, by simp [gA, isH], by simp [ResG], by simp, by simp [gA, entsD]⟩
    · simp -implicitDefEqProofs [g0, g1, g5, gA, entsD, hlt, hlt', hx, ent_str, he]; refine ⟨rfl, ?_⟩; (repeat refine ai (by omega) ?_); refine again hlt ⟨by simp [g0], by simp [g1], by simp, by simp [gA, entsD], ?_⟩; unfold NoK; rw [hts]; intro e hm; rcases List.mem_append.1 hm with hm | hm
      · exact hno e hm
      · simp only [List.mem_singleton] at hm; subst hm; exact he
  · have hlt' : ¬ (k : Int) < E.length := (by omega); unfold NoK at hno; rw [ttl (by omega)] at hno; have hR := at_none hno; simp -implicitDefEqProofs [g0, g1, g5, gA]; refine rfd (rd := rd) (en := en) hw 2 (by omega) (by simp [gA]) ?_; rcases hE with rfl | ⟨rfl, rfl⟩
    · simp -implicitDefEqProofs [g0, g1, g5, gA, entsD, hlt, hlt', hR]; exact ⟨.d (.int .i64 (-1)), [1000000], by simp, by simp [gA, isH], by simp [ResG], by simp, by simp [gA, entsD]⟩
    · simp only [List.length_nil] at hlt'; simp -implicitDefEqProofs [g0, g1, g5, gA, entsD, hlt, hlt', hR]; exact ⟨.d (.int .i64 (-1)), [1000000], by simp, by simp [gA, isH], by simp [ResG], by simp, by simp [gA]⟩
theorem ins_split {e : Ent} : ∀ {A B : List Ent}, (∀ x ∈ A, ¬ 0 < cmpN x.1 e.1) → insE e (A ++ B) = A ++ insE e B
  | [], _, _ => rfl
  | x :: A, B, h => by
    rw [List.cons_append, insE, if_neg (h x (by simp)), ins_split (fun y hy => h y (by simp [hy]))]; rfl
theorem ins_stop {e x : Ent} {B : List Ent} (h : 0 < cmpN x.1 e.1) : insE e (x :: B) = e :: x :: B := by rw [insE, if_pos h]
theorem ins_end {e : Ent} {A : List Ent} (h : ∀ x ∈ A, ¬ 0 < cmpN x.1 e.1) : insE e A = A ++ [e] := by
  have := ins_split (B := []) h; rw [List.append_nil] at this; rw [this]; rfl
theorem drop_e {α : Type} {l : List α} {k : Nat} (h : k < l.length) : l.drop k = l[k] :: l.drop (k + 1) := List.drop_eq_getElem_cons h
def InI (p : Nat) (rd en : D) (E : List Ent) (e : Ent) (k : Nat) (τ : St) : Prop := ∃ dn out, τ 0 = .d (.raw (va p)) ∧ τ 3 = .box (entD e) ∧ τ 4 = .own true 28 (out.map entD) ∧ τ 5 = .d (.bool dn) ∧ τ 6 = .d (.int .i64 k) ∧ τ 1000000 = .hb (va p) 140 (.agg [.bool true, rd, en]) ∧
  out.length ≤ k + 1 ∧ ((dn = false ∧ out = E.take k ∧ ∀ x ∈ E.take k, ¬ 0 < cmpN x.1 e.1) ∨ (dn = true ∧ out ++ E.drop k = insE e E))
theorem rins_fn (p : Nat) (rd en : D) (hw : width rd = 1) (E : List Ent) (hE : EnD E en) (hl : E.length < 100000) (hs : ∀ x ∈ E, List.length x.1 < 900000) (e : Ent) (he : List.length e.1 < 900000) :
    CtrG prog 110 [.d (.raw (va p)), .d (entD e)] (rtr p rd en) (fun r hs' => r = .tup [] ∧ hs' = rtr p rd (entsD (insE e E))) := by
  refine fn_of_vwpGN (rs := []) (fun i => i == 4 || i == 35 || i == 45 || i == 51 || i == 6000053) (by kernel_rfl) func110 (by kernel_rfl) rfl rfl (by simp) (nbl rfl) (by kernel_rfl) rfl ?_; simp -implicitDefEqProofs [initG, rtr, ent_str]; refine loopN E.length (InI p rd en E e) ⟨false, [], by simp [initG], by simp [initG, ent_str], by simp [initG], by simp [initG], by simp [initG], by simp [initG], by simp, .inl ⟨rfl, by simp, by simp⟩⟩ ?_; rintro k τ hk ⟨dn, out, g0, g3, g4, g5, g6, gA, hol, hI⟩; by_cases hlt : k < E.length
  · have hlt' : (k : Int) < E.length := (by omega); obtain rfl : en = entsD E := by
      rcases hE with h | ⟨rfl, _⟩
      · exact h
      · simp at hlt
    have hts := take_s hlt; have hds := drop_e hlt; have hsx := hs _ (gmm hlt); have c1 := ncompareR_fn E[k].1 e.1 hsx he; have hwx : ∀ x : Ent, width (entD x) = 2 := fun _ => rfl
    generalize hx : E[k] = x at *; cases dn with
    | true =>
      have hI2 : (out ++ [x]) ++ E.drop (k + 1) = insE e E := by
        rcases hI with ⟨h, _⟩ | ⟨_, h⟩
        · cases h
        · rw [← h, hds]; simp
      clear hI; generalize hV : insE e E = V at *; simp -implicitDefEqProofs [g0, g3, g4, g5, g6, gA]; refine rfd (rd := rd) (en := entsD E) hw 2 (by omega) (by simp [gA]) ?_; simp -implicitDefEqProofs [g0, g3, g4, g5, g6, gA, entsD, hlt, hlt']; refine rfd (rd := rd) (en := entsD E) hw 2 (by omega) (by simp [gA, entsD]) ?_; simp -implicitDefEqProofs [g0, g3, g4, g5, g6, gA, entsD, hlt, hlt', hx, hwx]; (repeat refine ai (by first | omega | rfl) ?_); exact again hlt ⟨true, out ++ [x], by simp [g0], by simp [g3], by simp, by simp [g5], by simp, by simp [gA, entsD], by simp; omega, .inr ⟨rfl, by rw [hI2, hV]⟩⟩
    | false =>
      obtain ⟨ho, hno⟩ : out = E.take k ∧ ∀ x ∈ E.take k, ¬ 0 < cmpN x.1 e.1 := by
        rcases hI with ⟨_, h⟩ | ⟨h, _⟩
        · exact h
        · cases h
      clear hI; by_cases hc : 0 < cmpN x.1 e.1
      · have hI2 : (out ++ [e] ++ [x]) ++ E.drop (k + 1) = insE e E := by
          have h1 : insE e E = insE e (E.take k ++ E.drop k) := by rw [List.take_append_drop]
          rw [h1, ins_split hno, hds, ins_stop hc, ho]; simp
        generalize hV : insE e E = V at *; generalize cmpN x.1 e.1 = C at *; simp -implicitDefEqProofs [g0, g3, g4, g5, g6, gA]; refine rfd (rd := rd) (en := entsD E) hw 2 (by omega) (by simp [gA]) ?_; simp -implicitDefEqProofs [g0, g3, g4, g5, g6, gA, entsD, hlt, hlt']; refine rfd (rd := rd) (en := entsD E) hw 2 (by omega) (by simp [gA, entsD]) ?_; simp -implicitDefEqProofs [g0, g3, g4, g5, g6, gA, entsD, hlt, hlt', hx, ent_str]; refine ⟨rfl, callP c1 ?_⟩; simp -implicitDefEqProofs [g0, g3, g4, g5, g6, gA, entsD, hlt, hlt', hx, ent_str, hc]; (repeat refine ai (by first | omega | rfl) ?_); refine rfd (rd := rd) (en := entsD E) hw 2 (by omega) (by simp [gA, entsD]) ?_; simp -implicitDefEqProofs [g0, g3, g4, g5, g6, gA, entsD, hlt, hlt', hx, hwx]; (repeat refine ai (by first | omega | rfl) ?_); exact again hlt ⟨true, out ++ [e] ++ [x], by simp [g0], by simp [g3], by simp [ent_str], by simp, by simp, by simp [gA, entsD], by rw [ho]; simp; omega, .inr ⟨rfl, by rw [hI2, hV]⟩⟩
      · have hI2 : ∀ y ∈ E.take (k + 1), ¬ 0 < cmpN y.1 e.1 := by
          rw [hts]; intro y hy; rcases List.mem_append.1 hy with hy | hy
          · exact hno y hy
          · simp only [List.mem_singleton] at hy; subst hy; exact hc
        have ho2 : out ++ [x] = E.take (k + 1) := by rw [hts, ho]
        have hc' : ¬ (0 : Int) < cmpN x.1 e.1 := hc; generalize hC : cmpN x.1 e.1 = C at c1 hc'; simp -implicitDefEqProofs [g0, g3, g4, g5, g6, gA]; refine rfd (rd := rd) (en := entsD E) hw 2 (by omega) (by simp [gA]) ?_; simp -implicitDefEqProofs [g0, g3, g4, g5, g6, gA, entsD, hlt, hlt']; refine rfd (rd := rd) (en := entsD E) hw 2 (by omega) (by simp [gA, entsD]) ?_; simp -implicitDefEqProofs [g0, g3, g4, g5, g6, gA, entsD, hlt, hlt', hx, ent_str]; refine ⟨rfl, callP c1 ?_⟩; simp -implicitDefEqProofs [g0, g3, g4, g5, g6, gA, entsD, hlt, hlt', hx, ent_str, hc']; refine rfd (rd := rd) (en := entsD E) hw 2 (by omega) (by simp [gA, entsD]) ?_; simp -implicitDefEqProofs [g0, g3, g4, g5, g6, gA, entsD, hlt, hlt', hx, hwx]; (repeat refine ai (by first | omega | rfl) ?_); exact again hlt ⟨false, out ++ [x], by simp [g0], by simp [g3, ent_str], by simp, by simp [g5], by simp, by simp [gA, entsD], by simp; omega, .inl ⟨rfl, ho2, hI2⟩⟩
  · have hlt' : ¬ (k : Int) < E.length := (by omega); have hfin : (dn = false ∧ out ++ [e] = insE e E) ∨ (dn = true ∧ out = insE e E) := by
      rcases hI with ⟨h1, h2, h3⟩ | ⟨h1, h2⟩
      · rw [ttl (by omega)] at h2 h3; exact .inl ⟨h1, by rw [h2, ins_end h3]⟩
      · rw [List.drop_eq_nil_of_le (by omega), List.append_nil] at h2; exact .inr ⟨h1, h2⟩
    clear hI; generalize insE e E = V at *; simp -implicitDefEqProofs [g0, g3, g4, g5, g6, gA]; refine rfd (rd := rd) (en := en) hw 2 (by omega) (by simp [gA]) ?_; rcases hfin with ⟨rfl, hf⟩ | ⟨rfl, hf⟩ <;> rcases hE with rfl | ⟨rfl, rfl⟩
    · simp -implicitDefEqProofs [g0, g3, g4, g5, g6, gA, entsD, hlt, hlt', ent_str]; (repeat refine ai (by first | omega | rfl) ?_); refine rfd (rd := rd) (en := entsD E) hw 2 (by omega) (by simp [gA, entsD]) ?_; simp -implicitDefEqProofs [g0, g3, g4, g5, g6, gA, entsD, hlt, hlt', ent_str]; exact ⟨[], [1000000], by simp, by simp [gA, isH], by simp [resDs], by simp, by rw [← hf]; simp [entsD, ent_str]⟩
    · have hz : ¬ (k : Int) < 0 := (by omega); simp -implicitDefEqProofs [g0, g3, g4, g5, g6, gA, entsD, hz, ent_str]; (repeat refine ai (by first | omega | rfl) ?_); refine rfd (rd := rd) (en := .raw (.slice none 0 0)) hw 2 (by omega) (by simp [gA]) ?_; simp -implicitDefEqProofs [g0, g3, g4, g5, g6, gA, entsD, hlt, hlt', ent_str]; exact ⟨[], [1000000], by simp, by simp [gA, isH], by simp [resDs], by simp, by rw [← hf]; simp [entsD, ent_str]⟩
    · simp -implicitDefEqProofs [g0, g3, g4, g5, g6, gA, entsD, hlt, hlt', ent_str]; refine rfd (rd := rd) (en := entsD E) hw 2 (by omega) (by simp [gA, entsD]) ?_; simp -implicitDefEqProofs [g0, g3, g4, g5, g6, gA, entsD, hlt, hlt', ent_str]; exact ⟨[], [1000000], by simp, by simp [gA, isH], by simp [resDs], by simp, by rw [← hf]; simp [entsD, ent_str]⟩
    · have hz : ¬ (k : Int) < 0 := (by omega); simp -implicitDefEqProofs [g0, g3, g4, g5, g6, gA, entsD, hz, ent_str]; refine rfd (rd := rd) (en := .raw (.slice none 0 0)) hw 2 (by omega) (by simp [gA]) ?_; simp -implicitDefEqProofs [g0, g3, g4, g5, g6, gA, entsD, hlt, hlt', ent_str]; exact ⟨[], [1000000], by simp, by simp [gA, isH], by first | rfl | simp [resDs], by first | rfl | simp, by subst hf; simp [entsD, gA]⟩
theorem rproper_fn (s : Str) (hs : List.length s < 900000) : Ctr prog 112 [.d (.str s)] (.d (.bool (properU s))) := by
  refine fv (fun _ => false) func112 (by kernel_rfl) rfl rfl rfl rfl rfl ?_; have c1 := nvalidR_fn s hs; unfold properU; by_cases h0 : s = []
  · subst h0; simp -implicitDefEqProofs
  · simp -implicitDefEqProofs [h0]; refine callK c1 ?_; simp -implicitDefEqProofs
theorem at_facts (E : List Ent) (s : Str) : (hasE E s = true ∧ 0 ≤ atE E s ∧ ¬ atE E s < 0) ∨ (hasE E s = false ∧ ¬ 0 ≤ atE E s ∧ atE E s < 0) := by
  cases h : hasE E s with
  | true =>
    have := at_nonneg.2 h; exact .inl ⟨rfl, this, by omega⟩
  | false =>
    have := at_neg.2 h; exact .inr ⟨rfl, by omega, this⟩
section
variable (p : Nat) (rd : D) (hw : width rd = 1) (E : List Ent)
include hw
theorem rparent_fn (hl : E.length < 100000) (s : Str) (hs : List.length s < 900000) : CtrG prog 113 [.d (.raw (va p)), .d (.str s)] (rtr p rd (entsD E)) (fun r hs' => r = .d (.bool (parentedE E s)) ∧ hs' = rtr p rd (entsD E)) := by
  refine fn_of_vwpG (fun i => i == 5000016) (by kernel_rfl) func113 (by kernel_rfl) rfl rfl (nbl rfl) (by kernel_rfl) rfl ?_; have c1 := nparentR_fn s hs; unfold parentedE; generalize parentU s = q at *; obtain ⟨t, b⟩ := q; have c2 := rat_fn p rd (entsD E) hw E (.inl rfl) hl t; have hf := at_facts E t; generalize atE E t = A at *; simp -implicitDefEqProofs [initG, rtr]; refine callK c1 ?_; cases b with
  | false =>
    simp -implicitDefEqProofs [initG, rtr]; exact ⟨.d (.bool false), [1000000], by simp, by simp [initG, isH], by simp [ResG], by simp, by simp [initG]⟩
  | true =>
    simp -implicitDefEqProofs [initG, rtr]; refine givB [1000000] 1000000 c2 (by simp [initG, rtr]) rfl (by simp) ?_; rintro r hs' ⟨rfl, rfl⟩; rcases hf with ⟨h1, h2, h3⟩ | ⟨h1, h2, h3⟩
    · simp -implicitDefEqProofs [initG, takeH, putH, rtr, h2]; exact ⟨.d (.bool true), [1000000], by simp, by simp [initG, isH], by simp [ResG], by simp [h1], by simp [initG]⟩
    · simp -implicitDefEqProofs [initG, takeH, putH, rtr, h2]; exact ⟨.d (.bool false), [1000000], by simp, by simp [initG, isH], by simp [ResG], by simp [h1], by simp [initG]⟩
theorem radd_fn (hl : E.length < 100000) (hk : ∀ e ∈ E, List.length e.1 < 900000) (n : Str) (a : List Att) (hn : List.length n < 900000) (ha : Fit2 a) : CtrG prog 62 [.d (.raw (va p)), .d (entD (n, a))] (rtr p rd (entsD E)) (fun r hs' => r = .d (.int .i64 (addE E n a).2) ∧ hs' = rtr p rd (entsD (addE E n a).1)) := by
  refine fn_of_vwpG (fun i => i == 5000006 || i == 5000015 || i == 5000020 || i == 5000035) (by kernel_rfl) func62 (by kernel_rfl) rfl rfl (nbl rfl) (by kernel_rfl) rfl ?_; have c0 := rmade_fn p rd (entsD E) hw; have c1 := rproper_fn n hn; have c2 := rat_fn p rd (entsD E) hw E (.inl rfl) hl n; have c3 := rparent_fn p rd hw E hl n hn; have c4 := sortedR_fn a ha; have c5 := rins_fn p rd (entsD E) hw E (.inl rfl) hl hk (n, sortedL a) hn; have hf := at_facts E n; obtain ⟨R, hR⟩ : ∃ R, addE E n a = R := ⟨_, rfl⟩; rw [hR]; unfold addE at hR; simp only [ent_str, atts] at c4 c5; cases h1 : properU n with
  | false =>
    rw [h1] at c1; simp only [h1, if_true] at hR; subst hR; simp -implicitDefEqProofs [initG, rtr, ent_str, atts]; refine givB [1000000] 1000000 c0 (by simp [initG, rtr]) rfl (by simp) ?_; rintro r hs' ⟨rfl, rfl⟩; simp -implicitDefEqProofs [initG, takeH, putH, rtr]; refine callK c1 ?_; simp -implicitDefEqProofs [initG]; exact ⟨.d (.int .i64 5), [1000000], by simp, by simp [initG, isH], by simp [ResG], by simp, by simp [initG]⟩
  | true =>
  rw [h1] at c1; simp only [h1, Bool.true_eq_false, if_false] at hR; rcases hf with ⟨h2, h3, h4⟩ | ⟨h2, h3, h4⟩
  · simp only [h2, if_true] at hR; subst hR; generalize atE E n = A at *; simp -implicitDefEqProofs [initG, rtr, ent_str, atts]; refine givB [1000000] 1000000 c0 (by simp [initG, rtr]) rfl (by simp) ?_; rintro r hs' ⟨rfl, rfl⟩; simp -implicitDefEqProofs [initG, takeH, putH, rtr]; refine callK c1 ?_; simp -implicitDefEqProofs [initG]; refine givB [1000000] 1000000 c2 (by simp [initG, rtr]) rfl (by simp) ?_; rintro r hs' ⟨rfl, rfl⟩; simp -implicitDefEqProofs [initG, takeH, putH, rtr, h3]; exact ⟨.d (.int .i64 7), [1000000], by simp, by simp [initG, isH], by simp [ResG], by simp, by simp [initG]⟩
  simp only [h2, Bool.false_eq_true, if_false] at hR; generalize atE E n = A at *; cases h5 : parentedE E n with
  | false =>
    rw [h5] at c3; simp only [h5, if_true] at hR; subst hR; simp -implicitDefEqProofs [initG, rtr, ent_str, atts]; refine givB [1000000] 1000000 c0 (by simp [initG, rtr]) rfl (by simp) ?_; rintro r hs' ⟨rfl, rfl⟩; simp -implicitDefEqProofs [initG, takeH, putH, rtr]; refine callK c1 ?_; simp -implicitDefEqProofs [initG]; refine givB [1000000] 1000000 c2 (by simp [initG, rtr]) rfl (by simp) ?_; rintro r hs' ⟨rfl, rfl⟩; simp -implicitDefEqProofs [initG, takeH, putH, rtr, h3]; refine givB [1000000] 1000000 c3 (by simp [initG, rtr]) rfl (by simp) ?_; rintro r hs' ⟨rfl, rfl⟩; simp -implicitDefEqProofs [initG, takeH, putH, rtr]; exact ⟨.d (.int .i64 6), [1000000], by simp, by simp [initG, isH], by simp [ResG], by simp, by simp [initG]⟩
  | true =>
  rw [h5] at c3; simp only [h5, Bool.true_eq_false, if_false] at hR; by_cases h6 : 256 ≤ E.length
  · have h6' : (256 : Int) ≤ E.length := (by omega); rw [if_pos h6] at hR; subst hR; simp -implicitDefEqProofs [initG, rtr, ent_str, atts]; refine givB [1000000] 1000000 c0 (by simp [initG, rtr]) rfl (by simp) ?_; rintro r hs' ⟨rfl, rfl⟩; simp -implicitDefEqProofs [initG, takeH, putH, rtr]; refine callK c1 ?_; simp -implicitDefEqProofs [initG]; refine givB [1000000] 1000000 c2 (by simp [initG, rtr]) rfl (by simp) ?_; rintro r hs' ⟨rfl, rfl⟩; simp -implicitDefEqProofs [initG, takeH, putH, rtr, h3]; refine givB [1000000] 1000000 c3 (by simp [initG, rtr]) rfl (by simp) ?_; rintro r hs' ⟨rfl, rfl⟩; simp -implicitDefEqProofs [initG, takeH, putH, rtr]; refine rfd (rd := rd) (en := entsD E) hw 2 (by omega) (by simp [initG]) ?_; simp -implicitDefEqProofs [initG, entsD, h6, h6']; exact ⟨.d (.int .i64 3), [1000000], by simp, by simp [initG, isH], by simp [ResG], by simp, by simp [initG]⟩
  · have h6' : ¬ (256 : Int) ≤ E.length := (by omega); rw [if_neg h6] at hR; subst hR; generalize insE (n, sortedL a) E = E2 at *; simp -implicitDefEqProofs [initG, rtr, ent_str, atts]; refine givB [1000000] 1000000 c0 (by simp [initG, rtr]) rfl (by simp) ?_; rintro r hs' ⟨rfl, rfl⟩; simp -implicitDefEqProofs [initG, takeH, putH, rtr]; refine callK c1 ?_; simp -implicitDefEqProofs [initG]; refine givB [1000000] 1000000 c2 (by simp [initG, rtr]) rfl (by simp) ?_; rintro r hs' ⟨rfl, rfl⟩; simp -implicitDefEqProofs [initG, takeH, putH, rtr, h3]; refine givB [1000000] 1000000 c3 (by simp [initG, rtr]) rfl (by simp) ?_; rintro r hs' ⟨rfl, rfl⟩; simp -implicitDefEqProofs [initG, takeH, putH, rtr]; refine rfd (rd := rd) (en := entsD E) hw 2 (by omega) (by simp [initG]) ?_; simp -implicitDefEqProofs [initG, entsD, h6, h6']; refine callP c4 ?_; simp -implicitDefEqProofs [initG]; refine givB [1000000] 1000000 c5 (by simp [initG, rtr, entsD]) rfl (by simp) ?_; rintro r hs' ⟨rfl, rfl⟩; simp -implicitDefEqProofs [initG, takeH, putH, rtr]; exact ⟨.d (.int .i64 0), [1000000], by simp, by simp [initG, isH], by simp [ResG], by simp, by simp [initG, entsD]⟩
end
theorem sdx68 : structDX prog true 140 = some [.bool false, .raw (.slice none 0 0), .raw (.slice none 0 0)] := by kernel_rfl
def RnI (R : List Str) (V : List Ent × Int) (k : Nat) (τ : St) : Prop := ∃ E p hd en, τ 0 = .d (strs R) ∧ τ 4 = .d (.raw (va p)) ∧ τ 5 = .d (.int .i64 k) ∧ newGo E (R.drop k) = V ∧ E.length ≤ k ∧ (∀ e ∈ E, List.length e.1 < 900000) ∧
  τ 1000000 = .hb (va p) 140 (.agg [.bool true, .raw hd, en]) ∧ EnD E en ∧ ((k = 0 ∧ hd = .slice none 0 0 ∧ τ 1000001 = .undef) ∨ (0 < k ∧ en = entsD E ∧ τ 1000001 = .hs hd 9 ((R.take k).map .str)))
def RnQ (R : List Str) (V : List Ent × Int) (r : AV) (hs' : List AV) : Prop := (V.2 ≠ 0 ∧ r = .tup [.d .nilp, .d (.int .i64 V.2)] ∧ hs' = []) ∨
  (V.2 = 0 ∧ ∃ p hd, r = .tup [.d (.raw (va p)), .d (.int .i64 0)] ∧ hs' = [.hb (va p) 140 (.agg [.bool true, .raw hd, entsD V.1]), .hs hd 9 (R.map .str)])
def RnP (R : List Str) (V : List Ent × Int) (r : AV) (hs' : List AV) : Prop := (V.2 ≠ 0 ∧ r = .tup [.d .nilp, .d (.int .i64 V.2)] ∧ hs' = []) ∨
  (V.2 = 0 ∧ ∃ p, r = .tup [.d (.raw (va p)), .d (.int .i64 0)] ∧ hs' = rtr p (strs R) (entsD V.1))
theorem rnewQ_fn (R : List Str) (hR : ∀ s ∈ R, List.length s < 900000) : CtrG prog 61 [.d (strs R)] [] (RnQ R (newE R)) := by
  refine fn_of_vwpGN (rs := [.tmp 2, .tmp 3]) (fun i => i == 1000012 || i == 1000013 || i == 5000039 || i == 5000060) (by kernel_rfl) func61 (by kernel_rfl) rfl rfl (by simp) (nbl rfl) (by kernel_rfl) rfl ?_; obtain ⟨V, hV⟩ : ∃ V, newE R = V := ⟨_, rfl⟩; rw [hV]; unfold newE at hV; by_cases h0 : R = []
  · rw [if_pos h0] at hV; subst hV h0; simp -implicitDefEqProofs [initG, strs]; exact ⟨[.d .nilp, .d (.int .i64 6)], [], by simp, by simp, by simp [resDs, resD], .inl ⟨by decide, rfl, rfl⟩⟩
  rw [if_neg h0] at hV; have h0l : ¬ R.length = 0 := fun q => h0 (List.eq_nil_of_length_eq_zero q)
  have h0i : ¬ (R.length : Int) = 0 := (by omega); by_cases h1 : 256 < R.length
  · have h1i : (256 : Int) < R.length := (by omega); rw [if_pos h1] at hV; subst hV; simp -implicitDefEqProofs [initG, strs, h0, h0i, h1, h1i]; exact ⟨[.d .nilp, .d (.int .i64 3)], [], by simp, by simp, by simp [resDs, resD], .inl ⟨by decide, rfl, rfl⟩⟩
  rw [if_neg h1] at hV; have h1i : ¬ (256 : Int) < R.length := (by omega); simp -implicitDefEqProofs [initG, strs, h0, h0i, h1, h1i, sdx68]; refine ⟨1000000, by simp [initG], fun q => ?_⟩; simp -implicitDefEqProofs [initG]; refine loopN R.length (RnI R V) ⟨[], q, .slice none 0 0, .raw (.slice none 0 0), by simp [initG, strs], by simp [initG, va], by simp [initG], by simpa using hV, by simp, by simp, by simp [initG, va], .inr ⟨rfl, rfl⟩, .inl ⟨rfl, rfl, by simp [initG]⟩⟩ ?_; rintro k τ hk ⟨E, p, hd, en, g0, g4, g5, hgo, hEl, hEn, gA, hen, gB⟩; have hw : width (D.raw hd) = 1 := rfl; by_cases hlt : k < R.length
  · have hlt' : (k : Int) < R.length := (by omega); rw [List.drop_eq_getElem_cons hlt, newGo] at hgo; have hs := hR _ (gmm hlt); have hts := take_s hlt; generalize hx : R[k] = s at *; have c1 := nvalidR_fn s hs; have c2 := ndepthR_fn s hs; have c3 := rat_fn p (.raw hd) en hw E hen (by omega) s; have hf := at_facts E s; cases h2 : validU s with
    | false =>
      rw [if_pos (.inl h2)] at hgo; subst hgo; rw [h2] at c1; simp -implicitDefEqProofs [g0, g4, g5, gA, strs, hlt, hlt', hx]; refine callK c1 ?_; simp -implicitDefEqProofs [g0, g4, g5, gA]; exact ⟨[.d .nilp, .d (.int .i64 5)], [], by simp, by simp, by simp [resDs, resD], .inl ⟨by decide, rfl, rfl⟩⟩
    | true =>
    rw [h2] at c1; generalize depthU s = dp at *; by_cases h3 : dp = 1
    case neg =>
      have h3' : ¬ (dp : Int) = 1 := (by omega); rw [if_pos (.inr h3)] at hgo; subst hgo; simp -implicitDefEqProofs [g0, g4, g5, gA, strs, hlt, hlt', hx]; refine callK c1 ?_; simp -implicitDefEqProofs [g0, g4, g5, gA, strs, hlt, hlt', hx]; refine callK c2 ?_; simp -implicitDefEqProofs [g0, g4, g5, gA, h3, h3']; exact ⟨[.d .nilp, .d (.int .i64 5)], [], by simp, by simp, by simp [resDs, resD], .inl ⟨by decide, rfl, rfl⟩⟩
    subst h3; rw [if_neg (by simp [h2])] at hgo; generalize atE E s = A at *; rcases hf with ⟨h4, h5, h6⟩ | ⟨h4, h5, h6⟩
    · rw [if_pos h4] at hgo; subst hgo; simp -implicitDefEqProofs [g0, g4, g5, gA, strs, hlt, hlt', hx]; refine callK c1 ?_; simp -implicitDefEqProofs [g0, g4, g5, gA, strs, hlt, hlt', hx]; refine callK c2 ?_; simp -implicitDefEqProofs [g0, g4, g5, gA, strs, hlt, hlt', hx]; refine givB [1000000] 1000000 c3 (by simp [gA, rtr]) rfl (by simp) ?_; rintro r hs' ⟨rfl, rfl⟩; simp -implicitDefEqProofs [g0, g4, g5, gA, takeH, putH, rtr, h5]; exact ⟨[.d .nilp, .d (.int .i64 7)], [], by simp, by simp, by simp [resDs, resD], .inl ⟨by decide, rfl, rfl⟩⟩
    · rw [if_neg (by simp [h4])] at hgo; have hE2 : ∀ e ∈ insE (s, []) E, List.length e.1 < 900000 := fun e he => by
        rcases insE_mem.1 he with rfl | he
        · exact hs
        · exact hEn e he
      have hE2l : (insE (s, []) E).length ≤ k + 1 := by rw [(insE_perm _ _).length_eq]; simp; omega
      have c4 := fun hd' => rins_fn p (.raw hd') en rfl E hen (by omega) hEn (s, []) hs
      simp only [ent_str, atts, List.map_nil] at c4; generalize insE (s, []) E = E2 at *; have hE2d : ∀ e : List Ent, width (entsD e) = 1 := fun _ => rfl
      rcases gB with ⟨rfl, rfl, gB⟩ | ⟨hk0, rfl, gB⟩
      · simp -implicitDefEqProofs [g0, g4, g5, gA, strs, hlt, hlt', hx]; refine callK c1 ?_; simp -implicitDefEqProofs [g0, g4, g5, gA, strs, hlt, hlt', hx]; refine callK c2 ?_; simp -implicitDefEqProofs [g0, g4, g5, gA, strs, hlt, hlt', hx]; refine givB [1000000] 1000000 c3 (by simp [gA, rtr]) rfl (by simp) ?_; rintro r hs' ⟨rfl, rfl⟩; simp -implicitDefEqProofs [g0, g4, g5, gA, takeH, putH, rtr, h5]; refine rfd (rd := .raw (.slice none 0 0)) (en := en) hw 1 (by omega) (by simp) ?_; simp -implicitDefEqProofs [g0, g4, g5, gA, strs, hlt, hlt', hx]; refine appK0 1000001 (by simp [gB]) (by simp) (by simp) (by simp) (fun A' c => ?_); simp -implicitDefEqProofs [g0, g4, g5, gA]; refine rfd (rd := .raw (.slice none 0 0)) (en := en) hw 1 (by omega) (by simp) ?_; simp -implicitDefEqProofs [g0, g4, g5, gA, strs, hlt, hlt', hx]; refine givB [1000000] 1000000 (c4 (.slice A' 1 c)) (by simp [gA, rtr]) rfl (by simp) ?_; rintro r hs' ⟨rfl, rfl⟩; simp -implicitDefEqProofs [g0, g4, g5, gA, takeH, putH, rtr]; (repeat refine ai (by omega) ?_); exact again hlt ⟨E2, p, .slice A' 1 c, entsD E2, by simp [g0, strs], by simp [g4], by simp, hgo, hE2l, hE2, by simp, .inl rfl, .inr ⟨by omega, rfl, by rw [hts]; simp⟩⟩
      · simp -implicitDefEqProofs [g0, g4, g5, gA, strs, hlt, hlt', hx]; refine callK c1 ?_; simp -implicitDefEqProofs [g0, g4, g5, gA, strs, hlt, hlt', hx]; refine callK c2 ?_; simp -implicitDefEqProofs [g0, g4, g5, gA, strs, hlt, hlt', hx]; refine givB [1000000] 1000000 c3 (by simp [gA, rtr]) rfl (by simp) ?_; rintro r hs' ⟨rfl, rfl⟩; simp -implicitDefEqProofs [g0, g4, g5, gA, takeH, putH, rtr, h5]; refine rfd (rd := .raw hd) (en := entsD E) hw 1 (by omega) (by simp) ?_; simp -implicitDefEqProofs [g0, g4, g5, gA, strs, hlt, hlt', hx]; refine appK (e := 9) (l := (R.take k).map .str) 1000001 (by simp [gB]) (by simp) (by simp; omega) (by simp; omega) (fun A' c => ?_); simp -implicitDefEqProofs [g0, g4, g5, gA]; refine rfd (rd := .raw hd) (en := entsD E) hw 1 (by omega) (by simp) ?_; simp -implicitDefEqProofs [g0, g4, g5, gA, strs, hlt, hlt', hx]; refine givB [1000000] 1000000 (c4 (.slice A' (min k R.length + 1) c)) (by simp [gA, rtr]) rfl (by simp) ?_; rintro r hs' ⟨rfl, rfl⟩; simp -implicitDefEqProofs [g0, g4, g5, gA, takeH, putH, rtr]; (repeat refine ai (by omega) ?_); exact again hlt ⟨E2, p, .slice A' (min k R.length + 1) c, entsD E2, by simp [g0, strs], by simp [g4], by simp, hgo, hE2l, hE2, by simp, .inl rfl, .inr ⟨by omega, rfl, by rw [hts]; simp⟩⟩
  · have hlt' : ¬ (k : Int) < R.length := (by omega); rw [List.drop_eq_nil_of_le (by omega), newGo] at hgo; subst hgo; have hk0 : 0 < k := (by omega); rcases gB with ⟨h, _⟩ | ⟨_, rfl, gB⟩
    · omega
    rw [ttl (by omega)] at gB; simp -implicitDefEqProofs [g0, g4, g5, gA, strs, hlt, hlt']; exact ⟨[.d (.raw (va p)), .d (.int .i64 0)], [1000000, 1000001], by simp, by simp [gA, gB, isH], by simp [resDs, resD, g4], .inr ⟨rfl, p, hd, rfl, by simp [gA, gB]⟩⟩
theorem rnew_fn (R : List Str) (hR : ∀ s ∈ R, List.length s < 900000) : CtrG prog 61 [.d (strs R)] [] (RnP R (newE R)) := by
  refine (rnewQ_fn R hR).frzBox fun r hs' h => ?_
  rcases h with h | ⟨h0, p, hd, rfl, rfl⟩
  · exact .inl (.inl h)
  · refine .inr ⟨[.raw (va p), .int .i64 0], va p, 140, .agg [.bool true, .raw hd, entsD (newE R).1], .agg [.bool true, strs R, entsD (newE R).1], _, rfl, rfl, fun z hz => ?_, .agg (.cons (.same _) (.cons (.sl (e := 9) (by simp)) (.cons (.same _) .nil))), .inr ⟨h0, p, rfl, rfl⟩⟩; simp only [List.mem_singleton] at hz; exact ⟨_, _, _, hz⟩
abbrev TOp := Int × Str × Str × List Att
def doE (E : List Ent) (x : TOp) : List Ent × Int := if x.1 = 0 then addE E x.2.1 x.2.2.2 else if x.1 = 1 then putE E x.2.1 x.2.2.2 else if x.1 = 2 then deleteE E x.2.1 else if x.1 = 3 then moveE E x.2.1 x.2.2.1 else (E, 0)
def FitO (x : TOp) : Prop := List.length x.2.1 < 900000 ∧ List.length x.2.2.1 < 900000 ∧ Fit2 x.2.2.2
def shB (s : Str) : Bool := decide (List.length s ≤ 300)
def attB (t : Att) : Bool := shB t.1 && (decide (t.2.length ≤ 8) && t.2.all shB)
theorem all_false {α : Type} {f : α → Bool} {l : List α} {k : Nat} (h : k < l.length) (hx : f l[k] = false) : l.all f = false := by
  rw [List.all_eq_false]; exact ⟨l[k], gmm h, by rw [hx]; simp⟩
theorem take_all {α : Type} {f : α → Bool} {l : List α} {k : Nat} (h : k < l.length) : (l.take (k + 1)).all f = ((l.take k).all f && f l[k]) := by
  rw [take_s h, List.all_append]; simp
theorem FE.ins {E : List Ent} (h : FE E) {n : Str} {a : List Att} (ha : Fit2 a) : FE (insE (n, a) E) := fun e he => by
  rcases insE_mem.1 he with rfl | he
  · exact ha
  · exact h e he
theorem FE.add {E : List Ent} (h : FE E) (n : Str) {a : List Att} (ha : Fit2 a) : FE (addE E n a).1 := by
  unfold addE; repeat' split
  all_goals first | exact h | exact h.ins (sorted_fit2 ha)
theorem FE.put {E : List Ent} (h : FE E) (n : Str) {a : List Att} (ha : Fit2 a) : FE (putE E n a).1 := by
  unfold putE; split
  · exact h
  · exact FE.ins (fun e he => h e (List.mem_filter.1 he).1) (sorted_fit2 ha)
theorem FE.delete {E : List Ent} (h : FE E) (s : Str) : FE (deleteE E s).1 := by
  unfold deleteE; repeat' split
  · exact h
  · exact h
  · exact fun e he => h e (List.mem_filter.1 he).1
theorem FE.move {E : List Ent} (h : FE E) (fr to : Str) : FE (moveE E fr to).1 := by
  unfold moveE; split
  · intro e he; rcases List.mem_append.1 ((foldIns_perm _ _).mem_iff.1 he) with he | he
    · obtain ⟨x, hx, rfl⟩ := List.mem_map.1 he; exact h x (List.mem_filter.1 hx).1
    · exact h e (List.mem_filter.1 he).1
  · exact h
theorem FE.act {E : List Ent} (h : FE E) {x : TOp} (hx : FitO x) : FE (doE E x).1 := by
  unfold doE; repeat' split
  · exact h.add _ hx.2.2
  · exact h.put _ hx.2.2
  · exact h.delete _
  · exact h.move _ _
  · exact h
theorem TI.act {E : List Ent} (h : TI E) (x : TOp) : TI (doE E x).1 := by
  unfold doE; repeat' split
  · exact h.add _ _
  · exact h.put _ _
  · exact h.delete _
  · exact h.move _ _
  · exact h
theorem RootI.act {R : List Str} {E : List Ent} (h : TI E) (hr : RootI R E) (x : TOp) : RootI R (doE E x).1 := by
  unfold doE; repeat' split
  · exact hr.add h _ _
  · exact hr.put _ _
  · exact hr.delete _
  · exact hr.move h _ _
  · exact hr
theorem sortedL_nil : sortedL [] = [] := List.eq_nil_of_length_eq_zero (Nat.le_zero.1 (sorted_len []))
theorem fit2_nil : Fit2 [] := ⟨⟨by simp, by simp⟩, by simp [total]⟩
theorem newGo_ok : ∀ (l : List Str) (E : List Ent), TI E → FE E → (∀ e ∈ E, depthU e.1 = 1) → E.length + l.length ≤ 256 → (newGo E l).2 = 0 →
    TI (newGo E l).1 ∧ FE (newGo E l).1 ∧ (∀ e ∈ (newGo E l).1, depthU e.1 = 1) ∧ ((keysE (newGo E l).1).Perm (l ++ keysE E))
  | [], E, h1, h2, h3, _, _ => ⟨h1, h2, h3, by simp [newGo]⟩
  | s :: l, E, h1, h2, h3, h4, h5 => by
    rw [newGo] at h5 ⊢; split at h5
    · simp at h5
    rename_i hv
    rw [if_neg hv]; split at h5
    · simp at h5
    rename_i hh
    rw [if_neg hh]; have hv1 : validU s = true := by
      cases h : validU s with
      | true => rfl
      | false => exact absurd (.inl h) hv
    have hv2 : depthU s = 1 := by
      by_cases h : depthU s = 1
      · exact h
      · exact absurd (.inr h) hv
    have hp : properU s = true := by
      simp only [properU, Bool.and_eq_true, Bool.not_eq_true', decide_eq_false_iff_not]; exact ⟨fun e => by subst e; revert hv2; decide, hv1⟩
    simp only [List.length_cons] at h4; have hi := h1.ins (a := []) hp (by simpa using hh) (fun q => absurd hv2 q) (by omega); rw [sortedL_nil] at hi; have hlen : (insE (s, []) E).length = E.length + 1 := by rw [(insE_perm _ _).length_eq]; simp
    obtain ⟨r1, r2, r3, r4⟩ := newGo_ok l (insE (s, []) E) hi (h2.ins fit2_nil) (fun e he => by
      rcases insE_mem.1 he with rfl | he
      · exact hv2
      · exact h3 e he) (by omega) h5
    refine ⟨r1, r2, r3, r4.trans ?_⟩; have : (keysE (insE (s, []) E)).Perm (s :: keysE E) := (insE_perm (s, []) E).map _; exact (this.append_left l).trans List.perm_middle
theorem new_ok {R : List Str} (h : (newE R).2 = 0) : TI (newE R).1 ∧ FE (newE R).1 ∧ (∀ e ∈ (newE R).1, depthU e.1 = 1) ∧ ((keysE (newE R).1).Perm R) := by
  unfold newE at h ⊢; split at h
  · simp at h
  rename_i h0
  rw [if_neg h0]; split at h
  · simp at h
  rename_i h1
  rw [if_neg h1]; have := newGo_ok R [] ⟨by simp [OrdE, NS, keysE], by simp, by simp, by simp, by simp⟩ (by simp [FE]) (by simp) (by simp; omega) h; simpa [keysE] using this
theorem grpQ_fn (v : Str) (hv : List.length v < 1000000) : Ctr prog 118 ([.d (.str v)] ++ ([] : List D).map .d) (.d (.bool (decide (lower v = sGroup)))) := by
  refine fv (fun _ => false) func118 (by kernel_rfl) rfl rfl rfl rfl rfl ?_; have c1 := foldLower_fn v hv; generalize lower v = x at *; simp only [sGroup]; simp -implicitDefEqProofs; refine callK c1 ?_; simp -implicitDefEqProofs; try congr
def ixS (p : Str → Bool) : List Str → Nat → Int
  | [], _ => -1
  | x :: l, k => if p x = true then k else ixS p l (k + 1)
theorem ixS_drop {p : Str → Bool} {l : List Str} {k : Nat} (h : k < l.length) : ixS p (l.drop k) k = if p l[k] = true then (k : Int) else ixS p (l.drop (k + 1)) (k + 1) := by
  rw [List.drop_eq_getElem_cons h, ixS]
theorem ixS_any (p : Str → Bool) : ∀ (l : List Str) (k : Nat), decide (0 ≤ ixS p l k) = l.any p
  | [], k => by simp [ixS]
  | x :: l, k => by
    rw [ixS]; by_cases h : p x = true
    · rw [if_pos h]; have : (0 : Int) ≤ k := (by omega); simp [h, this]
    · rw [if_neg h, ixS_any p l (k + 1)]; simp [h]
def IxS (l : List Str) (g : FuncId) (p : Str → Bool) (V : Int) (k : Nat) (τ : St) : Prop := τ 0 = .d (strs l) ∧ τ 1 = .d (.clo g []) ∧ τ 7 = .d (.int .i64 l.length) ∧ τ 8 = .d (.int .i64 k) ∧ ixS p (l.drop k) k = V
theorem ixF_fn (g : FuncId) (p : Str → Bool) (l : List Str) (hl : l.length < 1000000) (hp : ∀ v ∈ l, Ctr prog g ([.d (.str v)] ++ ([] : List D).map .d) (.d (.bool (p v)))) : Ctr prog 166 [.d (strs l), .d (.clo g [])] (.d (.int .i64 (ixS p l 0))) := by
  refine fv (fun _ => false) func166 (by kernel_rfl) rfl rfl rfl rfl rfl ?_; obtain ⟨V, hV⟩ : ∃ V, ixS p l 0 = V := ⟨_, rfl⟩; rw [hV]; simp -implicitDefEqProofs [strs]; refine loopN l.length (IxS l g p V) ⟨by simp [strs], by simp, by simp, by simp, by simpa using hV⟩ ?_; rintro k τ hk ⟨g0, g1, g7, g8, hI⟩; by_cases hlt : k < l.length
  · have hlt' : (k : Int) < l.length := (by omega); rw [ixS_drop hlt] at hI; have c1 := hp l[k] (gmm hlt); generalize hx : l[k] = s at *; simp only [List.map_nil, List.append_nil] at c1; by_cases hq : p s = true
    · rw [if_pos hq] at hI; subst hI; rw [hq] at c1; simp -implicitDefEqProofs [g0, g1, g7, g8, strs, hlt, hlt', hx]; refine callK c1 ?_; simp -implicitDefEqProofs [g0, g1, g7, g8]
    · rw [if_neg hq] at hI; rw [Bool.not_eq_true] at hq; rw [hq] at c1; simp -implicitDefEqProofs [g0, g1, g7, g8, strs, hlt, hlt', hx]; refine callK c1 ?_; simp -implicitDefEqProofs [g0, g1, g7, g8]; (repeat refine ai (by first | omega | rfl) ?_); exact again hlt ⟨by simp [g0, strs], by simp [g1], by simp [g7], by simp, hI⟩
  · have hlt' : ¬ (k : Int) < l.length := (by omega); rw [List.drop_eq_nil_of_le (by omega), ixS] at hI; subst hI; simp -implicitDefEqProofs [g0, g1, g7, g8, hlt, hlt']
theorem anyF_fn (g : FuncId) (p : Str → Bool) (l : List Str) (hl : l.length < 1000000) (hp : ∀ v ∈ l, Ctr prog g ([.d (.str v)] ++ ([] : List D).map .d) (.d (.bool (p v)))) : Ctr prog 116 [.d (strs l), .d (.clo g [])] (.d (.bool (l.any p))) := by
  refine fv (fun _ => false) func116 (by kernel_rfl) rfl rfl rfl rfl rfl ?_; have c1 := ixF_fn g p l hl hp; rw [← ixS_any p l 0]; generalize ixS p l 0 = x at *; simp only [strs] at c1; simp -implicitDefEqProofs [strs]; refine callK c1 ?_; simp -implicitDefEqProofs
theorem getL_mem {A : List Att} {n v : Str} (h : v ∈ getL A n) : ∃ a ∈ A, v ∈ a.2 := by
  unfold getL at h; have key : ∀ (l : List Att), v ∈ findA (lower n) l → ∃ a ∈ l, v ∈ a.2 := by
    intro l
    induction l with
    | nil => intro h; simp [findA] at h
    | cons x l ih =>
      intro h; unfold findA at h; split at h
      · exact ⟨x, by simp, h⟩
      · obtain ⟨a, ha, hv⟩ := ih h; exact ⟨a, by simp [ha], hv⟩
  obtain ⟨a, ha, hv⟩ := key _ h; obtain ⟨b, hb, _, hv'⟩ := sorted_val ha hv; exact ⟨b, hb, hv'⟩
theorem getL_lt {A : List Att} (h : Fit2 A) (n : Str) : (getL A n).length < 500000 := by
  have h1 := total_sorted A; have key : ∀ (l : List Att), (findA (lower n) l).length ≤ total l := by
    intro l
    induction l with
    | nil => simp [findA]
    | cons x l ih =>
      unfold findA; have : total (x :: l) = x.2.length + total l := (by simp [total]); split <;> omega
  have := key (sortedL A); have := h.2; unfold getL; omega
theorem isGroup_fn (e : Ent) (he : FitR e.2) : Ctr prog 68 [.d (entD e)] (.d (.bool (isGrp e.2))) := by
  refine fv (fun _ => false) func68 (by kernel_rfl) rfl rfl rfl rfl rfl ?_; obtain ⟨n, A⟩ := e; have c1 := Ctr.asData (get_fn A sClass he.1 (by decide)); have hl : (getL A sClass).length < 500000 := getL_lt he.1 sClass; have c2 := anyF_fn 118 (fun v => decide (lower v = sGroup)) (getL A sClass) (by omega) (fun v hv => by
    obtain ⟨a, ha, hva⟩ := getL_mem hv; have := he.2 a ha v hva; exact grpQ_fn v (by omega))
  unfold isGrp; simp only; generalize (getL A sClass).any _ = b at *; generalize getL A sClass = l at *; simp only [atts, sClass] at c1; simp only [strs] at c2; simp -implicitDefEqProofs [entD, atts]; refine callK c1 ?_; simp -implicitDefEqProofs; refine callK c2 ?_; simp -implicitDefEqProofs
def seenM (S : List Str) : List (D × D) := S.map fun n => (.str n, .bool true)
def wk (q : Nat) (hd : Value) (g p u : Nat) (E : List Ent) (X : Option (List (D × Nat) × Nat)) (st : List Str × List Str) : List AV :=
  [.hb (va q) 106 (.agg [.raw (va p), .raw (.map (some g)), .raw hd]), .hs hd 9 (st.2.map .str), .hm (.map (some g)) 9 (seenM st.1) none, .hb (va p) 125 (.agg [.raw (.map (some u))]), .hm (.map (some u)) 9 (mapE E) X]
def VisP (q g p u : Nat) (E : List Ent) (X : Option (List (D × Nat) × Nat)) (st : List Str × List Str) (r : AV) (hs' : List AV) : Prop := r = .tup [] ∧ ∃ hd, hs' = wk q hd g p u E X st
theorem mapB : prog.underlying 104 = some (.map 9 4) := by kernel_rfl
theorem mget_seen (S : List Str) (n : Str) : mget (seenM S) (.str n) = if n ∈ S then some (.bool true) else none := by
  unfold mget seenM; rw [List.find?_map]; have : ((fun p : D × D => keyEq p.1 (.str n)) ∘ fun s : Str => ((.str s : D), (D.bool true))) = fun s : Str => decide (s = n) := by
    funext e; simp [keyEq]
  rw [this]; by_cases h : n ∈ S
  · rw [if_pos h]; have : (List.find? (fun s : Str => decide (s = n)) S).isSome = true := by
      rw [List.find?_isSome]; exact ⟨n, h, by simp⟩
    obtain ⟨x, hx⟩ := Option.isSome_iff_exists.1 this; rw [hx]; rfl
  · rw [if_neg h]; have : List.find? (fun s : Str => decide (s = n)) S = none := by
      rw [List.find?_eq_none]; intro x hx; simp only [decide_eq_true_eq]; exact fun e => h (e ▸ hx)
    rw [this]; rfl
theorem mset_seen {S : List Str} {n : Str} (h : n ∉ S) : List.Perm (seenM (n :: S)) (mset (seenM S) (.str n) (.bool true)) := by
  unfold mset; have : (seenM S).any (fun p => keyEq p.1 (.str n)) = false := by
    rw [List.any_eq_false]; rintro p hp; obtain ⟨x, hx, rfl⟩ := List.mem_map.1 hp; simp only [keyEq, decide_eq_true_eq]; intro e; exact h (by simpa using (show x = n by simpa using e) ▸ hx)
  rw [this]; simp only [Bool.false_eq_true, if_false]; exact (List.perm_append_singleton _ _).symm
def clR (v : Str) : Option Str := if (cleanU v).2 = 0 then some (cleanU v).1 else none
def lsR (vs : List Str) (k : Nat) : List Str := (vs.take k).filterMap clR
theorem lsR_some {vs : List Str} {k : Nat} (h : k < vs.length) {n : Str} (e : clR vs[k] = some n) : lsR vs (k + 1) = lsR vs k ++ [n] := by
  unfold lsR; rw [take_s h, List.filterMap_append]; simp [e]
theorem lsR_none {vs : List Str} {k : Nat} (h : k < vs.length) (e : clR vs[k] = none) : lsR vs (k + 1) = lsR vs k := by
  unfold lsR; rw [take_s h, List.filterMap_append]; simp [e]
theorem dfs_nil {E : List Ent} (hE : TI E) (f : Nat) (st : List Str × List Str) : dfs (ksE E) f [] st = st := by
  have : ksE E [] = none := by
    unfold ksE; rw [getE_none]; cases h : hasE E [] with
    | false => rfl
    | true =>
      obtain ⟨e, he, h1⟩ := List.mem_map.1 (hasE_iff.1 h); have := hE.proper e he; rw [h1] at this; simp [properU] at this
  cases f with
  | zero => rfl
  | succ f => rw [dfs, this]
theorem givO {P : Program} {g : FuncId} {args : List AV} {σ : St} {d : Nat} {K : St → Prop} (ks : List Nat) (b : Nat) {hs : List AV} {Post : AV → List AV → Prop} (h : CtrG P g args hs Post) (h1 : ks.map σ = hs) (h2 : hs.all isH = true) (h3 : ks.Nodup)
    (hk : ∀ r hs', Post r hs' → K (putH (put (takeH σ ks) d r) ks b hs')) : GivO P g args σ (some d) K :=
  ⟨ks, b, Post, fun k hk => by
    have : σ k ∈ hs := by rw [← h1]; exact List.mem_map.2 ⟨k, hk, rfl⟩
    exact List.all_eq_true.1 h2 _ this, h3, by rw [h1]; exact h, hk⟩
section
variable {q g p u : Nat} {E : List Ent} {X : Option (List (D × Nat) × Nat)}
structure WkB (E : List Ent) (f : Nat) (st : List Str × List Str) : Prop where
  fuel : unseen (keysE E) st.1 < f
  us : st.2.length ≤ st.1.length
  all : st.1.length + unseen (keysE E) st.1 ≤ E.length
theorem WkB.fold {f0 f : Nat} : ∀ (r : List Str) {st : List Str × List Str}, WkB E f st → WkB E f (r.foldl (fun st m => dfs (ksE E) f0 m st) st)
  | [], st, h => h
  | n :: r, st, h => by
    rw [List.foldl_cons]; refine WkB.fold r ?_; obtain ⟨h1, h2, h3⟩ := dfs_len (ksE E) (K := keysE E) (fun n hn => ksE_some hn) f0 n st; obtain ⟨g1, g2, g3⟩ := h; exact ⟨by omega, by omega, by omega⟩
def VisF (q g p u : Nat) (E : List Ent) (X : Option (List (D × Nat) × Nat)) (f : Nat) : Prop := ∀ (n : Str) (st : List Str × List Str) (hd : Value), WkB E f st →
  CtrG prog 69 [.d (.raw (va q)), .d (.str n)] (wk q hd g p u E X st) (VisP q g p u E X (dfs (ksE E) f n st))
def EaI (q g p u : Nat) (E : List Ent) (X : Option (List (D × Nat) × Nat)) (f : Nat) (vs : List Str) (st : List Str × List Str) (k : Nat) (τ : St) : Prop := ∃ hd, τ 1 = .d (.bnd 69 [.raw (va q)]) ∧ τ 8 = .d (strs vs) ∧ τ 9 = .d (.int .i64 vs.length) ∧ τ 10 = .d (.int .i64 k) ∧
  [1000000, 1000001, 1000002, 1000003, 1000004].map τ = wk q hd g p u E X ((lsR vs k).foldl (fun st m => dfs (ksE E) f m st) st)
theorem each_fn (hE : TI E) (f : Nat) (hv : VisF q g p u E X f) (vs : List Str) (hl : vs.length < 1000000) (hvs : ∀ v ∈ vs, List.length v < 900000) (st : List Str × List Str) (hd : Value) (hB : WkB E f st) :
    CtrG prog 119 [.d (strs vs), .d (.bnd 69 [.raw (va q)])] (wk q hd g p u E X st) (VisP q g p u E X ((lsR vs vs.length).foldl (fun st m => dfs (ksE E) f m st) st)) := by
  refine fn_of_vwpGN (rs := []) (fun i => i == 5000022) (by kernel_rfl) func119 (by kernel_rfl) rfl rfl (by simp) (nbl rfl) (by kernel_rfl) rfl ?_; simp -implicitDefEqProofs [initG, strs]; refine loopN vs.length (EaI q g p u E X f vs st) ⟨hd, by simp [initG], by simp [initG, strs], by simp [initG], by simp [initG], by simp [initG, wk, lsR]⟩ ?_; rintro k τ hk ⟨hd1, g1, g8, g9, g10, gW⟩; have hB1 := WkB.fold (f0 := f) (lsR vs k) hB; obtain ⟨st1, hst1⟩ : ∃ st1, (lsR vs k).foldl (fun st m => dfs (ksE E) f m st) st = st1 := ⟨_, rfl⟩; rw [hst1] at hB1 gW; by_cases hlt : k < vs.length
  · have hlt' : (k : Int) < vs.length := (by omega); have c1 := refclean_fn vs[k] (hvs _ (gmm hlt)); cases hr : refOf vs[k] with
    | some n =>
      have hc : clR vs[k] = some n := by
        unfold clR; unfold refOf at hr; split at hr
        · rename_i h; rw [if_pos h.1]; exact hr
        · cases hr
      have hm := lsR_some hlt hc; rw [refT_some hr] at c1; have hn := hv n st1 hd1 hB1; generalize hx : vs[k] = v at *; simp -implicitDefEqProofs [g1, g8, g9, g10, strs, hlt, hlt', hx]; refine callK c1 ?_; simp -implicitDefEqProofs [g1, g8, g9, g10]; refine givO [1000000, 1000001, 1000002, 1000003, 1000004] 1000000 hn (by simp only [wk, List.map_cons, List.map_nil, List.cons.injEq] at gW; simp [gW, wk]) rfl (by simp) ?_; rintro r hs' ⟨rfl, hd2, rfl⟩; simp -implicitDefEqProofs [g1, g8, g9, g10, takeH, putH, wk]; (repeat refine ai (by first | omega | rfl) ?_); exact again hlt ⟨hd2, by simp [g1], by simp [g8, strs], by simp [g9], by simp, by rw [hm, List.foldl_append, hst1]; simp [wk]⟩
    | none =>
      have hst2 : (lsR vs (k + 1)).foldl (fun st m => dfs (ksE E) f m st) st = st1 := by
        cases hc : clR vs[k] with
        | none => rw [lsR_none hlt hc, hst1]
        | some n =>
          have hn : n = [] := by
            unfold clR at hc; unfold refOf at hr; split at hc
            · rename_i h
              simp only [Option.some.injEq] at hc; by_cases h2 : (cleanU vs[k]).1 = []
              · rw [← hc, h2]
              · rw [if_pos ⟨h, h2⟩] at hr; cases hr
            · cases hc
          subst hn; rw [lsR_some hlt hc, List.foldl_append, hst1, List.foldl_cons, List.foldl_nil, dfs_nil hE]
      have e3 : (refT vs[k]).2 = false := (by simp [refT, hr]); generalize refT vs[k] = RT at *; obtain ⟨r1, r2⟩ := RT; simp only at e3; subst e3; generalize hx : vs[k] = v at *; simp -implicitDefEqProofs [g1, g8, g9, g10, strs, hlt, hlt', hx]; refine callK c1 ?_; simp -implicitDefEqProofs [g1, g8, g9, g10]; (repeat refine ai (by first | omega | rfl) ?_); simp only [wk, List.map_cons, List.map_nil, List.cons.injEq] at gW; exact again hlt ⟨hd1, by simp [g1], by simp [g8, strs], by simp [g9], by simp, by rw [hst2]; simp [gW, wk]⟩
  · have hlt' : ¬ (k : Int) < vs.length := (by omega); obtain rfl : k = vs.length := by omega
    rw [hst1]; simp only [wk, List.map_cons, List.map_nil, List.cons.injEq] at gW; simp -implicitDefEqProofs [g1, g8, g9, g10, hlt, hlt']; exact ⟨[], [1000000, 1000001, 1000002, 1000003, 1000004], by simp, by simp [gW, isH], by simp [resDs], rfl, hd1, by simp [gW, wk]⟩
def FR (E : List Ent) : Prop := ∀ e ∈ E, FitR e.2
theorem visit_fn (hE : TI E) (hF : FE E) (hR : FR E) : ∀ f, VisF q g p u E X f
  | 0 => fun n st hd hB => absurd hB.fuel (by omega)
  | f + 1 => fun n st hd hB => by
    have ih := visit_fn hE hF hR f; obtain ⟨S, U⟩ := st; have c1 := tget_fn p u E X n hF; have hlenE := hE.few; obtain ⟨b1, b2, b3⟩ := hB; simp only at b1 b2 b3; have hm := mget_seen S n; obtain ⟨R, hR'⟩ : ∃ R, dfs (ksE E) (f + 1) n (S, U) = R := ⟨_, rfl⟩; rw [hR']; rw [dfs] at hR'; refine fn_of_vwpGN (rs := []) (fun i => i == 5000012 || i == 5000048) (by kernel_rfl) func69 (by kernel_rfl) rfl rfl (by simp) (nbl rfl) (by kernel_rfl) rfl ?_; unfold getT at c1; cases hg : getE E n with
    | none =>
      have hk : ksE E n = none := (by simp [ksE, hg]); rw [hk] at hR'; simp only at hR'; subst hR'; rw [hg] at c1; simp only [entD, atts] at c1; simp -implicitDefEqProofs [initG, wk]; refine rawFd (e := 106) (ds := [.raw (va p), .raw (.map (some g)), .raw hd]) 1000000 (by simp [initG]) (by omega) (by simp) (by kernel_rfl) ?_; simp -implicitDefEqProofs [initG]; refine givB [1000003, 1000004] 1000003 c1 (by simp [initG, tr]) rfl (by simp) ?_; rintro r hs' ⟨rfl, rfl⟩; simp -implicitDefEqProofs [initG, takeH, putH, tr]; exact ⟨[], [1000000, 1000001, 1000002, 1000003, 1000004], by simp, by simp [initG, isH], by simp [resDs], rfl, hd, by simp [initG, wk]⟩
    | some a =>
      rw [hg] at c1; obtain ⟨a', ha', hin⟩ := getE_some (E := E) (s := n) (by rw [getE_has, hg]; rfl); rw [hg] at ha'; cases ha'
      have hnor := hE.normal _ hin; simp only at hnor c1; rw [hnor] at c1; have hfa := hR _ hin; simp only [entD, atts] at c1; by_cases hs : n ∈ S
      · rw [if_pos hs] at hm; have hk : (dfs (ksE E) (f + 1) n (S, U)) = (S, U) := by
          rw [dfs]; cases ksE E n with
          | none => rfl
          | some k => simp only [if_pos hs]
        have hRe : R = (S, U) := by rw [← hk, dfs, hR']
        subst hRe; clear hR' hk; simp -implicitDefEqProofs [initG, wk]; refine rawFd (e := 106) (ds := [.raw (va p), .raw (.map (some g)), .raw hd]) 1000000 (by simp [initG]) (by omega) (by simp) (by kernel_rfl) ?_; simp -implicitDefEqProofs [initG]; refine givB [1000003, 1000004] 1000003 c1 (by simp [initG, tr]) rfl (by simp) ?_; rintro r hs' ⟨rfl, rfl⟩; simp -implicitDefEqProofs [initG, takeH, putH, tr]; refine rawFd (e := 106) (ds := [.raw (va p), .raw (.map (some g)), .raw hd]) 1000000 (by simp [initG]) (by omega) (by simp) (by kernel_rfl) ?_; simp -implicitDefEqProofs [initG]; refine lookK (m := seenM S) (E := none) 1000002 (by omega) mapB (by simp [initG]) (fit_str n) Tryz.zd_4 hm ?_; simp -implicitDefEqProofs [initG]; exact ⟨[], [1000000, 1000001, 1000002, 1000003, 1000004], by simp, by simp [initG, isH], by simp [resDs], rfl, hd, by simp [initG, wk]⟩
      · rw [if_neg hs] at hm; have hset := mset_seen hs; have c2 := isGroup_fn (n, a) hfa; simp only [entD, atts] at c2; have hu := unseen_lt (K := keysE E) (hasE_iff.1 (by rw [getE_has, hg]; rfl)) hs; cases hgr : isGrp a with
        | false =>
          have hk : ksE E n = some none := (by simp [ksE, hg, hgr]); rw [hk] at hR'; simp only [if_neg hs] at hR'; subst hR'; rw [hgr] at c2; simp -implicitDefEqProofs [initG, wk]; refine rawFd (e := 106) (ds := [.raw (va p), .raw (.map (some g)), .raw hd]) 1000000 (by simp [initG]) (by omega) (by simp) (by kernel_rfl) ?_; simp -implicitDefEqProofs [initG]; refine givB [1000003, 1000004] 1000003 c1 (by simp [initG, tr]) rfl (by simp) ?_; rintro r hs' ⟨rfl, rfl⟩; simp -implicitDefEqProofs [initG, takeH, putH, tr]; refine rawFd (e := 106) (ds := [.raw (va p), .raw (.map (some g)), .raw hd]) 1000000 (by simp [initG]) (by omega) (by simp) (by kernel_rfl) ?_; simp -implicitDefEqProofs [initG]; refine lookK (m := seenM S) (E := none) 1000002 (by omega) mapB (by simp [initG]) (fit_str n) Tryz.zd_4 hm ?_; simp -implicitDefEqProofs [initG]; refine rawFd (e := 106) (ds := [.raw (va p), .raw (.map (some g)), .raw hd]) 1000000 (by simp [initG]) (by omega) (by simp) (by kernel_rfl) ?_; simp -implicitDefEqProofs [initG]; refine updK (E := none) (m := seenM S) 1000002 mapB (by simp [initG]) (fit_str n) (seenM (n :: S)) hset ?_; simp -implicitDefEqProofs [initG]; refine callK c2 ?_; simp -implicitDefEqProofs [initG]; refine rawFd (e := 106) (ds := [.raw (va p), .raw (.map (some g)), .raw hd]) 1000000 (by simp [initG]) (by omega) (by simp) (by kernel_rfl) ?_; simp -implicitDefEqProofs [initG]; refine appK (l := U.map .str) 1000001 (by simp [initG]) (by simp) (by simp; omega) (by simp; omega) (fun A c2 => ?_); simp -implicitDefEqProofs [initG]; refine rawFd (e := 106) (ds := [.raw (va p), .raw (.map (some g)), .raw hd]) 1000000 (by simp [initG]) (by omega) (by simp) (by kernel_rfl) ?_; simp -implicitDefEqProofs [initG]; exact ⟨[], [1000000, 1000001, 1000002, 1000003, 1000004], by simp, by simp [initG, isH], by simp [resDs], rfl, .slice A (U.length + 1) c2, by simp [initG, wk]⟩
        | true =>
          have hk : ksE E n = some (some (listedR a)) := (by simp [ksE, hg, hgr]); rw [hk] at hR'; simp only [if_neg hs] at hR'; rw [hgr] at c2; have hl0 : (getL a sMember).length < 500000 := getL_lt hfa.1 sMember; have c3 := Ctr.asData (get_fn a sMember hfa.1 (by decide)); have c4 := each_fn hE f ih (getL a sMember) (by omega) (fun v hv => by
            obtain ⟨b, hb, hvb⟩ := getL_mem hv; exact hfa.2 b hb v hvb) (n :: S, U) hd ⟨by simp only; omega, by simp only [List.length_cons]; omega, by simp only [List.length_cons]; omega⟩
          have hls : lsR (getL a sMember) (getL a sMember).length = listedR a := by
            unfold lsR listedR clR; rw [List.take_length]
          rw [hls, hR'] at c4; generalize getL a sMember = vs at *; simp only [atts, sMember] at c3; simp only [strs, wk] at c4; clear hR' hk ih; simp -implicitDefEqProofs [initG, wk]; refine rawFd (e := 106) (ds := [.raw (va p), .raw (.map (some g)), .raw hd]) 1000000 (by simp [initG]) (by omega) (by simp) (by kernel_rfl) ?_; simp -implicitDefEqProofs [initG]; refine givB [1000003, 1000004] 1000003 c1 (by simp [initG, tr]) rfl (by simp) ?_; rintro r hs' ⟨rfl, rfl⟩; simp -implicitDefEqProofs [initG, takeH, putH, tr]; refine rawFd (e := 106) (ds := [.raw (va p), .raw (.map (some g)), .raw hd]) 1000000 (by simp [initG]) (by omega) (by simp) (by kernel_rfl) ?_; simp -implicitDefEqProofs [initG]; refine lookK (m := seenM S) (E := none) 1000002 (by omega) mapB (by simp [initG]) (fit_str n) Tryz.zd_4 hm ?_; simp -implicitDefEqProofs [initG]; refine rawFd (e := 106) (ds := [.raw (va p), .raw (.map (some g)), .raw hd]) 1000000 (by simp [initG]) (by omega) (by simp) (by kernel_rfl) ?_; simp -implicitDefEqProofs [initG]; refine updK (E := none) (m := seenM S) 1000002 mapB (by simp [initG]) (fit_str n) (seenM (n :: S)) hset ?_; simp -implicitDefEqProofs [initG]; refine callK c2 ?_; simp -implicitDefEqProofs [initG]; refine callK c3 ?_; simp -implicitDefEqProofs [initG]; refine givB [1000000, 1000001, 1000002, 1000003, 1000004] 1000000 c4 (by simp [initG]) rfl (by simp) ?_; rintro r hs' ⟨rfl, hd2, rfl⟩; simp -implicitDefEqProofs [initG, takeH, putH, wk]; exact ⟨[], [1000000, 1000001, 1000002, 1000003, 1000004], by simp, by simp [initG, isH], by simp [resDs], rfl, hd2, by simp [initG, wk]⟩
end
theorem apartB_none : ∀ (l1 l2 : List (Option Nat)), apartB (l1 ++ l2) → apartB (l1 ++ none :: l2)
  | [], l2, h => ⟨fun g hg => (by cases hg), h⟩
  | x :: l1, l2, h => ⟨fun g hg => by
      have := h.1 g hg; simp only [List.append_eq, List.mem_append, List.mem_cons] at this ⊢; rintro (q | q | q)
      · exact this (.inl q)
      · cases q
      · exact this (.inr q), apartB_none l1 l2 h.2⟩
theorem CtrG.nilH {P : Program} {f : FuncId} {args : List AV} (hs1 hs2 : List AV) {e : TypeId} {Post : AV → List AV → Prop} (hi : (P.info? (ety e)).isSome = true)
    (h : CtrG P f args (hs1 ++ .hs (.slice none 0 0) e [] :: hs2) Post) : CtrG P f args (hs1 ++ hs2) Post := by
  refine ⟨h.1, fun w L vals hlok hgl hrc hrh hap => ?_⟩; have hnil : RH P w L (.hs (.slice none 0 0) e []) := by
    obtain ⟨i, hi⟩ := Option.isSome_iff_exists.1 hi; refine ⟨rfl, ?_⟩; refine ⟨[], i.size, by rw [hi]; rfl, by simp [RepL], by simp, ⟨by simp, .inl ⟨rfl, rfl⟩⟩, fun g hg => by simp [hblk, Value.ownBlock] at hg⟩
  have hb : hblk (.hs (.slice none 0 0) e []) = none := rfl; have hm : ∀ b, some b ∈ (hs1 ++ .hs (.slice none 0 0) e [] :: hs2).map hblk ↔ some b ∈ (hs1 ++ hs2).map hblk := fun b => by
    simp only [List.map_append, List.map_cons, List.mem_append, List.mem_cons, hb]; constructor
    · rintro (q | q | q)
      · exact .inl q
      · cases q
      · exact .inr q
    · rintro (q | q)
      · exact .inl q
      · exact .inr (.inr q)
  have hset : (fun b => some b ∈ (hs1 ++ .hs (.slice none 0 0) e [] :: hs2).map hblk) = fun b => some b ∈ (hs1 ++ hs2).map hblk := funext fun b => propext (hm b)
  have := h.2 w L vals hlok hgl hrc (fun x hx => by
    rcases List.mem_append.1 hx with hx | hx
    · exact hrh x (List.mem_append_left _ hx)
    · rcases List.mem_cons.1 hx with rfl | hx
      · exact hnil
      · exact hrh x (List.mem_append_right _ hx)) (by
    rw [List.map_append] at hap ⊢; exact apartB_none _ _ hap)
  refine this.mono ?_; rintro e' w' ⟨v, L', og, r, hs', h1, h2, h3, h4, h5, h6, h7, h8, h9⟩; rw [hset] at h2; exact ⟨v, L', og, r, hs', h1, h2, h3, fun b q hb hn => h4 b q hb (fun q => hn ((hm b).1 q)), fun g hg => ⟨(h5 g hg).1, (h5 g hg).2.imp id (hm g).1⟩, h6, h7, h8, h9⟩
theorem sdx106 : structDX prog true 106 = some [.nilp, .raw (.map none), .raw (.slice none 0 0)] := by kernel_rfl
def memT (E : List Ent) (n : Str) : List Str × Int := match membersU E n with
  | some l => (l, 0)
  | none => ([], 6)
theorem unseen_nil (K : List Str) : unseen K [] = K.length := by
  unfold unseen; rw [List.countP_eq_length]; simp
theorem wkB0 (E : List Ent) : WkB E (E.length + 1) ([], []) where
  fuel := by rw [unseen_nil]; simp [keysE]
  us := by simp
  all := by rw [unseen_nil]; simp [keysE]
theorem members_fn (p u : Nat) (E : List Ent) (X : Option (List (D × Nat) × Nat)) (hE : TI E) (hF : FE E) (hR : FR E) (hn : ∀ e ∈ E, List.length e.1 < 900000) (n : Str) :
    CtrG prog 25 [.d (.raw (va p)), .d (.str n)] (tr p u E X) (fun r hs' => r = .tup [.d (strs (memT E n).1), .d (.int .i64 (memT E n).2)] ∧ hs' = tr p u E X) := by
  refine fn_of_vwpGN (rs := [.tmp 4, .tmp 5]) (fun i => i == 5000012 || i == 1000024 || i == 1000025 || i == 5000028 || i == 3000033 || i == 13000037) (by kernel_rfl) func25 (by kernel_rfl) rfl rfl (by simp) (nbl rfl) (by kernel_rfl) rfl ?_; have c1 := tget_fn p u E X n hF; have hfew := hE.few; unfold getT at c1; obtain ⟨R, hR'⟩ : ∃ R, memT E n = R := ⟨_, rfl⟩; rw [hR']; unfold memT membersU at hR'; cases hg : getE E n with
  | none =>
    have hk : ksE E n = none := (by simp [ksE, hg]); rw [hk] at hR'; simp only at hR'; subst hR'; rw [hg] at c1; simp only [entD, atts] at c1; simp -implicitDefEqProofs [initG, tr]; refine givB [1000000, 1000001] 1000000 c1 (by simp [initG, tr]) rfl (by simp) ?_; rintro r hs' ⟨rfl, rfl⟩; simp -implicitDefEqProofs [initG, takeH, putH, tr, strs]; exact ⟨[.d (strs []), .d (.int .i64 6)], [1000000, 1000001], by simp, by simp [initG, isH], by simp [resDs, resD, strs], rfl, by simp [initG, tr]⟩
  | some a =>
    rw [hg] at c1; obtain ⟨a', ha', hin⟩ := getE_some (E := E) (s := n) (by rw [getE_has, hg]; rfl); rw [hg] at ha'; cases ha'
    have hnor := hE.normal _ hin; simp only at hnor c1; rw [hnor] at c1; have hfa := hR _ hin; have c2 := isGroup_fn (n, a) hfa; simp only [entD, atts] at c1 c2; cases hgr : isGrp a with
    | false =>
      have hk : ksE E n = some none := (by simp [ksE, hg, hgr]); rw [hk] at hR'; simp only at hR'; subst hR'; rw [hgr] at c2; simp -implicitDefEqProofs [initG, tr]; refine givB [1000000, 1000001] 1000000 c1 (by simp [initG, tr]) rfl (by simp) ?_; rintro r hs' ⟨rfl, rfl⟩; simp -implicitDefEqProofs [initG, takeH, putH, tr, strs]; refine callK c2 ?_; simp -implicitDefEqProofs [initG]; exact ⟨[.d (strs []), .d (.int .i64 6)], [1000000, 1000001], by simp, by simp [initG, isH], by simp [resDs, resD, strs], rfl, by simp [initG, tr]⟩
    | true =>
      have hk : ksE E n = some (some (listedR a)) := (by simp [ksE, hg, hgr]); rw [hk] at hR'; simp only at hR'; rw [hgr] at c2; obtain ⟨hnd, hmm⟩ := dfsU_mem (ksE E) (K := keysE E) (fun n hn => ksE_some hn) hk; have hM := memU_ok (ksE E) (K := keysE E) (fun n hn => ksE_some hn) hk; have hB := WkB.fold (f0 := E.length + 1) [n] (wkB0 E); have hlen : (keysE E).length = E.length := (by simp [keysE]); have hd0 : dfsU (ksE E) (keysE E) n = (dfs (ksE E) (E.length + 1) n ([], [])).2 := by unfold dfsU; rw [hlen]
      have hperm : (dfs (ksE E) (E.length + 1) n ([], [])).2.Perm (memU (ksE E) (keysE E) n) := by
        rw [← hd0]; exact (sortL_perm swo_names _).1.symm
      have hul : (dfs (ksE E) (E.length + 1) n ([], [])).2.length < 1000000 := by
        have h1 := hB.us; have h2 := hB.all; simp only [List.foldl_cons, List.foldl_nil] at h1 h2; omega
      have c5 := sortNames_fn _ _ hM.ns hperm hul (fun s hs => by
        have h1 := (hM.mem s).1 hs; obtain ⟨e, he, rfl⟩ := List.mem_map.1 (ksE_some (E := E) (n := s) (by rw [h1.1]; rfl)); exact hn e he)
      have c4 := fun q g => CtrG.nilH (P := prog) [.hb (va q) 106 (.agg [.raw (va p), .raw (.map (some g)), .raw (.slice none 0 0)])] [.hm (.map (some g)) 9 [] none, .hb (va p) 125 (.agg [.raw (.map (some u))]), .hm (.map (some u)) 9 (mapE E) X] (e := 9) (by kernel_rfl) (visit_fn (q := q) (g := g) (p := p) (u := u) (X := X) hE hF hR (E.length + 1) n ([], []) (.slice none 0 0) (wkB0 E))
      generalize memU (ksE E) (keysE E) n = M at *; obtain ⟨⟨S1, U1⟩, hst1⟩ : ∃ st1, dfs (ksE E) (E.length + 1) n ([], []) = st1 := ⟨_, rfl⟩; simp only [hst1] at c4 c5; clear hd0 hperm hul hB hM hmm hnd hst1; subst hR'; simp -implicitDefEqProofs [initG, tr]; refine givB [1000000, 1000001] 1000000 c1 (by simp [initG, tr]) rfl (by simp) ?_; rintro r hs' ⟨rfl, rfl⟩; simp -implicitDefEqProofs [initG, takeH, putH, tr, strs]; refine callK c2 ?_; simp -implicitDefEqProofs [initG]; refine makeK 9 1000004 (by simp [initG]) (fun g => ?_); simp -implicitDefEqProofs [initG, sdx106]; refine ⟨1000002, by simp [initG], fun q => ?_⟩; simp -implicitDefEqProofs [initG]; refine givB [1000002, 1000004, 1000000, 1000001] 1000010 (c4 q g) (by simp [initG, va]) rfl (by simp) ?_; rintro r hs' ⟨rfl, hd, rfl⟩; simp -implicitDefEqProofs [initG, takeH, putH, wk]; refine rawFd (e := 106) (ds := [.raw (va p), .raw (.map (some g)), .raw hd]) 1000002 (by simp [va]) (by omega) (by simp) (by kernel_rfl) ?_; simp -implicitDefEqProofs; refine inKr 1000004 (e := 9) (l := U1.map .str) (by simp) c5 ?_; simp -implicitDefEqProofs; refine rawFd (e := 106) (ds := [.raw (va p), .raw (.map (some g)), .raw hd]) 1000002 (by simp [va]) (by omega) (by simp) (by kernel_rfl) ?_; simp -implicitDefEqProofs; refine frzL (y' := .sl (M.map .str)) [1000004] (by simp [isH]) (by simp) (.sl (e := 9) (by simp)) ?_; simp -implicitDefEqProofs [takeH]; exact ⟨[.d (strs M), .d (.int .i64 0)], [1000001, 1000010], by simp, by simp [initG, isH], by simp [resDs, resD, strs], rfl, by simp [tr]⟩
def sO : Str := [111, 61, 120]
def sP : Str := [111, 117, 61, 112, 44, 111, 61, 120]
def sA : Str := [99, 110, 61, 97, 44, 111, 117, 61, 112, 44, 111, 61, 120]
def sB : Str := [99, 110, 61, 98, 44, 99, 110, 61, 99, 44, 111, 61, 120]
def aA : List Att := [([67, 78], [[97]])]
def W1 : List Ent := [(sO, [])]
def W2 : List Ent := [(sO, []), (sP, [])]
def W3 : List Ent := [(sO, []), (sP, []), (sA, [([99, 110], [[97]])])]
theorem w1 : newE [sO] = (W1, 0) := by kernel_rfl
theorem w1' : newE [sO, sO] = ([], 7) := by kernel_rfl
theorem w2 : addE W1 sP [] = (W2, 0) := by kernel_rfl
theorem w3 : addE W2 sA aA = (W3, 0) := by kernel_rfl
theorem w3' : addE W3 sB [] = (W3, 6) := by kernel_rfl
theorem w4 : deleteE W3 sP = (W3, 12) := by kernel_rfl
theorem sub_all (E : List Ent) : subtreeE E [] = E := by
  simp [subtreeE, subE]
theorem memT_len {E : List Ent} (hE : TI E) (n : Str) : (memT E n).1.length ≤ E.length := by
  unfold memT membersU; cases hk : ksE E n with
  | none => simp
  | some k =>
    cases k with
    | none => simp
    | some l =>
      simp only; have hM := memU_ok (ksE E) (K := keysE E) (fun n hn => ksE_some hn) hk; have hsub : ∀ x ∈ memU (ksE E) (keysE E) n, x ∈ keysE E := fun x hx => ksE_some (by rw [((hM.mem x).1 hx).1]; rfl)
      have := Seen.le (K := keysE E) (ss := memU (ksE E) (keysE E) n) (seen := _) ⟨rfl, hM.ns.nodup, hsub⟩ (NS.nodup hE.ord); simpa [keysE] using this
def memQ (E : List Ent) (u g : Str) : Bool := match membersU E g with
  | some l => decide (u ∈ l)
  | none => false
theorem memQ_eq (E : List Ent) (u g : Str) : memQ E u g = (decide ((memT E g).2 = 0) && decide (u ∈ (memT E g).1)) := by
  unfold memQ memT; cases membersU E g <;> simp
def grpP (E : List Ent) (u : Str) (k : Nat) : List Str := ((keysE E).take k).filter (memQ E u)
theorem grpP_next {E : List Ent} {u : Str} {k : Nat} (h : k < E.length) : grpP E u (k + 1) = grpP E u k ++ (if memQ E u E[k].1 = true then [E[k].1] else []) := by
  unfold grpP; have h' : k < (keysE E).length := (by simpa [keysE] using h); have e : (keysE E)[k] = E[k].1 := (by simp [keysE]); rw [take_s h', filter_snoc, e]
theorem grpP_len (E : List Ent) (u : Str) (k : Nat) : (grpP E u k).length ≤ k := by
  unfold grpP; exact Nat.le_trans (List.length_filter_le _ _) (by simp; omega)
theorem grpP_all (E : List Ent) (u : Str) : grpP E u E.length = groupsU E u := by
  unfold grpP groupsU; rw [ttl (by simp [keysE])]; rfl
def GuI (p u : Nat) (E : List Ent) (s : Str) (k : Nat) (τ : St) : Prop := ∃ X, τ 0 = .d (.raw (va p)) ∧ τ 1 = .d (.str s) ∧ τ 11 = .own true 28 (E.map entD) ∧ τ 12 = .d (.int .i64 E.length) ∧ τ 13 = .d (.int .i64 k) ∧ τ 5 = .own false 9 ((grpP E s k).map .str) ∧
  τ 1000000 = .hb (va p) 125 (.agg [.raw (.map (some u))]) ∧ τ 1000001 = .hm (.map (some u)) 9 (mapE E) X
section
variable (p u : Nat) (E : List Ent) (X : Option (List (D × Nat) × Nat)) (hE : TI E) (hF : FE E) (hR : FR E) (hn : ∀ e ∈ E, List.length e.1 < 900000)
include hE hF hR hn
theorem groups_fn (s : Str) : CtrG prog 27 [.d (.raw (va p)), .d (.str s)] (tr p u E X) (fun r hs' => r = .d (strs (groupsU E s)) ∧ TR p u E hs') := by
  refine fn_of_vwpGN (rs := [.tmp 4]) (fun i => i == 5000011 || i == 5000021) (by kernel_rfl) func27 (by kernel_rfl) rfl rfl (by simp) (nbl rfl) (by kernel_rfl) rfl ?_; have c1 := tsubtree_fn p u E X hE hF [] (by simp); rw [sub_all] at c1; have hfew := hE.few; simp -implicitDefEqProofs [initG, tr]; refine givB [1000000, 1000001] 1000000 c1 (by simp [initG, tr]) rfl (by simp) ?_; rintro r hs' ⟨rfl, X1, rfl⟩; simp -implicitDefEqProofs [initG, takeH, putH, tr]; refine loopN E.length (GuI p u E s) ⟨X1, by simp [initG], by simp [initG], by simp [initG], by simp [initG], by simp [initG], by simp [initG, grpP], by simp, by simp⟩ ?_; clear c1 X1; rintro k τ hk ⟨X1, g0, g1, g11, g12, g13, g5, gA, gB⟩; have hL := grpP_len E s k; by_cases hlt : k < E.length
  · have hlt' : (k : Int) < E.length := (by omega); have hN := grpP_next (u := s) hlt; have hml := memT_len hE E[k].1; have c2 := members_fn p u E X1 hE hF hR hn E[k].1; have c3 := contains_fn (memT E E[k].1).1 s (by omega); rw [memQ_eq] at hN; generalize hx : E[k] = e at *; obtain ⟨nm, A⟩ := e; try simp only at hN hml c2 c3
    generalize memT E nm = M0 at *; obtain ⟨l, f⟩ := M0; try simp only at hN hml c2 c3
    simp only [strs] at c2 c3; generalize grpP E s k = G at *; generalize hG2 : grpP E s (k + 1) = G2 at *; simp -implicitDefEqProofs [g0, g1, g11, g12, g13, g5, gA, gB, hlt, hlt', hx, entD, atts]; refine givB [1000000, 1000001] 1000000 c2 (by simp [gA, gB, tr]) rfl (by simp) ?_; rintro r hs' ⟨rfl, rfl⟩; by_cases h0 : f = 0
    · by_cases h1 : s ∈ l
      · rw [decide_eq_true h1] at c3; simp only [h0, h1, decide_true, Bool.and_true, if_true] at hN; simp -implicitDefEqProofs [g0, g1, g11, g12, g13, g5, gA, gB, takeH, putH, tr, h0]; refine callK c3 ?_; simp -implicitDefEqProofs [g0, g1, g11, g12, g13, g5, gA, gB]; (repeat refine ai (by first | omega | rfl) ?_); exact again hlt ⟨X1, by simp [g0], by simp [g1], by simp [g11], by simp [g12], by simp, by simp [hG2, hN], by simp, by simp⟩
      · rw [decide_eq_false h1] at c3; simp only [h0, h1, decide_true, decide_false, Bool.and_false, Bool.false_eq_true, if_false, List.append_nil] at hN; simp -implicitDefEqProofs [g0, g1, g11, g12, g13, g5, gA, gB, takeH, putH, tr, h0]; refine callK c3 ?_; simp -implicitDefEqProofs [g0, g1, g11, g12, g13, g5, gA, gB]; (repeat refine ai (by first | omega | rfl) ?_); exact again hlt ⟨X1, by simp [g0], by simp [g1], by simp [g11], by simp [g12], by simp, by simp [g5, hG2, hN], by simp, by simp⟩
    · simp only [h0, decide_false, Bool.false_and, Bool.false_eq_true, if_false, List.append_nil] at hN; simp -implicitDefEqProofs [g0, g1, g11, g12, g13, g5, gA, gB, takeH, putH, tr, h0]; (repeat refine ai (by first | omega | rfl) ?_); exact again hlt ⟨X1, by simp [g0], by simp [g1], by simp [g11], by simp [g12], by simp, by simp [g5, hG2, hN], by simp, by simp⟩
  · have hlt' : ¬ (k : Int) < E.length := (by omega); obtain rfl : k = E.length := by omega
    rw [grpP_all] at g5; simp -implicitDefEqProofs [g0, g1, g11, g12, g13, g5, gA, gB, hlt, hlt']; exact ⟨[.d (strs (groupsU E s))], [1000000, 1000001], by simp, by simp [gA, gB, isH], by simp [resDs, resD, strs], rfl, X1, by simp [gA, gB, tr]⟩
end
theorem refsU_len (s : Sch) {A : List Att} (h : FitR A) : (refsU s A).length < 500000 := by
  have h1 := insAll_len (refsL s A) []; have h2 := refsP_len s (sortedL A) (sortedL A).length (Nat.le_refl _); have h3 := total_sorted A; have h4 := h.1.2; have h5 : refsL s A = refsP s (sortedL A) (sortedL A).length := by unfold refsL refsP; rw [List.take_length]
  rw [List.take_length] at h2; unfold refsU; rw [h5] at h1 ⊢; simp only [List.length_nil] at h1; omega
def brkE (s : Sch) (E : List Ent) (e : Ent) (l : List Str) : List Pair := (l.filter fun n => !hasE E n).map fun n => (e.1, n)
def brkP (s : Sch) (E : List Ent) (k : Nat) : List Pair := (E.take k).flatMap fun e => brkE s E e (refsU s e.2)
theorem brkP_next {s : Sch} {E : List Ent} {k : Nat} (h : k < E.length) : brkP s E (k + 1) = brkP s E k ++ brkE s E E[k] (refsU s E[k].2) := by
  unfold brkP; rw [take_s h, List.flatMap_append]; simp only [List.flatMap_cons, List.flatMap_nil, List.append_nil]
theorem brkP_all (s : Sch) (E : List Ent) : brkP s E E.length = brokenU s E := by
  unfold brkP brokenU; rw [List.take_length]; rfl
theorem brkE_next {s : Sch} {E : List Ent} {e : Ent} {l : List Str} {j : Nat} (h : j < l.length) : brkE s E e (l.take (j + 1)) = brkE s E e (l.take j) ++ (if hasE E l[j] = true then [] else [(e.1, l[j])]) := by
  unfold brkE; rw [take_s h, List.filter_append]; by_cases hb : hasE E l[j] = true <;> simp [hb]
theorem brkE_len (s : Sch) (E : List Ent) (e : Ent) (l : List Str) : (brkE s E e l).length ≤ l.length := by
  unfold brkE; rw [List.length_map]; exact List.length_filter_le _ _
theorem brkP_len {s : Sch} {E : List Ent} (hR : FR E) : ∀ k, k ≤ E.length → (brkP s E k).length ≤ k * 500000
  | 0, _ => by simp [brkP]
  | k + 1, h => by
    have ih := brkP_len (s := s) hR k (by omega); rw [brkP_next (show k < E.length by omega), List.length_append]; have h1 := brkE_len s E E[k] (refsU s E[k].2); have h2 := refsU_len s (hR _ (gmm (show k < E.length by omega))); omega
def BkO (p u : Nat) (s : Sch) (E : List Ent) (k : Nat) (τ : St) : Prop := ∃ X, τ 2 = .box (schD s) ∧ τ 6 = .d (.bnd 31 [.raw (va p)]) ∧ τ 16 = .own true 28 (E.map entD) ∧ τ 17 = .d (.int .i64 E.length) ∧ τ 18 = .d (.int .i64 k) ∧ τ 5 = .own false 75 ((brkP s E k).map pairD) ∧
  τ 1000000 = .hb (va p) 125 (.agg [.raw (.map (some u))]) ∧ τ 1000001 = .hm (.map (some u)) 9 (mapE E) X
def BkJ (p u : Nat) (X : Option (List (D × Nat) × Nat)) (s : Sch) (E : List Ent) (k : Nat) (e : Ent) (l : List Str) (B : List Pair) (j : Nat) (τ : St) : Prop := τ 2 = .box (schD s) ∧ τ 6 = .d (.bnd 31 [.raw (va p)]) ∧ τ 8 = .box (entD e) ∧ τ 16 = .own true 28 (E.map entD) ∧ τ 17 = .d (.int .i64 E.length) ∧ τ 18 = .d (.int .i64 k) ∧
  τ 24 = .d (strs l) ∧ τ 25 = .d (.int .i64 l.length) ∧ τ 26 = .d (.int .i64 j) ∧ τ 5 = .own false 75 ((B ++ brkE s E e (l.take j)).map pairD) ∧
  τ 1000000 = .hb (va p) 125 (.agg [.raw (.map (some u))]) ∧ τ 1000001 = .hm (.map (some u)) 9 (mapE E) X
theorem getT_has (E : List Ent) (n : Str) : (getT E n).2 = hasE E n := by
  unfold getT; rw [getE_has]; cases getE E n <;> rfl
section
variable (p u : Nat) (E : List Ent) (X : Option (List (D × Nat) × Nat)) (hE : TI E) (hF : FE E) (hR : FR E) (s : Sch) (hs : FitSch s)
include hE hF hR hs
theorem broken_fn : CtrG prog 21 [.d (schD s), .d (.raw (va p))] (tr p u E X) (fun r hs' => r = .d (pairs (brokenU s E)) ∧ TR p u E hs') := by
  refine fn_of_vwpGN (rs := [.tmp 4]) (fun i => i == 5000016 || i == 5000033) (by kernel_rfl) func21 (by kernel_rfl) rfl rfl (by simp) (nbl rfl) (by kernel_rfl) rfl ?_; have c1 := tsubtree_fn p u E X hE hF [] (by simp); rw [sub_all] at c1; have hfew := hE.few; have hsd : schD s = .agg [.sl (s.1.map tyD), .sl (s.2.map clD)] := rfl; have hpw : ∀ q : Pair, width (pairD q) = 2 := fun _ => rfl
  simp -implicitDefEqProofs [initG, tr, hsd]; refine givB [1000000, 1000001] 1000000 c1 (by simp [initG, tr]) rfl (by simp) ?_; rintro r hs' ⟨rfl, X1, rfl⟩; simp -implicitDefEqProofs [initG, takeH, putH, tr]; refine loopN E.length (BkO p u s E) ⟨X1, by simp [initG, hsd], by simp [initG], by simp [initG], by simp [initG], by simp [initG], by simp [initG, brkP], by simp, by simp⟩ ?_; clear c1 X1; rintro k τ hk ⟨X1, g2, g6, g16, g17, g18, g5, gA, gB⟩; rw [hsd] at g2; have hL := brkP_len (s := s) hR k hk; by_cases hlt : k < E.length
  · have hlt' : (k : Int) < E.length := (by omega); have hN := brkP_next (s := s) hlt; have hfe := hR _ (gmm hlt); have hrl := refsU_len s hfe; have c2 := refs_fn s E[k] hs hfe; generalize hx : E[k] = e at *; obtain ⟨nm, A⟩ := e; try simp only at hN hrl c2
    generalize refsU s A = l at *; rw [hsd] at c2; simp only [entD, atts, strs] at c2; generalize brkP s E k = B at *; generalize hB2 : brkP s E (k + 1) = B2 at *; simp -implicitDefEqProofs [g2, g6, g16, g17, g18, g5, gA, gB, hlt, hlt', hx, entD, atts]; refine callK c2 ?_; simp -implicitDefEqProofs [g2, g6, g16, g17, g18, g5, gA, gB]; refine loopN l.length (BkJ p u X1 s E k (nm, A) l B) ⟨by simp [g2, hsd], by simp [g6], by simp [entD, atts], by simp [g16], by simp [g17], by simp [g18], by simp [strs], by simp, by simp, by simp [g5, brkE], by simp [gA], by simp [gB]⟩ ?_; rintro j τ' hj ⟨q2, q6, q8, q16, q17, q18, q24, q25, q26, q5, qA, qB⟩; rw [hsd] at q2; simp only [entD, atts] at q8; have hbl := brkE_len s E (nm, A) (l.take j); rw [List.length_take] at hbl; by_cases hjt : j < l.length
    · have hjt' : (j : Int) < l.length := (by omega); have hM := brkE_next (s := s) (E := E) (e := (nm, A)) hjt; have c3 := tget_fn p u E X1 l[j] hF; have hgt := getT_has E l[j]; generalize hy : l[j] = v at *; generalize getT E v = G at *; obtain ⟨⟨m, A2⟩, b⟩ := G; simp only [entD, atts] at hgt c3; rw [← hgt] at hM; generalize brkE s E (nm, A) (l.take j) = Z at *; generalize hZ2 : brkE s E (nm, A) (l.take (j + 1)) = Z2 at *; cases b with
      | true =>
        simp only [if_true, List.append_nil] at hM; simp -implicitDefEqProofs [q2, q6, q8, q16, q17, q18, q24, q25, q26, q5, qA, qB, strs, hjt, hjt', hy]; refine givO [1000000, 1000001] 1000000 c3 (by simp [qA, qB, tr]) rfl (by simp) ?_; rintro r hs' ⟨rfl, rfl⟩; simp -implicitDefEqProofs [q2, q6, q8, q16, q17, q18, q24, q25, q26, q5, qA, qB, takeH, putH, tr]; (repeat refine ai (by first | omega | rfl) ?_); exact again hjt ⟨by simp [q2, hsd], by simp [q6], by simp [q8, entD, atts], by simp [q16], by simp [q17], by simp [q18], by simp [q24, strs], by simp [q25], by simp, by simp [q5, hZ2, hM], by simp, by simp⟩
      | false =>
        simp only [Bool.false_eq_true, if_false] at hM; simp -implicitDefEqProofs [q2, q6, q8, q16, q17, q18, q24, q25, q26, q5, qA, qB, strs, hjt, hjt', hy]; refine givO [1000000, 1000001] 1000000 c3 (by simp [qA, qB, tr]) rfl (by simp) ?_; rintro r hs' ⟨rfl, rfl⟩; simp -implicitDefEqProofs [q2, q6, q8, q16, q17, q18, q24, q25, q26, q5, qA, qB, takeH, putH, tr, hpw]; (repeat refine ai (by first | omega | rfl) ?_); exact again hjt ⟨by simp [q2, hsd], by simp [q6], by simp [q8, entD, atts], by simp [q16], by simp [q17], by simp [q18], by simp [q24, strs], by simp [q25], by simp, by simp [hZ2, hM, pairD], by simp, by simp⟩
    · have hjt' : ¬ (j : Int) < l.length := (by omega); rw [ttl (by omega), ← hN] at q5; simp -implicitDefEqProofs [q2, q6, q8, q16, q17, q18, q24, q25, q26, q5, qA, qB, hjt, hjt']; (repeat refine ai (by first | omega | rfl) ?_); exact again hlt ⟨X1, by simp [q2, hsd], by simp [q6], by simp [q16], by simp [q17], by simp, by simp [q5, hB2], by simp [qA], by simp [qB]⟩
  · have hlt' : ¬ (k : Int) < E.length := (by omega); obtain rfl : k = E.length := by omega
    rw [brkP_all] at g5; simp -implicitDefEqProofs [g2, g6, g16, g17, g18, g5, gA, gB, hlt, hlt']; exact ⟨[.d (pairs (brokenU s E))], [1000000, 1000001], by simp, by simp [gA, gB, isH], by simp [resDs, resD, pairs], rfl, X1, by simp [gA, gB, tr]⟩
end
def yO : Str := [111, 61, 120]
def yA : Str := [99, 110, 61, 97, 44, 111, 61, 120]
def yB : Str := [99, 110, 61, 98, 44, 111, 61, 120]
def yG : Str := [99, 110, 61, 103, 44, 111, 61, 120]
def yH : Str := [99, 110, 61, 104, 44, 111, 61, 120]
def yZ : Str := [99, 110, 61, 122, 44, 111, 61, 120]
def yK : Str := [99, 110, 61, 107, 44, 111, 61, 120]
def yBs : Str := [99, 110, 61, 98, 44, 32, 111, 61, 120]
def yHC : Str := [67, 78, 61, 104, 44, 111, 61, 120]
def yBC : Str := [67, 78, 61, 98, 44, 111, 61, 120]
def yGroup : Str := [71, 114, 111, 117, 112]
def atG : List Att := [(sClass, [yGroup]), (sMember, [yHC, yA])]
def atH : List Att := [(sClass, [sGroup]), (sMember, [yG, yBs, yZ])]
def atH2 : List Att := [(sClass, [sGroup]), (sMember, [yBs, yG, yZ])]
def ysch : Sch := ([(sClass, 1, false), (sMember, 4, false)], [])
def Y1 : List Ent := [(yO, [])]
def Y2 : List Ent := [(yO, []), (yA, [])]
def Y3 : List Ent := [(yO, []), (yA, []), (yB, [])]
def Y4 : List Ent := [(yO, []), (yA, []), (yB, []), (yG, atG)]
def Y5 : List Ent := [(yO, []), (yA, []), (yB, []), (yG, atG), (yH, atH2)]
theorem y1 : newE [yO] = (Y1, 0) := by kernel_rfl
theorem y2 : addE Y1 yA [] = (Y2, 0) := by kernel_rfl
theorem y3 : addE Y2 yB [] = (Y3, 0) := by kernel_rfl
theorem y4 : addE Y3 yG atG = (Y4, 0) := by kernel_rfl
theorem y5 : addE Y4 yH atH = (Y5, 0) := by kernel_rfl
theorem fit_atG : FitR atG := ⟨⟨⟨by decide, by decide⟩, by decide⟩, by decide⟩
theorem fit_atH : FitR atH := ⟨⟨⟨by decide, by decide⟩, by decide⟩, by decide⟩
theorem fit_at0 : FitR [] := ⟨⟨⟨by decide, by decide⟩, by decide⟩, by decide⟩
theorem FR.add {E : List Ent} (h : FR E) (n : Str) {a : List Att} (ha : FitR a) : FR (addE E n a).1 := by
  unfold addE; repeat' split
  all_goals try exact h
  intro e he; rcases insE_mem.1 he with rfl | he
  · exact ha.sorted
  · exact h e he
theorem tiY5 : TI Y5 ∧ FE Y5 ∧ FR Y5 := by
  have h := new_ok (R := [yO]) (by rw [y1]); rw [y1] at h; have a1 := h.1; have b1 := h.2.1; have d1 : FR Y1 := fun e he => by
    rw [List.mem_singleton.1 he]; exact fit_at0
  have a2 := a1.add yA []; have b2 := b1.add yA fit_at0.1; have d2 := d1.add yA fit_at0; simp only at a2 b2 d2; rw [y2] at a2 b2 d2; have a3 := a2.add yB []; have b3 := b2.add yB fit_at0.1; have d3 := d2.add yB fit_at0; simp only at a3 b3 d3; rw [y3] at a3 b3 d3; have a4 := a3.add yG atG; have b4 := b3.add yG fit_atG.1; have d4 := d3.add yG fit_atG; simp only at a4 b4 d4; rw [y4] at a4 b4 d4; have a5 := a4.add yH atH; have b5 := b4.add yH fit_atH.1; have d5 := d4.add yH fit_atH; simp only at a5 b5 d5; rw [y5] at a5 b5 d5; exact ⟨a5, b5, d5⟩
theorem fit_ysch : FitSch ysch := ⟨by decide, by decide, fun t ht => by
  unfold FitTy; rcases List.mem_cons.1 ht with rfl | ht
  · decide
  · rw [List.mem_singleton.1 ht]; decide, fun c hc => by cases hc⟩
theorem key_len {E : List Ent} (h : TI E) : ∀ e ∈ E, List.length e.1 < 900000 := fun e he => h.klen (List.mem_map.2 ⟨e, he, rfl⟩)
theorem ks_G : ksE Y5 yG = some (some [yH, yA]) := by kernel_rfl
theorem ks_H : ksE Y5 yH = some (some [yB, yG, yZ]) := by kernel_rfl
theorem ks_A : ksE Y5 yA = some none := by kernel_rfl
theorem ks_B : ksE Y5 yB = some none := by kernel_rfl
theorem ks_O : ksE Y5 yO = some none := by kernel_rfl
theorem dfs_G : dfsU (ksE Y5) (keysE Y5) yG = [yB, yA] := by kernel_rfl
theorem dfs_H : dfsU (ksE Y5) (keysE Y5) yH = [yB, yA] := by kernel_rfl
theorem ns_AB : NS [yA, yB] := by
  refine List.pairwise_cons.2 ⟨fun x hx => ?_, List.pairwise_singleton _ _⟩; rw [List.mem_singleton.1 hx]; have : cmpN yA yB = -1 := by kernel_rfl
  show cmpN yA yB < 0
  rw [this]; decide
theorem mem_G : membersU Y5 yG = some [yA, yB] := by
  unfold membersU; rw [ks_G]; simp only; unfold memU; rw [dfs_G, sort_names ns_AB (List.Perm.swap _ _ _)]
theorem mem_H : membersU Y5 yH = some [yA, yB] := by
  unfold membersU; rw [ks_H]; simp only; unfold memU; rw [dfs_H, sort_names ns_AB (List.Perm.swap _ _ _)]
theorem mt_G : memT Y5 yG = ([yA, yB], 0) := by unfold memT; rw [mem_G]
theorem mt_A : memT Y5 yA = ([], 6) := by unfold memT membersU; rw [ks_A]
theorem gr_B : groupsU Y5 yB = [yG, yH] := by
  have e : keysE Y5 = [yO, yA, yB, yG, yH] := rfl; have q : ∀ g, (match membersU Y5 g with | some l => decide (yB ∈ l) | none => false) = memQ Y5 yB g := fun g => rfl
  have m1 : memQ Y5 yB yO = false := by unfold memQ membersU; rw [ks_O]
  have m2 : memQ Y5 yB yA = false := by unfold memQ membersU; rw [ks_A]
  have m3 : memQ Y5 yB yB = false := by unfold memQ membersU; rw [ks_B]
  have m4 : memQ Y5 yB yG = true := by unfold memQ; rw [mem_G]; decide
  have m5 : memQ Y5 yB yH = true := by unfold memQ; rw [mem_H]; decide
  show (keysE Y5).filter (memQ Y5 yB) = _
  rw [e]; simp only [List.filter_cons, List.filter_nil, m1, m2, m3, m4, m5, Bool.false_eq_true, if_false, if_true]
theorem bk_Y : brokenU ysch Y5 = [(yH, yZ)] := by kernel_rfl
theorem gt_H : getT Y5 yH = ((yH, atH2), true) := by kernel_rfl
theorem rf_H : refsU ysch atH2 = [yB, yG, yZ] := by kernel_rfl
theorem rn_H : renamedU ysch atH2 yG yK = [(3, sMember, [yBs, yK, yZ])] := by kernel_rfl
theorem rm_H : removedU ysch atH2 yBC = [(2, sMember, [yBs])] := by kernel_rfl
theorem rr_H : referU ysch Y5 yH = [yG] := by kernel_rfl
theorem fit_atH2 : FitR atH2 := ⟨⟨⟨by decide, by decide⟩, by decide⟩, by decide⟩
def rfrP (s : Sch) (E : List Ent) (n : Str) (k : Nat) : List Str := ((E.take k).filter fun e => decide (n ∈ refsU s e.2)).map (·.1)
theorem rfrP_next {s : Sch} {E : List Ent} {n : Str} {k : Nat} (h : k < E.length) : rfrP s E n (k + 1) = rfrP s E n k ++ (if n ∈ refsU s E[k].2 then [E[k].1] else []) := by
  unfold rfrP; rw [take_s h, filter_snoc]; by_cases hb : n ∈ refsU s E[k].2 <;> simp [hb]
theorem rfrP_len (s : Sch) (E : List Ent) (n : Str) (k : Nat) : (rfrP s E n k).length ≤ k := by
  unfold rfrP; rw [List.length_map]; exact Nat.le_trans (List.length_filter_le _ _) (by simp; omega)
def RrO (p u : Nat) (s : Sch) (E : List Ent) (n : Str) (k : Nat) (τ : St) : Prop := ∃ X, τ 3 = .box (schD s) ∧ τ 7 = .d (.str n) ∧ τ 20 = .own true 28 (E.map entD) ∧ τ 21 = .d (.int .i64 E.length) ∧ τ 22 = .d (.int .i64 k) ∧ τ 9 = .own false 9 ((rfrP s E n k).map .str) ∧
  τ 1000000 = .hb (va p) 125 (.agg [.raw (.map (some u))]) ∧ τ 1000001 = .hm (.map (some u)) 9 (mapE E) X
section
variable (p u : Nat) (E : List Ent) (X : Option (List (D × Nat) × Nat)) (hE : TI E) (hF : FE E) (hR : FR E) (s : Sch) (hs : FitSch s)
include hE hF hR hs
theorem referrers_fn (to : Str) (ht : List.length to < 900000) : CtrG prog 23 [.d (schD s), .d (.raw (va p)), .d (.str to)] (tr p u E X) (fun r hs' => r = .d (strs (referU s E to)) ∧ TR p u E hs') := by
  refine fn_of_vwpGN (rs := [.tmp 6]) (fun i => i == 5000020) (by kernel_rfl) func23 (by kernel_rfl) rfl rfl (by simp) (nbl rfl) (by kernel_rfl) rfl ?_; have c0 := refclean_fn to ht; have c1 := tsubtree_fn p u E X hE hF [] (by simp); rw [sub_all] at c1; have hfew := hE.few; have hsd : schD s = .agg [.sl (s.1.map tyD), .sl (s.2.map clD)] := rfl; obtain ⟨W, hW⟩ : ∃ W, referU s E to = W := ⟨_, rfl⟩; rw [hW]; unfold referU at hW; cases hr : refOf to with
  | none =>
    rw [hr] at hW; simp only at hW; subst hW; have e3 : (refT to).2 = false := (by simp [refT, hr]); generalize refT to = RT at *; obtain ⟨r1, r2⟩ := RT; simp only at e3; subst e3; simp -implicitDefEqProofs [initG, tr, hsd]; refine callK c0 ?_; simp -implicitDefEqProofs [initG]; exact ⟨[.d (strs [])], [1000000, 1000001], by simp, by simp [initG, isH], by simp [resDs, resD, strs], rfl, X, by simp [initG, tr]⟩
  | some n =>
    rw [hr] at hW; simp only at hW; rw [refT_some hr] at c0; simp -implicitDefEqProofs [initG, tr, hsd]; refine callK c0 ?_; simp -implicitDefEqProofs [initG, tr, hsd]; refine givB [1000000, 1000001] 1000000 c1 (by simp [initG, tr]) rfl (by simp) ?_; rintro r hs' ⟨rfl, X1, rfl⟩; simp -implicitDefEqProofs [initG, takeH, putH, tr]; refine loopN E.length (RrO p u s E n) ⟨X1, by simp [initG, hsd], by simp [initG], by simp [initG], by simp [initG], by simp [initG], by simp [initG, rfrP], by simp, by simp⟩ ?_; clear c1 X1 c0; rintro k τ hk ⟨X1, g3, g7, g20, g21, g22, g9, gA, gB⟩; rw [hsd] at g3; have hL := rfrP_len s E n k; by_cases hlt : k < E.length
    · have hlt' : (k : Int) < E.length := (by omega); have hN := rfrP_next (s := s) (n := n) hlt; have hfe := hR _ (gmm hlt); have hrl := refsU_len s hfe; have c2 := refs_fn s E[k] hs hfe; have c3 := contains_fn (refsU s E[k].2) n (by omega); generalize hx : E[k] = e at *; obtain ⟨nm, A⟩ := e; try simp only at hN hrl c2 c3
      generalize refsU s A = l at *; rw [hsd] at c2; simp only [entD, atts, strs] at c2 c3; generalize rfrP s E n k = B at *; generalize hB2 : rfrP s E n (k + 1) = B2 at *; by_cases hb : n ∈ l
      · rw [if_pos hb] at hN; rw [decide_eq_true hb] at c3; simp -implicitDefEqProofs [g3, g7, g20, g21, g22, g9, gA, gB, hlt, hlt', hx, entD, atts]; refine callK c2 ?_; simp -implicitDefEqProofs [g3, g7, g20, g21, g22, g9, gA, gB]; refine callK c3 ?_; simp -implicitDefEqProofs [g3, g7, g20, g21, g22, g9, gA, gB]; (repeat refine ai (by first | omega | rfl) ?_); exact again hlt ⟨X1, by simp [g3, hsd], by simp [g7], by simp [g20], by simp [g21], by simp, by simp [hB2, hN], by simp [gA], by simp [gB]⟩
      · rw [if_neg hb, List.append_nil] at hN; rw [decide_eq_false hb] at c3; simp -implicitDefEqProofs [g3, g7, g20, g21, g22, g9, gA, gB, hlt, hlt', hx, entD, atts]; refine callK c2 ?_; simp -implicitDefEqProofs [g3, g7, g20, g21, g22, g9, gA, gB]; refine callK c3 ?_; simp -implicitDefEqProofs [g3, g7, g20, g21, g22, g9, gA, gB]; (repeat refine ai (by first | omega | rfl) ?_); exact again hlt ⟨X1, by simp [g3, hsd], by simp [g7], by simp [g20], by simp [g21], by simp, by simp [g9, hB2, hN], by simp [gA], by simp [gB]⟩
    · have hlt' : ¬ (k : Int) < E.length := (by omega); obtain rfl : k = E.length := by omega
      have hall : rfrP s E n E.length = W := by rw [← hW]; unfold rfrP; rw [List.take_length]
      rw [hall] at g9; simp -implicitDefEqProofs [g3, g7, g20, g21, g22, g9, gA, gB, hlt, hlt']; exact ⟨[.d (strs W)], [1000000, 1000001], by simp, by simp [gA, gB, isH], by simp [resDs, resD, strs], rfl, X1, by simp [gA, gB, tr]⟩
end
def rmP (s : Sch) (l : List Att) (f : Att → Option Mod) (i : Nat) : List Mod := ((l.take i).filter fun a => isNm s a.1).filterMap f
theorem rmP_next {s : Sch} {l : List Att} {f : Att → Option Mod} {i : Nat} (h : i < l.length) : rmP s l f (i + 1) = rmP s l f i ++ (if isNm s l[i].1 = true then (match f l[i] with | some m => [m] | none => []) else []) := by
  unfold rmP; rw [take_s h, filter_snoc, List.filterMap_append]; by_cases hb : isNm s l[i].1 = true
  · rw [if_pos hb, if_pos hb]; cases hf : f l[i] <;> simp [hf]
  · rw [if_neg hb, if_neg hb]; rfl
theorem rmP_len (s : Sch) (l : List Att) (f : Att → Option Mod) (i : Nat) : (rmP s l f i).length ≤ i := by
  unfold rmP; exact Nat.le_trans (List.length_filterMap_le _ _) (Nat.le_trans (List.length_filter_le _ _) (by simp; omega))
def isV (n v : Str) : Bool := decide (refOf v = some n)
def RmO (s : Sch) (l : List Att) (n : Str) (i : Nat) (τ : St) : Prop := τ 3 = .box (schD s) ∧ τ 7 = .d (.str n) ∧ τ 26 = .d (atts l) ∧ τ 27 = .d (.int .i64 l.length) ∧ τ 28 = .d (.int .i64 i) ∧ τ 9 = .own false 86 ((rmP s l (remA n) i).map modD)
def RmJ (s : Sch) (l : List Att) (n : Str) (i : Nat) (a : Att) (M : List Mod) (k : Nat) (τ : St) : Prop := τ 3 = .box (schD s) ∧ τ 7 = .d (.str n) ∧ τ 26 = .d (atts l) ∧ τ 27 = .d (.int .i64 l.length) ∧ τ 28 = .d (.int .i64 i) ∧ τ 9 = .own false 86 (M.map modD) ∧
  τ 11 = .box (att a) ∧ τ 38 = .d (strs a.2) ∧ τ 39 = .d (.int .i64 a.2.length) ∧ τ 40 = .d (.int .i64 k) ∧ τ 12 = .own false 9 (((a.2.take k).filter (isV n)).map .str)
theorem removed_fn (s : Sch) (hs : FitSch s) (e : Ent) (he : FitR e.2) (to : Str) (ht : List.length to < 900000) : Ctr prog 17 [.d (schD s), .d (entD e), .d (.str to)] (.d (mods (removedU s e.2 to))) := by
  refine fv (fun _ => false) func17 (by kernel_rfl) rfl rfl rfl rfl rfl ?_; obtain ⟨nm0, A⟩ := e; have hsd : schD s = .agg [.sl (s.1.map tyD), .sl (s.2.map clD)] := rfl; have hmw : ∀ m : Mod, width (modD m) = 3 := fun _ => rfl
  have c0 := refclean_fn to ht; have c1 := Ctr.asData (sorted_fn A he.1); have hf := he.sorted; obtain ⟨W, hW⟩ : ∃ W, removedU s A to = W := ⟨_, rfl⟩; simp only; rw [hW]; unfold removedU at hW; cases hr : refOf to with
  | none =>
    rw [hr] at hW; simp only at hW; subst hW; have e3 : (refT to).2 = false := (by simp [refT, hr]); generalize refT to = RT at *; obtain ⟨r1, r2⟩ := RT; simp only at e3; subst e3; simp -implicitDefEqProofs [hsd, entD, atts]; refine callK c0 ?_; simp -implicitDefEqProofs [mods]
  | some n =>
    rw [hr] at hW; simp only at hW; rw [refT_some hr] at c0; generalize sortedL A = l at *; simp only [atts] at c1; simp -implicitDefEqProofs [hsd, entD, atts]; refine callK c0 ?_; simp -implicitDefEqProofs [hsd]; refine callK c1 ?_; simp -implicitDefEqProofs [hsd]; obtain ⟨⟨⟨hl, hl2⟩, hl3⟩, hv⟩ := hf; refine loopN l.length (RmO s l n) ⟨by simp [hsd], by simp, by simp [atts], by simp, by simp, by simp [rmP]⟩ ?_; rintro i τ hi ⟨g3, g7, g26, g27, g28, g9⟩; rw [hsd] at g3; have hL := rmP_len s l (remA n) i; by_cases hlt : i < l.length
    · have hlt' : (i : Int) < l.length := (by omega); have hN := rmP_next (s := s) (f := remA n) hlt; obtain ⟨hn1, hn2⟩ := hl2 _ (gmm hlt); have hv1 := hv _ (gmm hlt); generalize hx : l[i] = a at *; obtain ⟨nm, vs⟩ := a; have c2 := isName_fn s hs nm (by simp only at hn1; omega); rw [hsd] at c2; try simp only at hN hn2 hv1
      generalize rmP s l (remA n) i = M at *; generalize hM2 : rmP s l (remA n) (i + 1) = M2 at *; cases hb : isNm s nm with
      | false =>
        rw [hb] at hN c2; simp only [Bool.false_eq_true, if_false, List.append_nil] at hN; simp -implicitDefEqProofs [g3, g7, g26, g27, g28, g9, atts, hlt, hlt', hx, att, strs]; refine callK c2 ?_; simp -implicitDefEqProofs [g3, g7, g26, g27, g28, g9]; (repeat refine ai (by omega) ?_); exact again hlt ⟨by simp [g3, hsd], by simp [g7], by simp [g26, atts], by simp [g27], by simp, by simp [g9, hM2, hN]⟩
      | true =>
        rw [hb] at hN c2; simp only [if_true] at hN; simp -implicitDefEqProofs [g3, g7, g26, g27, g28, g9, atts, hlt, hlt', hx, att, strs]; refine callK c2 ?_; simp -implicitDefEqProofs [g3, g7, g26, g27, g28, g9]; (repeat refine ai (by omega) ?_); refine loopN vs.length (RmJ s l n i (nm, vs) M) ⟨by simp [g3, hsd], by simp [g7], by simp [g26, atts], by simp [g27], by simp [g28], by simp [g9], by simp [att, strs], by simp [strs], by simp, by simp, by simp⟩ ?_; rintro k τ' hk ⟨q3, q7, q26, q27, q28, q9, q11, q38, q39, q40, q12⟩; rw [hsd] at q3; simp only [att, strs, atts] at q11 q38 q26 q39 q12
        replace hk : k ≤ vs.length := hk
        have hfl := List.length_filter_le (isV n) (vs.take k); rw [List.length_take] at hfl; by_cases hkt : k < vs.length
        · have hkt' : (k : Int) < vs.length := (by omega); have c3 := refclean_fn vs[k] (hv1 _ (gmm hkt)); have hsn := filter_snoc (isV n) (vs.take k) vs[k]; rw [← take_s hkt] at hsn; have hiv : isV n vs[k] = ((refT vs[k]).2 && decide ((refT vs[k]).1 = n)) := by
            unfold isV; cases hq : refOf vs[k] with
            | none => simp [refT, hq]
            | some m => rw [refT_some hq]; simp
          generalize hy : vs[k] = v at *; generalize refT v = RT at *; obtain ⟨m, b⟩ := RT; simp only at hiv; rw [hiv] at hsn; generalize (vs.take k).filter (isV n) = Z at *; generalize hZ2 : (vs.take (k + 1)).filter (isV n) = Z2 at *; cases b with
          | false =>
            simp only [Bool.false_and, Bool.false_eq_true, if_false, List.append_nil] at hsn; simp -implicitDefEqProofs [q3, q7, q26, q27, q28, q9, q11, q38, q39, q40, q12, hkt, hkt', hy]; refine callK c3 ?_; simp -implicitDefEqProofs [q3, q7, q26, q27, q28, q9, q11, q38, q39, q40, q12]; (repeat refine ai (by omega) ?_); exact again hkt ⟨by simp [q3, hsd], by simp [q7], by simp [q26, atts], by simp [q27], by simp [q28], by simp [q9], by simp [q11, att, strs], by simp [q38, strs], by simp [q39], by simp, by simp [q12, hZ2, hsn]⟩
          | true =>
            by_cases hmn : m = n
            · simp only [hmn, decide_true, Bool.and_true, if_true] at hsn; simp -implicitDefEqProofs [q3, q7, q26, q27, q28, q9, q11, q38, q39, q40, q12, hkt, hkt', hy]; refine callK c3 ?_; simp -implicitDefEqProofs [q3, q7, q26, q27, q28, q9, q11, q38, q39, q40, q12, hmn]; (repeat refine ai (by omega) ?_); exact again hkt ⟨by simp [q3, hsd], by simp [q7], by simp [q26, atts], by simp [q27], by simp [q28], by simp [q9], by simp [q11, att, strs], by simp [q38, strs], by simp [q39], by simp, by simp [hZ2, hsn]⟩
            · simp only [hmn, decide_false, Bool.and_false, Bool.false_eq_true, if_false, List.append_nil] at hsn; simp -implicitDefEqProofs [q3, q7, q26, q27, q28, q9, q11, q38, q39, q40, q12, hkt, hkt', hy]; refine callK c3 ?_; simp -implicitDefEqProofs [q3, q7, q26, q27, q28, q9, q11, q38, q39, q40, q12, hmn]; (repeat refine ai (by omega) ?_); exact again hkt ⟨by simp [q3, hsd], by simp [q7], by simp [q26, atts], by simp [q27], by simp [q28], by simp [q9], by simp [q11, att, strs], by simp [q38, strs], by simp [q39], by simp, by simp [q12, hZ2, hsn]⟩
        · have hkt' : ¬ (k : Int) < vs.length := (by omega); rw [ttl (by omega)] at q12; unfold remA at hN; simp only at hN
          change M2 = M ++ (match (if (vs.filter (isV n)) ≠ [] then some (2, nm, vs.filter (isV n)) else none : Option Mod) with | some m => [m] | none => []) at hN
          generalize vs.filter (isV n) = Z at *; by_cases hz : Z = []
          · subst hz; simp only [ne_eq, not_true_eq_false, if_false, List.append_nil] at hN; simp -implicitDefEqProofs [q3, q7, q26, q27, q28, q9, q11, q38, q39, q40, q12, hkt, hkt']; (repeat refine ai (by omega) ?_); exact again hlt ⟨by simp [q3, hsd], by simp [q7], by simp [q26, atts], by simp [q27], by simp, by simp [q9, hM2, hN]⟩
          · rw [if_pos hz] at hN; have hz1 : 0 < Z.length := List.length_pos_iff.2 hz; have hz2 : (0 : Int) < Z.length := (by omega); simp -implicitDefEqProofs [q3, q7, q26, q27, q28, q9, q11, q38, q39, q40, q12, hkt, hkt', hz1, hz2, hmw]; (repeat refine ai (by omega) ?_); exact again hlt ⟨by simp [q3, hsd], by simp [q7], by simp [q26, atts], by simp [q27], by simp, by simp [hM2, hN, modD, strs]⟩
    · have hlt' : ¬ (i : Int) < l.length := (by omega); obtain rfl : i = l.length := by omega
      have hall : rmP s l (remA n) l.length = W := by rw [← hW]; unfold rmP; rw [List.take_length]
      rw [hall] at g9; simp -implicitDefEqProofs [g3, g7, g26, g27, g28, g9, hlt, hlt', mods]
theorem fmtC_len2 {p : Pair} (h : pairE p = 0) : (fmtC p).length ≤ 577 := by
  obtain ⟨h1, h2⟩ := pairE_ok.1 h; simp only [nameB, cleanB, Bool.and_eq_true, decide_eq_true_eq] at h1 h2; have e1 : (escV (foldS p.2)).length ≤ 2 * (foldS p.2).length := by
    unfold escV; generalize foldS p.2 = s
    induction s with
    | nil => simp
    | cons c s ih =>
      rw [List.flatMap_cons, List.length_append, List.length_cons]; have : (if specB c = true then [92, c] else [c]).length ≤ 2 := by split <;> simp
      omega
  have e2 : (foldS p.2).length ≤ p.2.length := by
    have hq : ∀ (s : Str) (c : UInt8), (sqz c s).length ≤ s.length := by
      intro s
      induction s with
      | nil => intro c; simp [sqz]
      | cons x s ih =>
        intro c; simp only [sqz]; have := ih x; split <;> simp <;> omega
    unfold foldS; have h3 := hq (lower (trimB p.2)) 0; have h4 : (lower (trimB p.2)).length = (trimB p.2).length := (by simp [lower]); have h5 : (trimB p.2).length ≤ p.2.length := trimB_len p.2; omega
  have e3 : (lower p.1).length = p.1.length := (by simp [lower]); simp only [fmtC, List.length_append, List.length_cons]; omega
theorem format_len (l : List Pair) : (formatU l).1.length ≤ 5000 := by
  unfold formatU; split
  · rename_i h
    unfold checkU at h; split at h
    · rename_i hp
      split at h
      · cases h
      · rename_i h8
        have hp := pairsE_zero.1 hp; have key : ∀ l : List Pair, (∀ p ∈ l, pairE p = 0) → (joinB 44 (l.map fmtC)).length ≤ l.length * 578 := by
          intro l
          induction l with
          | nil => intro _; simp [joinB]
          | cons p l ih =>
            intro h; have hp := fmtC_len2 (h p (by simp)); have ih := ih (fun q hq => h q (by simp [hq])); cases l with
            | nil => simp [joinB]; omega
            | cons q l =>
              simp only [List.map_cons, joinB, List.length_append, List.length_cons] at ih ⊢; omega
        have := key l hp; simp only; omega
    · rename_i hp
      exact absurd h hp
  · simp
theorem clean_len (s : Str) : (cleanU s).1.length ≤ 5000 := by
  unfold cleanU; split
  · exact format_len _
  · simp
theorem refOf_len {v n : Str} (h : refOf v = some n) : n.length ≤ 5000 := by
  unfold refOf at h; split at h
  · simp only [Option.some.injEq] at h; rw [← h]; exact clean_len v
  · cases h
theorem rebase_len (s fr to : Str) : (rebaseU s fr to).1.length ≤ 5000 := by
  unfold rebaseU; split
  · split
    · exact format_len _
    · simp
  · simp
theorem map_snoc {vs : List Str} {k : Nat} (h : k < vs.length) (f : Str → Str) : (vs.take (k + 1)).map f = (vs.take k).map f ++ [f vs[k]] := by
  rw [take_s h, List.map_append]; rfl
theorem any_snoc {vs : List Str} {k : Nat} (h : k < vs.length) (f : Str → Bool) : (vs.take (k + 1)).any f = ((vs.take k).any f || f vs[k]) := by
  rw [take_s h, List.any_append]; simp
def rvs (fr to : Str) (vs : List Str) (k : Nat) : List Str := (vs.take k).map fun v => (renV fr to v).1
def rch (fr to : Str) (vs : List Str) (k : Nat) : Bool := (vs.take k).any fun v => (renV fr to v).2
def RnO (s : Sch) (l : List Att) (fr to : Str) (i : Nat) (τ : St) : Prop := τ 4 = .box (schD s) ∧ τ 2 = .d (.str fr) ∧ τ 3 = .d (.str to) ∧ τ 38 = .d (atts l) ∧ τ 39 = .d (.int .i64 l.length) ∧ τ 40 = .d (.int .i64 i) ∧ τ 9 = .own true 86 ((rmP s l (renA fr to) i).map modD)
def RnJ (s : Sch) (l : List Att) (fr to : Str) (i : Nat) (nm : Str) (vs : List Str) (M : List Mod) (k : Nat) (τ : St) : Prop := τ 4 = .box (schD s) ∧ τ 2 = .d (.str fr) ∧ τ 3 = .d (.str to) ∧ τ 38 = .d (atts l) ∧ τ 39 = .d (.int .i64 l.length) ∧ τ 40 = .d (.int .i64 i) ∧ τ 9 = .own true 86 (M.map modD) ∧
  τ 11 = .box (att (nm, vs)) ∧ τ 50 = .d (strs vs) ∧ τ 51 = .d (.int .i64 vs.length) ∧ τ 52 = .d (.int .i64 k) ∧ τ 12 = .own true 9 ((rvs fr to vs k).map .str) ∧ τ 13 = .d (.bool (rch fr to vs k))
theorem renamed0_fn (s : Sch) (hs : FitSch s) (e : Ent) (he : FitR e.2) (fr to : Str) (hfr : List.length fr < 900000) (hto : List.length to < 900000) : Ctr prog 15 [.d (schD s), .d (entD e), .d (.str fr), .d (.str to)] (.own true 86 ((renamedU s e.2 fr to).map modD)) := by
  refine fv (fun i => i == 8 || i == 9 || i == 12 || i == 83 || i == 84 || i == 96 || i == 3000088 || i == 9000023 || i == 18000089 || i == 18000092 || i == 19000093) func15 (by kernel_rfl) rfl rfl rfl rfl rfl ?_; obtain ⟨nm0, A⟩ := e; have hsd : schD s = .agg [.sl (s.1.map tyD), .sl (s.2.map clD)] := rfl; have hmw : ∀ m : Mod, width (modD m) = 3 := fun _ => rfl
  have c1 := Ctr.asData (sorted_fn A he.1); have hf := he.sorted; have v1 := nvalid_fn fr hfr; have v2 := nvalid_fn to hto; obtain ⟨W, hW⟩ : ∃ W, renamedU s A fr to = W := ⟨_, rfl⟩; simp only; rw [hW]; unfold renamedU at hW; by_cases h0 : fr = []
  · rw [if_pos (.inl h0)] at hW; subst hW; simp -implicitDefEqProofs [hsd, entD, atts, h0, mods]
  by_cases h1 : to = []
  · rw [if_pos (.inr (.inl h1))] at hW; subst hW; simp -implicitDefEqProofs [hsd, entD, atts, h0, h1, mods]
  cases h2 : validU fr with
  | false =>
    rw [if_pos (.inr (.inr (.inl h2)))] at hW; subst hW; rw [h2] at v1; simp -implicitDefEqProofs [hsd, entD, atts, h0, h1, mods]; refine callK v1 ?_; simp -implicitDefEqProofs [mods]
  | true =>
  rw [h2] at v1; cases h3 : validU to with
  | false =>
    rw [if_pos (.inr (.inr (.inr h3)))] at hW; subst hW; rw [h3] at v2; simp -implicitDefEqProofs [hsd, entD, atts, h0, h1, mods]; refine callK v1 ?_; simp -implicitDefEqProofs [h0, h1, mods]; refine callK v2 ?_; simp -implicitDefEqProofs [mods]
  | true =>
  rw [h3] at v2; rw [if_neg (by simp [h0, h1, h2, h3])] at hW; generalize sortedL A = l at *; simp only [atts] at c1; simp -implicitDefEqProofs [hsd, entD, atts, h0, h1]; refine callK v1 ?_; simp -implicitDefEqProofs [h0, h1]; refine callK v2 ?_; simp -implicitDefEqProofs [hsd]; refine callK c1 ?_; simp -implicitDefEqProofs [hsd]; obtain ⟨⟨⟨hl, hl2⟩, hl3⟩, hv⟩ := hf; refine loopN l.length (RnO s l fr to) ⟨by simp [hsd], by simp, by simp, by simp [atts], by simp, by simp, by simp [rmP]⟩ ?_; rintro i τ hi ⟨g4, g2, g3, g38, g39, g40, g9⟩; rw [hsd] at g4; have hL := rmP_len s l (renA fr to) i; by_cases hlt : i < l.length
  · have hlt' : (i : Int) < l.length := (by omega); have hN := rmP_next (s := s) (f := renA fr to) hlt; obtain ⟨hn1, hn2⟩ := hl2 _ (gmm hlt); have hv1 := hv _ (gmm hlt); generalize hx : l[i] = a at *; obtain ⟨nm, vs⟩ := a; have c2 := isName_fn s hs nm (by simp only at hn1; omega); rw [hsd] at c2; try simp only at hN hn2 hv1
    generalize rmP s l (renA fr to) i = M at *; generalize hM2 : rmP s l (renA fr to) (i + 1) = M2 at *; cases hb : isNm s nm with
    | false =>
      rw [hb] at hN c2; simp only [Bool.false_eq_true, if_false, List.append_nil] at hN; simp -implicitDefEqProofs [g4, g2, g3, g38, g39, g40, g9, atts, hlt, hlt', hx, att, strs]; refine callK c2 ?_; simp -implicitDefEqProofs [g4, g2, g3, g38, g39, g40, g9]; (repeat refine ai (by omega) ?_); exact again hlt ⟨by simp [g4, hsd], by simp [g2], by simp [g3], by simp [g38, atts], by simp [g39], by simp, by simp [g9, hM2, hN]⟩
    | true =>
      rw [hb] at hN c2; simp only [if_true] at hN; simp -implicitDefEqProofs [g4, g2, g3, g38, g39, g40, g9, atts, hlt, hlt', hx, att, strs]; refine callK c2 ?_; simp -implicitDefEqProofs [g4, g2, g3, g38, g39, g40, g9]; (repeat refine ai (by omega) ?_); refine loopN vs.length (RnJ s l fr to i nm vs M) ⟨by simp [g4, hsd], by simp [g2], by simp [g3], by simp [g38, atts], by simp [g39], by simp [g40], by simp [g9], by simp [att, strs], by simp [strs], by simp, by simp, by simp [rvs], by simp [rch]⟩ ?_; rintro k τ' hk ⟨q4, q2, q3, q38, q39, q40, q9, q11, q50, q51, q52, q12, q13⟩; rw [hsd] at q4; simp only [att, strs, atts] at q11 q50 q38; have hzl : (rvs fr to vs k).length ≤ k := by simp [rvs]; omega
      by_cases hkt : k < vs.length
      · have hkt' : (k : Int) < vs.length := (by omega); have c3 := refclean_fn vs[k] (hv1 _ (gmm hkt)); have hs1 : rvs fr to vs (k + 1) = rvs fr to vs k ++ [(renV fr to vs[k]).1] := map_snoc hkt _; have hs2 : rch fr to vs (k + 1) = (rch fr to vs k || (renV fr to vs[k]).2) := any_snoc hkt _; generalize hy : vs[k] = v at *; generalize hZ : rvs fr to vs k = Z at *; generalize hZ2 : rvs fr to vs (k + 1) = Z2 at *; generalize hB : rch fr to vs k = B at *; generalize hB2 : rch fr to vs (k + 1) = B2 at *; unfold renV at hs1 hs2; cases hr : refOf v with
        | none =>
          have e3 : (refT v).2 = false := (by simp [refT, hr]); rw [hr] at hs1 hs2; simp only [Bool.or_false] at hs1 hs2; generalize refT v = RT at *; obtain ⟨r1, r2⟩ := RT; simp only at e3; subst e3; simp -implicitDefEqProofs [q4, q2, q3, q38, q39, q40, q9, q11, q50, q51, q52, q12, q13, hkt, hkt', hy]; refine callK c3 ?_; simp -implicitDefEqProofs [q4, q2, q3, q38, q39, q40, q9, q11, q50, q51, q52, q12, q13]; (repeat refine ai (by omega) ?_); exact again hkt ⟨by simp [q4, hsd], by simp [q2], by simp [q3], by simp [q38, atts], by simp [q39], by simp [q40], by simp [q9], by simp [q11, att, strs], by simp [q50, strs], by simp [q51], by simp, by simp [hZ2, hs1], by simp [q13, hB2, hs2]⟩
        | some n =>
          have hnl := refOf_len hr; rw [refT_some hr] at c3; rw [hr] at hs1 hs2; simp only at hs1 hs2; have c4 := nunder_fn n fr (by omega) hfr; have c5 := nrebase_fn n fr to (by omega) hfr hto; have hrl := rebase_len n fr to; have c6 := fclean_fn (rebaseU n fr to).1 (by omega); rw [cleanF_eq] at c6; generalize rebaseU n fr to = RB at *; obtain ⟨m, f⟩ := RB; simp only at hs1 hs2 hrl c5 c6; cases hu : underU n fr with
          | false =>
            rw [hu] at c4 hs1 hs2; simp only [Bool.false_eq_true, false_and, if_false, Bool.or_false] at hs1 hs2; simp -implicitDefEqProofs [q4, q2, q3, q38, q39, q40, q9, q11, q50, q51, q52, q12, q13, hkt, hkt', hy]; refine callK c3 ?_; simp -implicitDefEqProofs [q4, q2, q3, q38, q39, q40, q9, q11, q50, q51, q52, q12, q13]; refine callK c4 ?_; simp -implicitDefEqProofs [q4, q2, q3, q38, q39, q40, q9, q11, q50, q51, q52, q12, q13]; (repeat refine ai (by omega) ?_); exact again hkt ⟨by simp [q4, hsd], by simp [q2], by simp [q3], by simp [q38, atts], by simp [q39], by simp [q40], by simp [q9], by simp [q11, att, strs], by simp [q50, strs], by simp [q51], by simp, by simp [hZ2, hs1], by simp [q13, hB2, hs2]⟩
          | true =>
          rw [hu] at c4 hs1 hs2; by_cases hf0 : f = 0
          · cases hc : cleanB m with
            | false =>
              rw [hc] at c6 hs1 hs2; simp only [Bool.false_eq_true, and_false, if_false, Bool.or_false] at hs1 hs2; simp -implicitDefEqProofs [q4, q2, q3, q38, q39, q40, q9, q11, q50, q51, q52, q12, q13, hkt, hkt', hy]; refine callK c3 ?_; simp -implicitDefEqProofs [q4, q2, q3, q38, q39, q40, q9, q11, q50, q51, q52, q12, q13]; refine callK c4 ?_; simp -implicitDefEqProofs [q4, q2, q3, q38, q39, q40, q9, q11, q50, q51, q52, q12, q13]; refine callK c5 ?_; simp -implicitDefEqProofs [q4, q2, q3, q38, q39, q40, q9, q11, q50, q51, q52, q12, q13, hf0]; refine callK c6 ?_; simp -implicitDefEqProofs [q4, q2, q3, q38, q39, q40, q9, q11, q50, q51, q52, q12, q13]; (repeat refine ai (by omega) ?_); exact again hkt ⟨by simp [q4, hsd], by simp [q2], by simp [q3], by simp [q38, atts], by simp [q39], by simp [q40], by simp [q9], by simp [q11, att, strs], by simp [q50, strs], by simp [q51], by simp, by simp [hZ2, hs1], by simp [q13, hB2, hs2]⟩
            | true =>
              rw [hc] at c6 hs1 hs2; simp only [hf0, and_self, if_true, Bool.or_true] at hs1 hs2; simp -implicitDefEqProofs [q4, q2, q3, q38, q39, q40, q9, q11, q50, q51, q52, q12, q13, hkt, hkt', hy]; refine callK c3 ?_; simp -implicitDefEqProofs [q4, q2, q3, q38, q39, q40, q9, q11, q50, q51, q52, q12, q13]; refine callK c4 ?_; simp -implicitDefEqProofs [q4, q2, q3, q38, q39, q40, q9, q11, q50, q51, q52, q12, q13]; refine callK c5 ?_; simp -implicitDefEqProofs [q4, q2, q3, q38, q39, q40, q9, q11, q50, q51, q52, q12, q13, hf0]; refine callK c6 ?_; simp -implicitDefEqProofs [q4, q2, q3, q38, q39, q40, q9, q11, q50, q51, q52, q12, q13]; (repeat refine ai (by omega) ?_); exact again hkt ⟨by simp [q4, hsd], by simp [q2], by simp [q3], by simp [q38, atts], by simp [q39], by simp [q40], by simp [q9], by simp [q11, att, strs], by simp [q50, strs], by simp [q51], by simp, by simp [hZ2, hs1], by simp [q13, hB2, hs2]⟩
          · simp only [hf0, false_and, and_false, if_false, Bool.or_false] at hs1 hs2; simp -implicitDefEqProofs [q4, q2, q3, q38, q39, q40, q9, q11, q50, q51, q52, q12, q13, hkt, hkt', hy]; refine callK c3 ?_; simp -implicitDefEqProofs [q4, q2, q3, q38, q39, q40, q9, q11, q50, q51, q52, q12, q13]; refine callK c4 ?_; simp -implicitDefEqProofs [q4, q2, q3, q38, q39, q40, q9, q11, q50, q51, q52, q12, q13]; refine callK c5 ?_; simp -implicitDefEqProofs [q4, q2, q3, q38, q39, q40, q9, q11, q50, q51, q52, q12, q13, hf0]; (repeat refine ai (by omega) ?_); exact again hkt ⟨by simp [q4, hsd], by simp [q2], by simp [q3], by simp [q38, atts], by simp [q39], by simp [q40], by simp [q9], by simp [q11, att, strs], by simp [q50, strs], by simp [q51], by simp, by simp [hZ2, hs1], by simp [q13, hB2, hs2]⟩
      · have hkt' : ¬ (k : Int) < vs.length := (by omega); obtain rfl : k = vs.length := by omega
        have e1 : rvs fr to vs vs.length = vs.map fun v => (renV fr to v).1 := by unfold rvs; rw [List.take_length]
        have e2 : rch fr to vs vs.length = vs.any fun v => (renV fr to v).2 := by unfold rch; rw [List.take_length]
        rw [e1] at q12 hzl; rw [e2] at q13; unfold renA at hN; simp only at hN; generalize (vs.any fun v => (renV fr to v).2) = ch at *; have c7 := sort_fn (vs.map fun v => (renV fr to v).1) (by omega); have c8 := compact_fn (sortS (vs.map fun v => (renV fr to v).1)) (by simp [sortS]; omega); rw [compact_ins] at c8; generalize (vs.map fun v => (renV fr to v).1) = Z at *; cases ch with
        | false =>
          simp only [Bool.false_eq_true, if_false, List.append_nil] at hN; simp -implicitDefEqProofs [q4, q2, q3, q38, q39, q40, q9, q11, q50, q51, q52, q12, q13, hkt, hkt']; (repeat refine ai (by omega) ?_); exact again hlt ⟨by simp [q4, hsd], by simp [q2], by simp [q3], by simp [q38, atts], by simp [q39], by simp, by simp [q9, hM2, hN]⟩
        | true =>
          simp only [if_true] at hN; generalize Z.foldl ins [] = Y at *; generalize sortS Z = SZ at *; simp -implicitDefEqProofs [q4, q2, q3, q38, q39, q40, q9, q11, q50, q51, q52, q12, q13, hkt, hkt']; refine inKb c7 ?_; simp -implicitDefEqProofs [q4, q2, q3, q38, q39, q40, q9, q11, q50, q51, q52, q12, q13]; refine ⟨_, c8, ?_⟩; simp -implicitDefEqProofs [q4, q2, q3, q38, q39, q40, q9, q11, q50, q51, q52, q12, q13, hmw]; (repeat refine ai (by omega) ?_); exact again hlt ⟨by simp [q4, hsd], by simp [q2], by simp [q3], by simp [q38, atts], by simp [q39], by simp, by simp [hM2, hN, modD, strs]⟩
  · have hlt' : ¬ (i : Int) < l.length := (by omega); obtain rfl : i = l.length := by omega
    have hall : rmP s l (renA fr to) l.length = W := by rw [← hW]; unfold rmP; rw [List.take_length]
    rw [hall] at g9; simp -implicitDefEqProofs [g4, g2, g3, g38, g39, g40, g9, hlt, hlt', mods]
theorem renamed_fn (s : Sch) (hs : FitSch s) (e : Ent) (he : FitR e.2) (fr to : Str) (hfr : List.length fr < 900000) (hto : List.length to < 900000) : Ctr prog 15 [.d (schD s), .d (entD e), .d (.str fr), .d (.str to)] (.d (mods (renamedU s e.2 fr to))) := Ctr.asData (renamed0_fn s hs e he fr to hfr hto)
theorem sample_fn : CtrG prog 44 [] [] (fun r hs' => ∃ p u, r = .tup [.d (schD ysch), .d (.raw (va p))] ∧ TR p u Y5 hs') := by
  refine fn_of_vwpGN (rs := [.cell 0 25, .tmp 1]) (fun i => i == 5000011 || i == 5000019 || i == 5000022 || i == 5000030 || i == 5000038) (by kernel_rfl) func44 (by kernel_rfl) rfl rfl (by simp) (nbl rfl) (by kernel_rfl) rfl ?_; have c1 := tnew_fn [yO] (by simp [yO]); have c2 := fun p u X => tadd_fn p u Y1 X yA [] (by decide) fit_at0.1
  have c3 := fun p u X => tadd_fn p u Y2 X yB [] (by decide) fit_at0.1
  have c4 := fun p u X => tadd_fn p u Y3 X yG atG (by decide) fit_atG.1
  have c5 := fun p u X => tadd_fn p u Y4 X yH atH (by decide) fit_atH.1
  rw [y1] at c1; simp only [y2] at c2; simp only [y3] at c3; simp only [y4] at c4; simp only [y5] at c5; generalize Y1 = E1 at *; generalize Y2 = E2 at *; generalize Y3 = E3 at *; generalize Y4 = E4 at *; generalize Y5 = E5 at *; simp only [entD, atts, att, strs, List.map_cons, List.map_nil, yO, yA, yB, yG, yH, yHC, yBs, yZ, yGroup, atG, atH, sClass, sMember, sGroup] at c1 c2 c3 c4 c5; simp only [schD, ysch, tyD, sClass, sMember, List.map_cons, List.map_nil]; simp -implicitDefEqProofs [initG]; (repeat refine ai (by first | omega | rfl) ?_); refine givB [] 1000000 c1 (by simp) rfl (by simp) ?_; rintro r hs' (⟨h, _⟩ | ⟨_, p, u, rfl, rfl⟩)
  · exact absurd rfl h
  simp -implicitDefEqProofs [initG, takeH, putH, tr]; (repeat refine ai (by first | omega | rfl) ?_); refine givB [1000000, 1000001] 1000000 (c2 p u none) (by simp [tr]) rfl (by simp) ?_; rintro r hs' ⟨rfl, X1, rfl⟩; simp -implicitDefEqProofs [initG, takeH, putH, tr]; (repeat refine ai (by first | omega | rfl) ?_); refine givB [1000000, 1000001] 1000000 (c3 p u X1) (by simp [tr]) rfl (by simp) ?_; rintro r hs' ⟨rfl, X2, rfl⟩; simp -implicitDefEqProofs [initG, takeH, putH, tr]; (repeat refine ai (by first | omega | rfl) ?_); refine givB [1000000, 1000001] 1000000 (c4 p u X2) (by simp [tr]) rfl (by simp) ?_; rintro r hs' ⟨rfl, X3, rfl⟩; simp -implicitDefEqProofs [initG, takeH, putH, tr]; (repeat refine ai (by first | omega | rfl) ?_); refine givB [1000000, 1000001] 1000000 (c5 p u X3) (by simp [tr]) rfl (by simp) ?_; rintro r hs' ⟨rfl, X4, rfl⟩; simp -implicitDefEqProofs [initG, takeH, putH, tr]; (repeat refine ai (by first | omega | rfl) ?_); exact ⟨[.d (.agg [.sl [.agg [.str [99, 108, 97, 115, 115], .int .i64 1, .bool false], .agg [.str [109, 101, 109, 98, 101, 114], .int .i64 4, .bool false]], .sl []]), .d (.raw (va p))], [1000000, 1000001], by simp, by simp [isH], by simp [resDs, resD], p, rfl, u, X4, by simp [tr]⟩
theorem awake_fn : Ctr prog 10 [] (.d (.bool true)) := by
  refine fv (fun i => i == 5000015 || i == 5000022 || i == 5000027 || i == 5000031 || i == 5000034 || i == 5000037 || i == 5000132) func10 (by kernel_rfl) rfl rfl rfl rfl rfl ?_; obtain ⟨hT, hF, hR⟩ := tiY5; have hk := key_len hT; have c0 := sample_fn; have c1 := fun p u X => members_fn p u Y5 X hT hF hR hk yG
  have c2 := fun p u X => members_fn p u Y5 X hT hF hR hk yA
  have c3 := fun p u X => groups_fn p u Y5 X hT hF hR hk yB
  have c4 := fun p u X => broken_fn p u Y5 X hT hF hR ysch fit_ysch
  have c5 := fun p u X => tget_fn p u Y5 X yH hF
  have c6 := refs_fn ysch (yH, atH2) fit_ysch fit_atH2; have c7 := renamed_fn ysch fit_ysch (yH, atH2) fit_atH2 yG yK (by decide) (by decide); have c8 := removed_fn ysch fit_ysch (yH, atH2) fit_atH2 yBC (by decide); have c9 := fun p u X => referrers_fn p u Y5 X hT hF hR ysch fit_ysch yH (by decide)
  have s1 := same_fn [yA, yB] [yA, yB] (by decide) (by decide); have s2 := same_fn [yG, yH] [yG, yH] (by decide) (by decide); have s3 := same_fn [yB, yG, yZ] [yB, yG, yZ] (by decide) (by decide); have s4 := same_fn [yBs, yK, yZ] [yBs, yK, yZ] (by decide) (by decide); have s5 := same_fn [yBs] [yBs] (by decide) (by decide); have s6 := same_fn [yG] [yG] (by decide) (by decide); simp only [mt_G] at c1; simp only [mt_A] at c2; simp only [gr_B] at c3; simp only [bk_Y] at c4; simp only [gt_H] at c5; simp only [rf_H] at c6; simp only [rn_H] at c7; simp only [rm_H] at c8; simp only [rr_H] at c9; simp only [decide_true] at s1 s2 s3 s4 s5 s6; clear hT hF hR hk; generalize Y5 = E at *; have hsd : ∃ a b, schD ysch = .agg [a, b] ∧ width a = 1 ∧ width b = 1 := ⟨_, _, rfl, rfl, rfl⟩; obtain ⟨sa, sb, hsd, hw1, hw2⟩ := hsd; have hz : (schD ysch) = .agg [.sl (ysch.1.map tyD), .sl (ysch.2.map clD)] := rfl; rw [hz] at c0 c4 c6 c7 c8 c9; clear hsd hw1 hw2 sa sb hz; generalize ysch.1.map tyD = S1 at *; generalize ysch.2.map clD = S2 at *; simp only [entD, atts, att, strs, pairs, pairD, mods, modD, List.map_cons, List.map_nil, yA, yB, yG, yH, yK, yBC, yBs, yZ, atH2, sClass, sMember, sGroup] at c0 c1 c2 c3 c4 c5 c6 c7 c8 c9 s1 s2 s3 s4 s5 s6; simp -implicitDefEqProofs; (repeat refine ai (by first | omega | rfl) ?_); refine givB [] 1000000 c0 (by simp) rfl (by simp) ?_; rintro r hs' ⟨p, u, rfl, X0, rfl⟩; simp -implicitDefEqProofs [takeH, putH, tr]; (repeat refine ai (by first | omega | rfl) ?_); refine givB [1000000, 1000001] 1000000 (c1 p u X0) (by simp [tr]) rfl (by simp) ?_; rintro r hs' ⟨rfl, rfl⟩; simp -implicitDefEqProofs [takeH, putH, tr]; (repeat refine ai (by first | omega | rfl) ?_); refine givB [1000000, 1000001] 1000000 (c2 p u X0) (by simp [tr]) rfl (by simp) ?_; rintro r hs' ⟨rfl, rfl⟩; simp -implicitDefEqProofs [takeH, putH, tr]; (repeat refine ai (by first | omega | rfl) ?_); refine givB [1000000, 1000001] 1000000 (c3 p u X0) (by simp [tr]) rfl (by simp) ?_; rintro r hs' ⟨rfl, X1, rfl⟩; simp -implicitDefEqProofs [takeH, putH, tr]; (repeat refine ai (by first | omega | rfl) ?_); refine givB [1000000, 1000001] 1000000 (c4 p u X1) (by simp [tr]) rfl (by simp) ?_; rintro r hs' ⟨rfl, X2, rfl⟩; simp -implicitDefEqProofs [takeH, putH, tr]; (repeat refine ai (by first | omega | rfl) ?_); refine givB [1000000, 1000001] 1000000 (c5 p u X2) (by simp [tr]) rfl (by simp) ?_; rintro r hs' ⟨rfl, rfl⟩; simp -implicitDefEqProofs [takeH, putH, tr]; (repeat refine ai (by first | omega | rfl) ?_); refine callK c6 ?_; simp -implicitDefEqProofs; (repeat refine ai (by first | omega | rfl) ?_); refine callK c7 ?_; simp -implicitDefEqProofs; (repeat refine ai (by first | omega | rfl) ?_); refine callK c8 ?_; simp -implicitDefEqProofs; (repeat refine ai (by first | omega | rfl) ?_); refine callK s1 ?_; simp -implicitDefEqProofs; (repeat refine ai (by first | omega | rfl) ?_); refine callK s2 ?_; simp -implicitDefEqProofs; (repeat refine ai (by first | omega | rfl) ?_); refine callK s3 ?_; simp -implicitDefEqProofs; (repeat refine ai (by first | omega | rfl) ?_); refine callK s4 ?_; simp -implicitDefEqProofs; (repeat refine ai (by first | omega | rfl) ?_); refine callK s5 ?_; simp -implicitDefEqProofs; (repeat refine ai (by first | omega | rfl) ?_); refine givB [1000000, 1000001] 1000000 (c9 p u X2) (by simp [tr]) rfl (by simp) ?_; rintro r hs' ⟨rfl, X3, rfl⟩; simp -implicitDefEqProofs [takeH, putH, tr]; (repeat refine ai (by first | omega | rfl) ?_); refine callK s6 ?_; simp -implicitDefEqProofs
end Go.Proofs.Tz
namespace Go.Proofs.Tz
open Go.Vw Go.RowKit Go.Proofs
def entB (e : Ent) : Bool := shB e.1 && (decide (e.2.length ≤ 8) && e.2.all attB)
def LeA (n : Str) (A : List Att) (k : Nat) (τ : St) : Prop := τ 1 = .box (entD (n, A)) ∧ τ 3 = .d (.int .i64 k) ∧ (A.take k).all attB = true
def LeB (n : Str) (A : List Att) (i : Nat) (V : List Str) (k : Nat) (τ : St) : Prop := τ 1 = .box (entD (n, A)) ∧ τ 3 = .d (.int .i64 i) ∧ τ 4 = .d (.int .i64 k) ∧ (V.take k).all shB = true
theorem lightEn_fn (e : Ent) : Ctr prog 43 [.d (entD e)] (.d (.bool (entB e))) := by
  refine fv (fun _ => false) func43 (by kernel_rfl) rfl rfl rfl rfl rfl ?_; obtain ⟨n, A⟩ := e; have hed : entD (n, A) = .agg [.str n, .sl (A.map att)] := rfl; obtain ⟨V, hV⟩ : ∃ V, entB (n, A) = V := ⟨_, rfl⟩; rw [hV, hed]; unfold entB at hV; simp only at hV; by_cases n1 : List.length n ≤ 300
  case neg =>
    have n1' : (300 : Int) < List.length n := (by omega); have hV0 : V = false := by rw [← hV]; simp [shB]; omega
    simp -implicitDefEqProofs [n1', hV0]
  have n1' : ¬ (300 : Int) < List.length n := (by omega); by_cases n3 : A.length ≤ 8
  case neg =>
    have n3' : (8 : Int) < A.length := (by omega); have hV0 : V = false := by rw [← hV]; simp [shB]; omega
    simp -implicitDefEqProofs [n1', n3', hV0]
  have n3' : ¬ (8 : Int) < A.length := (by omega); have hV : A.all attB = V := by rw [← hV]; simp [shB, n1, n3]
  simp -implicitDefEqProofs [n1', n3']; refine loopN A.length (LeA n A) ⟨by simp [hed], by simp, by simp⟩ ?_; rintro k τ hk ⟨g1, g3, hI⟩; rw [hed] at g1; by_cases hlt : k < A.length
  · have hlt' : (k : Int) < A.length := (by omega); have hts := take_all (f := attB) hlt; have hbad : attB A[k] = false → V = false := fun h => by rw [← hV]; exact all_false hlt h
    generalize hx : A[k] = y at *; obtain ⟨an, vs⟩ := y; have hta : att (an, vs) = .agg [.str an, .sl (vs.map .str)] := rfl; have haw : ∀ a : Att, width (att a) = 2 := fun _ => rfl
    by_cases m1 : List.length an ≤ 300
    case neg =>
      have m1' : (300 : Int) < List.length an := (by omega); have hV0 := hbad (by simp [attB, shB]; omega); simp -implicitDefEqProofs [g1, g3, hlt, hlt', hx, hta, m1', hV0]
    have m1' : ¬ (300 : Int) < List.length an := (by omega); by_cases m2 : vs.length ≤ 8
    case neg =>
      have m2' : (8 : Int) < vs.length := (by omega); have hV0 := hbad (by simp [attB, shB]; omega); simp -implicitDefEqProofs [g1, g3, hlt, hlt', hx, hta, m1', m2', hV0]
    have m2' : ¬ (8 : Int) < vs.length := (by omega); have hat : attB (an, vs) = vs.all shB := (by simp [attB, shB, m1, m2]); rw [hat] at hts hbad; simp -implicitDefEqProofs [g1, g3, hlt, hlt', hx, hta, m1', m2']; (repeat refine ai (by first | omega | rfl) ?_); refine loopN vs.length (LeB n A k vs) ⟨by simp [g1, hed], by simp [g3], by simp, by simp⟩ ?_; rintro j τ2 hj ⟨q1, q3, q4, hJ⟩; rw [hed] at q1; by_cases hjt : j < vs.length
    · have hjt' : (j : Int) < vs.length := (by omega); have hts2 := take_all (f := shB) hjt; have hbad2 : shB vs[j] = false → V = false := fun h => hbad (all_false hjt h)
      generalize hy : vs[j] = s at *; by_cases hs : List.length s ≤ 300
      · have hs' : ¬ (300 : Int) < List.length s := (by omega); simp -implicitDefEqProofs [q1, q3, q4, hlt, hlt', hx, hta, hjt, hjt', hy, hs']; (repeat refine ai (by first | omega | rfl) ?_); exact again hjt ⟨by simp [q1, hed], by simp [q3], by simp, by rw [hts2, hJ]; simp [shB, hs]⟩
      · have hs' : (300 : Int) < List.length s := (by omega); have hV0 := hbad2 (by simp [shB]; omega); simp -implicitDefEqProofs [q1, q3, q4, hlt, hlt', hx, hta, hjt, hjt', hy, hs', hV0]
    · have hjt' : ¬ (j : Int) < vs.length := (by omega); rw [ttl (by omega)] at hJ; simp -implicitDefEqProofs [q1, q3, q4, hlt, hlt', hx, hta, hjt, hjt']; (repeat refine ai (by first | omega | rfl) ?_); exact again hlt ⟨by simp [q1, hed], by simp, by rw [hts, hI, hJ]; rfl⟩
  · have hlt' : ¬ (k : Int) < A.length := (by omega); rw [ttl (by omega), hV] at hI; simp -implicitDefEqProofs [g1, g3, hlt, hlt', hI]
def tyB (t : Ty) : Bool := shB t.1
def lgtB (s : Sch) (l : List Ent) : Bool := (l.take 12).all entB && ((s.1.take 20).all tyB && (decide (l.length ≤ 12) && (decide (s.1.length ≤ 20) && decide (s.2.length ≤ 20))))
def LgA (s : Sch) (l : List Ent) (k : Nat) (τ : St) : Prop := τ 2 = .box (schD s) ∧ τ 1 = .d (entsD l) ∧ τ 5 = .d (.int .i64 k) ∧ (l.take k).all entB = true
def LgB (s : Sch) (l : List Ent) (k : Nat) (τ : St) : Prop := τ 2 = .box (schD s) ∧ τ 1 = .d (entsD l) ∧ τ 6 = .d (.int .i64 k) ∧ (s.1.take k).all tyB = true
theorem light_fn (s : Sch) (l : List Ent) : Ctr prog 9 [.d (schD s), .d (entsD l)] (.d (.bool (lgtB s l))) := by
  refine fv (fun _ => false) func9 (by kernel_rfl) rfl rfl rfl rfl rfl ?_; obtain ⟨T, C⟩ := s; have hsd : schD (T, C) = .agg [.sl (T.map tyD), .sl (C.map clD)] := rfl; have hew : ∀ e : Ent, width (entD e) = 2 := fun _ => rfl
  obtain ⟨V, hV⟩ : ∃ V, lgtB (T, C) l = V := ⟨_, rfl⟩; rw [hV]; unfold lgtB at hV; simp only at hV; simp -implicitDefEqProofs [hsd, entsD]; refine loopN (min l.length 12) (LgA (T, C) l) ⟨by simp [hsd], by simp [entsD], by simp, by simp⟩ ?_; rintro k τ hk ⟨g2, g1, g5, hI⟩; rw [hsd] at g2; simp only [entsD] at g1; by_cases hlt : k < min l.length 12
  · have b1 : k < l.length := (by omega); have b1' : (k : Int) < l.length := (by omega); have b2 : (k : Int) < 12 := (by omega); have hts := take_all (f := entB) b1; have hbad : entB l[k] = false → V = false := fun h => by
      rw [← hV, all_false (k := k) (by simp; omega) (by simpa using h)]; rfl
    have c1 := lightEn_fn l[k]; generalize hx : l[k] = e at *; obtain ⟨n, A⟩ := e; have hed : entD (n, A) = .agg [.str n, .sl (A.map att)] := rfl; rw [hed] at c1; cases hb : entB (n, A) with
    | true =>
      rw [hb] at c1 hts; simp -implicitDefEqProofs [g2, g1, g5, b1, b1', b2, hx, hed]; refine callK c1 ?_; simp -implicitDefEqProofs [g2, g1, g5]; (repeat refine ai (by first | omega | rfl) ?_); exact again hlt ⟨by simp [g2, hsd], by simp [g1, entsD], by simp, by rw [hts, hI]; rfl⟩
    | false =>
      rw [hb] at c1; have hV0 := hbad hb; simp -implicitDefEqProofs [g2, g1, g5, b1, b1', b2, hx, hed]; refine callK c1 ?_; simp -implicitDefEqProofs [g2, g1, g5, hV0]
  have hRA : (l.take 12).all entB = true := by
    have : l.take k = l.take 12 := by
      by_cases h6 : l.length ≤ 12
      · rw [ttl (by omega), ttl h6]
      · have : k = 12 := (by omega); rw [this]
    rw [← this]; exact hI
  rw [hRA, Bool.true_and] at hV; have hgo : (¬ (k : Int) < l.length) ∨ ((k : Int) < l.length ∧ ¬ (k : Int) < 12) := (by omega); rcases hgo with h1 | ⟨h1, h2⟩
  all_goals
    first
      | simp -implicitDefEqProofs [g2, g1, g5, h1, h2]
      | simp -implicitDefEqProofs [g2, g1, g5, h1]
    refine loopN (min T.length 20) (LgB (T, C) l) ⟨by simp [g2, hsd], by simp [g1, entsD], by simp, by simp⟩ ?_; rintro i τ2 hi ⟨q2, q1, q6, hJ⟩; rw [hsd] at q2; simp only [entsD] at q1; by_cases hit : i < min T.length 20
    · have d1 : i < T.length := (by omega); have d1' : (i : Int) < T.length := (by omega); have d2 : (i : Int) < 20 := (by omega); have hts := take_all (f := tyB) d1; have hbad : tyB T[i] = false → V = false := fun h => by
        rw [← hV, all_false (k := i) (by simp; omega) (by simpa using h)]; rfl
      generalize hy : T[i] = t at *; obtain ⟨m, sy, sg⟩ := t; have htd : tyD (m, sy, sg) = .agg [.str m, .int .i64 sy, .bool sg] := rfl; by_cases hs : List.length m ≤ 300
      · have hs' : ¬ (300 : Int) < List.length m := (by omega); simp -implicitDefEqProofs [q2, q1, q6, d1, d1', d2, hy, htd, hs']; (repeat refine ai (by first | omega | rfl) ?_); exact again hit ⟨by simp [q2, hsd], by simp [q1, entsD], by simp, by rw [hts, hJ]; simp [tyB, shB, hs]⟩
      · have hs' : (300 : Int) < List.length m := (by omega); have hV0 := hbad (by simp [tyB, shB]; omega); simp -implicitDefEqProofs [q2, q1, q6, d1, d1', d2, hy, htd, hs', hV0]
    · have hTA : (T.take 20).all tyB = true := by
        have : T.take i = T.take 20 := by
          by_cases h6 : T.length ≤ 20
          · rw [ttl (by omega), ttl h6]
          · have : i = 20 := (by omega); rw [this]
        rw [← this]; exact hJ
      rw [hTA, Bool.true_and] at hV; have hgo2 : (¬ (i : Int) < T.length) ∨ ((i : Int) < T.length ∧ ¬ (i : Int) < 20) := (by omega); rcases hgo2 with e1 | ⟨e1, e2⟩
      all_goals
        by_cases w1 : l.length ≤ 12
        · have w1' : (l.length : Int) ≤ 12 := (by omega); by_cases w2 : T.length ≤ 20
          · have w2' : (T.length : Int) ≤ 20 := (by omega); by_cases w3 : C.length ≤ 20
            · have w3' : (C.length : Int) ≤ 20 := (by omega); simp only [w1, w2, w3, decide_true, Bool.and_self] at hV; subst hV; simp -implicitDefEqProofs [*]
            · have w3' : ¬ (C.length : Int) ≤ 20 := (by omega); simp only [w1, w2, w3, decide_true, decide_false, Bool.and_false] at hV; subst hV; simp -implicitDefEqProofs [*]
          · have w2' : ¬ (T.length : Int) ≤ 20 := (by omega); simp only [w1, w2, decide_true, decide_false, Bool.and_false, Bool.false_and] at hV; subst hV; simp -implicitDefEqProofs [*]
        · have w1' : ¬ (l.length : Int) ≤ 12 := (by omega); simp only [w1, decide_false, Bool.false_and] at hV; subst hV; simp -implicitDefEqProofs [*]
end Go.Proofs.Tz
namespace Go.Proofs.Tz
open Go.Vw Go.RowKit Go.Proofs Go.Sort
end Go.Proofs.Tz