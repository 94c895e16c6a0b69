/-
  What further functions of fold, slices and the document compute: contracts, for lists and strings of bounded size (each theorem states its bound).
-/
import Derived.Test.YtfljbolhljafdaaGreatDoorTa

set_option linter.unusedSimpArgs false
set_option linter.unusedVariables false

namespace Go.Proofs.Tz
open Go.Vw
set_option maxRecDepth 100000
set_option maxHeartbeats 4000000
set_option linter.unusedSimpArgs false

theorem upper_fn (c : UInt8) : Ctr Tryz.prog 72 [.d (u8 c)] (.d (.bool (decide (65 ≤ (c.toNat : Int)) && decide ((c.toNat : Int) ≤ 90)))) := by
  refine fn_of_vwp (fun _ => false) (by kernel_rfl) Tryz.func72 (by kernel_rfl) rfl rfl (Nat.le_of_ble_eq_true rfl) (by kernel_rfl) rfl rfl ?_
  by_cases h1 : 65 ≤ (c.toNat : Int) <;> simp [u8, h1]
theorem fletter_fn (c : UInt8) : Ctr Tryz.prog 70 [.d (u8 c)] (.d (.bool (isLetter c))) := by
  refine fn_of_vwp (fun _ => false) (by kernel_rfl) Tryz.func70 (by kernel_rfl) rfl rfl (Nat.le_of_ble_eq_true rfl) (by kernel_rfl) rfl rfl ?_
  simp -implicitDefEqProofs
  refine callK (upper_fn c) ?_
  by_cases h1 : 97 ≤ (c.toNat : Int) <;> by_cases h2 : (c.toNat : Int) ≤ 122 <;> by_cases h3 : 65 ≤ (c.toNat : Int) <;> by_cases h4 : (c.toNat : Int) ≤ 90 <;> simp -implicitDefEqProofs [u8, isLetter, h1, h2, h3, h4]
theorem fdigit_fn (c : UInt8) : Ctr Tryz.prog 71 [.d (u8 c)] (.d (.bool (isDigit c))) := by
  refine fn_of_vwp (fun _ => false) (by kernel_rfl) Tryz.func71 (by kernel_rfl) rfl rfl (Nat.le_of_ble_eq_true rfl) (by kernel_rfl) rfl rfl ?_
  by_cases h1 : 48 ≤ (c.toNat : Int) <;> simp [u8, isDigit, h1]
theorem allowed_fn (c : UInt8) : Ctr Tryz.prog 69 [.d (u8 c)] (.d (.bool (nameC c))) := by
  refine fn_of_vwp (fun _ => false) (by kernel_rfl) Tryz.func69 (by kernel_rfl) rfl rfl (Nat.le_of_ble_eq_true rfl) (by kernel_rfl) rfl rfl ?_
  simp -implicitDefEqProofs [u8]
  refine callK (fletter_fn c) ?_
  by_cases h1 : isLetter c = true
  · simp -implicitDefEqProofs [h1, nameC]
  · simp -implicitDefEqProofs [h1]
    refine callK (fdigit_fn c) ?_
    by_cases h2 : isDigit c = true <;> by_cases h3 : (c.toNat : Int) = 45 <;> simp [h1, h2, h3, nameC]
end Go.Proofs.Tz

namespace Go.Proofs.Tz
open Go.Vw
set_option maxRecDepth 100000
set_option maxHeartbeats 4000000
set_option linter.unusedSimpArgs false

def findA (n : Str) : List Att → List Str
  | [] => []
  | a :: l => if a.1 = n then a.2 else findA n l
def getL (l : List Att) (name : Str) : List Str := findA (lower name) (sortedL l)
theorem findA_drop {n : Str} {l : List Att} {k : Nat} (h : k < l.length) : findA n (l.drop k) = if l[k].1 = n then l[k].2 else findA n (l.drop (k + 1)) := by
  rw [List.drop_eq_getElem_cons h, findA]
theorem sorted_len (l : List Att) : (sortedL l).length ≤ l.length := by
  have := names_len l []
  simp only [List.length_nil, Nat.zero_add] at this
  simpa [sortedL, namesF] using this
theorem sorted_vals (l : List Att) : ∀ a ∈ sortedL l, a.2.length ≤ total l := by
  intro a ha
  simp only [sortedL, List.mem_map] at ha
  obtain ⟨n, _, rfl⟩ := ha
  simpa [valsF] using vals_len n l []
theorem findA_len (n : Str) (c : Nat) : ∀ (l : List Att), (∀ a ∈ l, a.2.length ≤ c) → (findA n l).length ≤ c
  | [], _ => by simp [findA]
  | a :: l, h => by
    rw [findA]
    split
    · exact h a (by simp)
    · exact findA_len n c l fun b hb => h b (by simp [hb])
theorem getL_len (l : List Att) (n : Str) : (getL l n).length ≤ total l := findA_len _ _ _ (sorted_vals l)

theorem getR_fn (l : List Att) (name : Str) (hl : Fit2 l) (hn : List.length name < 1000000) : Ctr Tryz.prog 22 [.d (atts l), .d (.str name)] (.d (strs (getL l name))) := by
  refine fn_of_vwp (fun _ => false) (by kernel_rfl) Tryz.func22 (by kernel_rfl) rfl rfl (Nat.le_of_ble_eq_true rfl) (by kernel_rfl) rfl rfl ?_
  simp -implicitDefEqProofs
  refine callK (sortedR_fn l hl) ?_
  have hs := sorted_len l
  have hl1 := hl.1.1
  generalize hS : sortedL l = s at *
  simp -implicitDefEqProofs
  refine loopN s.length (fun k τ => τ 1 = .d (.str name) ∧ τ 5 = .own false 42 (s.map att) ∧ τ 6 = .d (.int .i64 k) ∧ getL l name = findA (lower name) (s.drop k)) (by simp [getL, hS]) ?_
  rintro k τ hk ⟨h1, h5, h6, hg⟩
  by_cases hlt : k < s.length
  · rw [findA_drop hlt] at hg
    simp -implicitDefEqProofs [h1, h5, h6, hlt, att, strs]
    refine callP (lower_fn _ hn) ?_
    by_cases he : s[k].1 = lower name
    · simp -implicitDefEqProofs [h1, h5, h6, hlt, att, strs, he]
      rw [hg, if_pos he]
    · simp -implicitDefEqProofs [h1, h5, h6, hlt, att, strs, he]
      refine ⟨by omega, again hlt ⟨by simp [h1], by simp [h5], by simp, ?_⟩⟩
      rw [hg, if_neg he]
  · simp -implicitDefEqProofs [h1, h5, h6, hlt, att, strs]
    rw [hg, List.drop_eq_nil_of_le (by omega)]
    simp [findA]

theorem hasR_fn (l : List Att) (name v : Str) (hl : Fit2 l) (hn : List.length name < 1000000) : Ctr Tryz.prog 24 [.d (atts l), .d (.str name), .d (.str v)] (.d (.bool (decide (v ∈ getL l name)))) := by
  refine fn_of_vwp (fun _ => false) (by kernel_rfl) Tryz.func24 (by kernel_rfl) rfl rfl (Nat.le_of_ble_eq_true rfl) (by kernel_rfl) rfl rfl ?_
  simp -implicitDefEqProofs
  refine callK (getR_fn l name hl hn) ?_
  simp -implicitDefEqProofs
  have := getL_len l name
  have := hl.2
  refine callK (has_fn _ _ (by omega)) ?_
  simp -implicitDefEqProofs

def firsts (s : List Att) : List D := s.map fun a => .str a.1
theorem firsts_len (s : List Att) : (firsts s).length = s.length := by simp [firsts]
theorem firsts_take {s : List Att} {k : Nat} (h : k < s.length) : firsts (s.take (k + 1)) = firsts (s.take k) ++ [.str s[k].1] := by
  rw [take_s h]; simp only [firsts, List.map_append, List.map_cons, List.map_nil]

theorem namesR_fn (l : List Att) (hl : Fit2 l) : Ctr Tryz.prog 26 [.d (atts l)] (.own true 9 (firsts (sortedL l))) := by
  refine fn_of_vwp (fun i => i == 3) (by kernel_rfl) Tryz.func26 (by kernel_rfl) rfl rfl (Nat.le_of_ble_eq_true rfl) (by kernel_rfl) rfl rfl ?_
  simp -implicitDefEqProofs
  refine callK (sortedR_fn l hl) ?_
  have hs := sorted_len l
  have hl1 := hl.1.1
  generalize hS : sortedL l = s at *
  simp -implicitDefEqProofs
  refine loopN s.length (fun k τ => τ 4 = .own false 42 (s.map att) ∧ τ 5 = .d (.int .i64 k) ∧ τ 3 = .own true 9 (firsts (s.take k))) (by simp [firsts]) ?_
  rintro k τ hk ⟨h4, h5, h3⟩
  by_cases hlt : k < s.length
  · simp -implicitDefEqProofs [h3, h4, h5, hlt, att, strs, firsts_len]
    refine ⟨by omega, by omega, by omega, again hlt ⟨by simp [h4], by simp, ?_⟩⟩
    simp -implicitDefEqProofs [firsts_take hlt]
  · rw [List.take_of_length_le (by omega)] at h3
    simp -implicitDefEqProofs [h3, h4, h5, hlt, att, strs]
    all_goals omega

theorem made_fn (s : Str) (hs : List.length s < 1000000) : Ctr Tryz.prog 68 [.d (.str s), .d (.clo 69 [])] (.d (.bool (s.all nameC && decide (s ≠ []) && decide (s.length ≤ 64)))) := by
  refine fn_of_vwp (fun _ => false) (by kernel_rfl) Tryz.func68 (by kernel_rfl) rfl rfl (Nat.le_of_ble_eq_true rfl) (by kernel_rfl) rfl rfl ?_
  simp -implicitDefEqProofs
  refine loopN (List.length s) (fun k τ => τ 0 = .d (.str s) ∧ τ 1 = .d (.clo 69 []) ∧ τ 7 = .d (.int .i64 (List.length s)) ∧ τ 8 = .d (.int .i64 k) ∧ ∀ x ∈ s.take k, nameC x = true) (by simp) ?_
  rintro k τ hk ⟨h0, h1, h7, h8, ha⟩
  by_cases hlt : k < List.length s
  · simp -implicitDefEqProofs [h0, h1, h7, h8, hlt]
    refine callK (allowed_fn s[k]) ?_
    by_cases e1 : nameC s[k] = true
    · simp -implicitDefEqProofs [h0, h1, h7, h8, hlt, e1]
      exact ⟨by omega, again hlt ⟨by simp [h0], by simp [h1], by simp [h7], by simp, all_take hlt ha e1⟩⟩
    · simp -implicitDefEqProofs [h0, h1, h7, h8, hlt, e1]
      intro h
      exact absurd (h _ (List.getElem_mem hlt)) e1
  · rw [List.take_of_length_le (by omega)] at ha
    have hall : List.all s nameC = true := by simpa using ha
    by_cases e2 : s = []
    · simp -implicitDefEqProofs [h0, h1, h7, h8, hlt, e2]
    · simp -implicitDefEqProofs [h0, h1, h7, h8, hlt, e2, hall]
      all_goals omega

theorem fname_fn (s : Str) (hs : List.length s < 1000000) : Ctr Tryz.prog 36 [.d (.str s)] (.d (.bool (nameB s))) := by
  refine fn_of_vwp (fun _ => false) (by kernel_rfl) Tryz.func36 (by kernel_rfl) rfl rfl (Nat.le_of_ble_eq_true rfl) (by kernel_rfl) rfl rfl ?_
  simp -implicitDefEqProofs
  refine callK (made_fn s hs) ?_
  by_cases e : (s.all nameC && decide (s ≠ []) && decide (s.length ≤ 64)) = true
  · have e0 := e
    simp only [Bool.and_eq_true, decide_eq_true_eq] at e
    obtain ⟨⟨e1, e2⟩, e3⟩ := e
    obtain ⟨c, t, rfl⟩ := List.exists_cons_of_ne_nil e2
    simp only [e0]
    simp -implicitDefEqProofs
    refine callK (fletter_fn c) ?_
    have e4 : (List.length (c :: t)) ≤ 64 := e3
    simp -implicitDefEqProofs [nameB, e1, e4]
    intro _
    simpa using e4
  · rw [Bool.not_eq_true] at e
    simp only [e]
    simp -implicitDefEqProofs [nameB]
    intro h1 h2 _
    have hne : s ≠ [] := by
      rintro rfl
      simp at h1
    simpa [hne, h2] using e
end Go.Proofs.Tz

namespace Go.Proofs.Tz
open Go.Vw
set_option maxRecDepth 100000
set_option maxHeartbeats 4000000
set_option linter.unusedSimpArgs false

def fil (n : Str) (s : List Att) : List Att := s.filter fun a => !decide (a.1 = n)
def withoutL (l : List Att) (name : Str) : List Att := fil (lower name) (sortedL l)
def filD (n : Str) (s : List Att) : List D := (fil n s).map att
theorem filD_len (n : Str) (s : List Att) : (filD n s).length ≤ s.length := by simpa [filD, fil] using List.length_filter_le _ s
theorem filD_take {n : Str} {s : List Att} {k : Nat} (h : k < s.length) : filD n (s.take (k + 1)) = filD n (s.take k) ++ if s[k].1 = n then [] else [att s[k]] := by
  rw [take_s h]
  simp only [filD, fil, List.filter_append, List.map_append, List.filter_cons, List.filter_nil]
  by_cases he : s[k].1 = n <;> simp [he]
theorem filD_width (n : Str) (s : List Att) : ∀ u ∈ filD n s, width u = 2 := by
  intro u hu
  simp only [filD, List.mem_map] at hu
  obtain ⟨a, _, rfl⟩ := hu
  rfl

theorem without_fn (l : List Att) (name : Str) (hl : Fit2 l) (hn : List.length name < 1000000) : Ctr Tryz.prog 66 [.d (atts l), .d (.str name)] (.own true 42 ((withoutL l name).map att)) := by
  refine fn_of_vwp (fun i => i == 5) (by kernel_rfl) Tryz.func66 (by kernel_rfl) rfl rfl (Nat.le_of_ble_eq_true rfl) (by kernel_rfl) rfl rfl ?_
  simp -implicitDefEqProofs
  refine callK (sortedR_fn l hl) ?_
  have hs := sorted_len l
  have hl1 := hl.1.1
  rw [show (withoutL l name).map att = filD (lower name) (sortedL l) from rfl]
  generalize sortedL l = s at *
  simp -implicitDefEqProofs
  refine loopN s.length (fun k τ => τ 1 = .d (.str name) ∧ τ 6 = .own false 42 (s.map att) ∧ τ 7 = .d (.int .i64 k) ∧ τ 5 = .own true 42 (filD (lower name) (s.take k))) (by simp [filD, fil]) ?_
  rintro k τ hk ⟨h1, h6, h7, h5⟩
  by_cases hlt : k < s.length
  · have hlen := filD_len (lower name) (s.take k)
    have hft := filD_take (n := lower name) hlt
    rw [List.length_take] at hlen
    generalize filD (lower name) (s.take k) = out at *
    simp -implicitDefEqProofs [h1, h5, h6, h7, hlt, att, strs]
    refine callP (lower_fn _ hn) ?_
    by_cases he : s[k].1 = lower name
    · simp -implicitDefEqProofs [h1, h5, h6, h7, hlt, att, strs, he]
      refine ⟨by omega, again hlt ⟨by simp [h1], by simp [h6], by simp, ?_⟩⟩
      simp -implicitDefEqProofs [hft, he, h5]
    · simp -implicitDefEqProofs [h1, h5, h6, h7, hlt, att, strs, he]
      refine ⟨by omega, by omega, by omega, again hlt ⟨by simp [h1], by simp [h6], by simp, ?_⟩⟩
      simp -implicitDefEqProofs [hft, he, att, strs]
  · rw [List.take_of_length_le (by omega)] at h5
    simp -implicitDefEqProofs [h1, h5, h6, h7, hlt, att, strs]
    all_goals omega

def withL (l : List Att) (name : Str) (v : List Str) : List Att × Int :=
  if 32 < (sortedL (withoutL l name ++ [(name, v)])).length ∨ 16 < v.length then ([], 3) else (sortedL (withoutL l name ++ [(name, v)]), 0)

theorem with_fn (l : List Att) (name : Str) (v : List Str) (hl : Fit2 l) (hn : List.length name < 1000000) (hw : Fit2 (withoutL l name ++ [(name, v)])) :
    Ctr Tryz.prog 63 [.d (atts l), .d (.str name), .d (strs v)] (.tup [.d (atts (withL l name v).1), .d (.int .i64 (withL l name v).2)]) := by
  refine fn_of_vwp2 (fun _ => false) (by kernel_rfl) Tryz.func63 (by kernel_rfl) rfl rfl (Nat.le_of_ble_eq_true rfl) (by kernel_rfl) rfl rfl ?_
  simp -implicitDefEqProofs
  refine callK (without_fn l name hl hn) ?_
  have hwl : (withoutL l name).length < 1000000 := by
    have := hw.1.1
    rw [List.length_append] at this
    all_goals omega
  have hf := sortedR_fn _ hw
  have hlen : (sortedL (withoutL l name ++ [(name, v)])).length < 1000000 := Nat.lt_of_le_of_lt (sorted_len _) hw.1.1
  have hwv : v.length < 1000000 := (hw.1.2 (name, v) (by simp)).2
  simp only [atts, att, List.map_append, List.map_cons, List.map_nil] at hf
  rw [withL]
  generalize sortedL (withoutL l name ++ [(name, v)]) = out at *
  generalize withoutL l name = wo at *
  simp -implicitDefEqProofs [strs]
  refine ⟨by omega, by omega, callK hf ?_⟩
  by_cases h1 : 32 < (out.length : Int)
  · have h1' : 32 < out.length := by omega
    simp -implicitDefEqProofs [h1, h1', atts, strs]
    all_goals (intro h; omega)
  · have h1' : ¬ 32 < out.length := by omega
    by_cases h2 : 16 < (v.length : Int)
    · have h2' : 16 < v.length := by omega
      simp -implicitDefEqProofs [h1, h1', h2, h2', atts, strs]
    · have h2' : ¬ 16 < v.length := by omega
      simp -implicitDefEqProofs [h1, h1', h2, h2', atts, strs]
      all_goals omega

def addR (l : List Att) (name : Str) (v : List Str) : List Att × Int :=
  if nameB name = false then ([], 5) else if v = [] then ([], 6) else if chkV (getL l name) [] v ≠ 0 then ([], chkV (getL l name) [] v) else withL l name (getL l name ++ v)
def replaceR (l : List Att) (name : Str) (v : List Str) : List Att × Int :=
  if nameB name = false then ([], 5) else if chkV [] [] v ≠ 0 then ([], chkV [] [] v) else withL l name v

theorem replaceR_fn (l : List Att) (name : Str) (v : List Str) (hl : Fit2 l) (hn : List.length name < 1000000) (hv : v.length < 1000000) (hw : Fit2 (withoutL l name ++ [(name, v)])) :
    Ctr Tryz.prog 34 [.d (atts l), .d (.str name), .d (strs v)] (.tup [.d (atts (replaceR l name v).1), .d (.int .i64 (replaceR l name v).2)]) := by
  refine fn_of_vwp2 (fun _ => false) (by kernel_rfl) Tryz.func34 (by kernel_rfl) rfl rfl (Nat.le_of_ble_eq_true rfl) (by kernel_rfl) rfl rfl ?_
  simp -implicitDefEqProofs
  refine callK (name_fn name) ?_
  by_cases e1 : nameB name = true
  · simp -implicitDefEqProofs [e1]
    have hf := checkValues_fn v [] hv (by simp)
    simp only [strs, List.map_nil] at hf
    refine callK hf ?_
    by_cases e2 : chkV [] [] v = 0
    · simp -implicitDefEqProofs [e2]
      refine callK (with_fn l name v hl hn hw) ?_
      simp -implicitDefEqProofs [replaceR, e1, e2]
    · simp -implicitDefEqProofs [e2, replaceR, e1, atts]
  · simp -implicitDefEqProofs [e1, replaceR, atts]

theorem addR_fn (l : List Att) (name : Str) (v : List Str) (hl : Fit2 l) (hn : List.length name < 1000000) (hv : v.length < 500000) (hw : Fit2 (withoutL l name ++ [(name, getL l name ++ v)])) :
    Ctr Tryz.prog 30 [.d (atts l), .d (.str name), .d (strs v)] (.tup [.d (atts (addR l name v).1), .d (.int .i64 (addR l name v).2)]) := by
  refine fn_of_vwp2 (fun _ => false) (by kernel_rfl) Tryz.func30 (by kernel_rfl) rfl rfl (Nat.le_of_ble_eq_true rfl) (by kernel_rfl) rfl rfl ?_
  simp -implicitDefEqProofs
  refine callK (name_fn name) ?_
  by_cases e1 : nameB name = true
  · by_cases e0 : v = []
    · simp -implicitDefEqProofs [e1, e0, addR, atts, strs]
    · have e0' : ¬ (v.length : Int) = 0 := by simpa using e0
      simp -implicitDefEqProofs [e1, e0, e0', strs]
      refine callK (getR_fn l name hl hn) ?_
      have hgl := getL_len l name
      have hl2 := hl.2
      simp -implicitDefEqProofs
      have hf := checkValues_fn v (getL l name) (by omega) (by omega)
      simp only [strs] at hf
      refine callK hf ?_
      by_cases e2 : chkV (getL l name) [] v = 0
      · simp -implicitDefEqProofs [e2]
        have hf := with_fn l name (getL l name ++ v) hl hn hw
        simp only [strs, List.map_append] at hf
        simp -implicitDefEqProofs [strs]
        refine ⟨by omega, by omega, by omega, by omega, callK hf ?_⟩
        simp -implicitDefEqProofs [addR, e1, e0, e2]
      · simp -implicitDefEqProofs [e2, addR, e1, e0, atts]
  · simp -implicitDefEqProofs [e1, addR, atts]
end Go.Proofs.Tz

namespace Go.Proofs.Tz
open Go.Vw
set_option maxRecDepth 100000
set_option maxHeartbeats 4000000
set_option linter.unusedSimpArgs false

def badR (old : List Str) : List Str → List Str → Bool
  | _, [] => false
  | b, x :: l => decide (x ∉ old) || decide (x ∈ b) || badR old (b ++ [x]) l
theorem badR_drop {old l : List Str} {k : Nat} (h : k < l.length) : badR old (l.take k) (l.drop k) = (decide (l[k] ∉ old) || decide (l[k] ∈ l.take k) || badR old (l.take (k + 1)) (l.drop (k + 1))) := by
  rw [List.drop_eq_getElem_cons h, badR, take_s h]
def leftL (v old : List Str) : List Str := old.filter fun x => !decide (v = []) && !decide (x ∈ v)
theorem leftL_take {v s : List Str} {k : Nat} (h : k < s.length) : leftL v (s.take (k + 1)) = leftL v (s.take k) ++ if v = [] ∨ s[k] ∈ v then [] else [s[k]] := by
  rw [take_s h]
  simp only [leftL, List.filter_append, List.filter_cons, List.filter_nil]
  by_cases he : v = [] <;> by_cases h2 : s[k] ∈ v <;> simp [he, h2]
theorem leftL_len (v s : List Str) : (leftL v s).length ≤ s.length := List.length_filter_le _ s
def removeR (l : List Att) (name : Str) (v : List Str) : List Att × Int :=
  if nameB name = false then ([], 5) else if getL l name = [] then ([], 6) else if badR (getL l name) [] v = true then ([], 6) else (sortedL (withoutL l name ++ [(name, leftL v (getL l name))]), 0)

theorem removeR_fn (l : List Att) (name : Str) (v : List Str) (hl : Fit2 l) (hn : List.length name < 1000000) (hv : v.length < 500000) (hw : Fit2 (withoutL l name ++ [(name, leftL v (getL l name))])) :
    Ctr Tryz.prog 32 [.d (atts l), .d (.str name), .d (strs v)] (.tup [.d (atts (removeR l name v).1), .d (.int .i64 (removeR l name v).2)]) := by
  refine fn_of_vwp2 (fun _ => false) (by kernel_rfl) Tryz.func32 (by kernel_rfl) rfl rfl (Nat.le_of_ble_eq_true rfl) (by kernel_rfl) rfl rfl ?_
  simp -implicitDefEqProofs
  refine callK (name_fn name) ?_
  by_cases e1 : nameB name = true
  · simp -implicitDefEqProofs [e1]
    refine callK (getR_fn l name hl hn) ?_
    have hgl := getL_len l name
    have hl2 := hl.2
    have hwl : (withoutL l name).length < 1000000 := by
      have := hw.1.1
      rw [List.length_append] at this
      all_goals omega
    by_cases e2 : getL l name = []
    · simp -implicitDefEqProofs [e2, removeR, e1, atts, strs]
    · have e2' : ¬ ((getL l name).length : Int) = 0 := by simpa using e2
      rw [show removeR l name v = if badR (getL l name) [] v = true then ([], 6) else (sortedL (withoutL l name ++ [(name, leftL v (getL l name))]), 0) by simp [removeR, e1, e2]]
      have hwo := without_fn l name hl hn
      have hso := sortedR_fn _ hw
      simp only [atts, att, List.map_append, List.map_cons, List.map_nil] at hso
      generalize hold : getL l name = old at *
      simp -implicitDefEqProofs [e2, e2', strs]
      refine loopN v.length (fun k τ => τ 0 = .d (atts l) ∧ τ 1 = .d (.str name) ∧ τ 2 = .d (strs v) ∧ τ 8 = .d (strs old) ∧ τ 9 = .d (.int .i64 k) ∧ badR old [] v = badR old (v.take k) (v.drop k)) (by simp [strs]) ?_
      rintro k τ hk ⟨h0, h1, h2, h8, h9, hb⟩
      by_cases hlt : k < v.length
      · rw [badR_drop hlt] at hb
        simp -implicitDefEqProofs [h0, h1, h2, h8, h9, hlt, strs]
        refine callP (has_fn old v[k] (by omega)) ?_
        by_cases e3 : v[k] ∈ old
        · simp -implicitDefEqProofs [h0, h1, h2, h8, h9, hlt, strs, e3]
          have hf := has_fn (v.take k) v[k] (by rw [List.length_take]; omega)
          simp only [strs, List.map_take] at hf
          refine ⟨hk, callP hf ?_⟩
          by_cases e4 : v[k] ∈ v.take k
          · simp -implicitDefEqProofs [h0, h1, h2, h8, h9, hlt, strs, e3, e4]
            simp -implicitDefEqProofs [hb, e4, atts]
          · simp -implicitDefEqProofs [h0, h1, h2, h8, h9, hlt, strs, e3, e4]
            refine ⟨by omega, again hlt ⟨by simp [h0], by simp [h1], by simp [h2, strs], by simp [h8, strs], by simp, ?_⟩⟩
            rw [hb]; simp [e3, e4]
        · simp -implicitDefEqProofs [h0, h1, h2, h8, h9, hlt, strs, e3]
          simp -implicitDefEqProofs [hb, e3, atts]
      · have hb0 : badR old [] v = false := by rw [hb, List.drop_eq_nil_of_le (by omega)]; rfl
        simp -implicitDefEqProofs [h0, h1, h2, h8, h9, hlt, strs, hb0]
        refine loopN old.length (fun k τ => τ 0 = .d (atts l) ∧ τ 1 = .d (.str name) ∧ τ 2 = .d (strs v) ∧ τ 8 = .d (strs old) ∧ τ 11 = .d (.int .i64 k) ∧ τ 10 = .own false 9 ((leftL v (old.take k)).map .str)) (by simp [strs, h0, h1, h2, h8, leftL]) ?_
        clear h0 h1 h2 h8 h9 hb hlt hk τ k
        rintro k τ hk ⟨h0, h1, h2, h8, h11, h10⟩
        by_cases hlt : k < old.length
        · have hlen := leftL_len v (old.take k)
          have hft := leftL_take (v := v) hlt
          rw [List.length_take] at hlen
          generalize leftL v (old.take k) = out at *
          by_cases e5 : v = []
          · simp -implicitDefEqProofs [h0, h1, h2, h8, h10, h11, hlt, strs, e5]
            refine ⟨by omega, again hlt ⟨by simp [h0], by simp [h1], by simp [h2, strs, e5], by simp [h8, strs], by simp, ?_⟩⟩
            rw [e5] at hft
            simp -implicitDefEqProofs [hft, h10]
          · have e5' : 0 < v.length := List.length_pos_iff.2 e5
            simp -implicitDefEqProofs [h0, h1, h2, h8, h10, h11, hlt, strs, e5']
            have hf := has_fn v old[k] (by omega)
            simp only [strs] at hf
            refine callK hf ?_
            by_cases e6 : old[k] ∈ v
            · simp -implicitDefEqProofs [h0, h1, h2, h8, h10, h11, hlt, strs, e5', e6]
              refine ⟨by omega, again hlt ⟨by simp [h0], by simp [h1], by simp [h2, strs], by simp [h8, strs], by simp, ?_⟩⟩
              simp -implicitDefEqProofs [hft, e6, h10]
            · simp -implicitDefEqProofs [h0, h1, h2, h8, h10, h11, hlt, strs, e5', e6]
              refine ⟨by omega, by omega, by omega, again hlt ⟨by simp [h0], by simp [h1], by simp [h2, strs], by simp [h8, strs], by simp, ?_⟩⟩
              simp -implicitDefEqProofs [hft, e6, e5]
        · rw [List.take_of_length_le (by omega)] at h10
          simp -implicitDefEqProofs [h0, h1, h2, h8, h10, h11, hlt, strs]
          refine callK hwo ?_
          simp -implicitDefEqProofs [h0, h1, h2, h8, h10, h11, hlt, strs]
          refine ⟨by omega, by omega, ?_⟩
          simp only [strs] at hso
          refine callK hso ?_
          simp -implicitDefEqProofs [atts]
  · simp -implicitDefEqProofs [e1, removeR, atts]
end Go.Proofs.Tz

namespace Go.Proofs.Tz
open Go.Vw
set_option maxRecDepth 100000
set_option maxHeartbeats 4000000
set_option linter.unusedSimpArgs false

def wantB (ns : List Str) (x : Str) : Bool := ns.any fun n => decide (lower n = x)
def wanted (ns : List Str) (a : Att) : Bool := decide (ns = []) || wantB ns a.1
theorem wantB_take {ns : List Str} {x : Str} {k : Nat} (h : k < ns.length) : wantB (ns.take (k + 1)) x = (wantB (ns.take k) x || decide (lower ns[k] = x)) := by
  rw [take_s h]; simp only [wantB, List.any_append, List.any_cons, List.any_nil, Bool.or_false]
def pickL (l : List Att) (ns : List Str) : List Att := (sortedL l).filter (wanted ns)
def pickD (ns : List Str) (s : List Att) : List D := (s.filter (wanted ns)).map att
theorem pickD_len (n : List Str) (s : List Att) : (pickD n s).length ≤ s.length := by simpa [pickD] using List.length_filter_le _ s
theorem pickD_take {n : List Str} {s : List Att} {k : Nat} (h : k < s.length) : pickD n (s.take (k + 1)) = pickD n (s.take k) ++ if wanted n s[k] = true then [att s[k]] else [] := by
  rw [take_s h]
  simp only [pickD, List.filter_append, List.map_append, List.filter_cons, List.filter_nil]
  by_cases he : wanted n s[k] = true <;> simp [he]

theorem pickR_fn (l : List Att) (ns : List Str) (hl : Fit2 l) (hn : ns.length < 1000000) (hn2 : ∀ n ∈ ns, List.length n < 1000000) : Ctr Tryz.prog 28 [.d (atts l), .d (strs ns)] (.own true 42 ((pickL l ns).map att)) := by
  refine fn_of_vwp (fun i => i == 5) (by kernel_rfl) Tryz.func28 (by kernel_rfl) rfl rfl (Nat.le_of_ble_eq_true rfl) (by kernel_rfl) rfl rfl ?_
  simp -implicitDefEqProofs
  refine callK (sortedR_fn l hl) ?_
  have hs := sorted_len l
  have hl1 := hl.1.1
  rw [show (pickL l ns).map att = pickD ns (sortedL l) from rfl]
  generalize sortedL l = s at *
  simp -implicitDefEqProofs
  refine loopN s.length (fun k τ => τ 1 = .d (strs ns) ∧ τ 6 = .own false 42 (s.map att) ∧ τ 7 = .d (.int .i64 k) ∧ τ 5 = .own true 42 (pickD ns (s.take k))) (by simp [pickD]) ?_
  rintro k τ hk ⟨h1, h6, h7, h5⟩
  by_cases hlt : k < s.length
  · have hlen := pickD_len ns (s.take k)
    have hft := pickD_take (n := ns) hlt
    rw [List.length_take] at hlen
    generalize pickD ns (s.take k) = out at *
    simp -implicitDefEqProofs [h1, h5, h6, h7, hlt, strs]
    refine loopN ns.length (fun j τ => τ 1 = .d (strs ns) ∧ τ 6 = .own false 42 (s.map att) ∧ τ 7 = .d (.int .i64 k) ∧ τ 5 = .own true 42 out ∧ τ 9 = .d (.int .i64 j) ∧ τ 8 = .d (.bool (decide (ns = []) || wantB (ns.take j) s[k].1))) (by simp [h1, h5, h6, h7, strs, wantB]) ?_
    clear h1 h6 h7 h5 τ
    rintro j τ hj ⟨h1, h6, h7, h5, h9, h8⟩
    by_cases hlt2 : j < ns.length
    · have hw := wantB_take (x := s[k].1) hlt2
      have hne : ¬ ns = [] := by rintro rfl; simp at hlt2
      generalize wantB (ns.take j) s[k].1 = b at *
      cases b with
      | true =>
        simp -implicitDefEqProofs [h1, h5, h6, h7, h8, h9, hlt, hlt2, att, strs, hne]
        refine ⟨by omega, again hlt2 ⟨by simp [h1, strs], by simp [h6], by simp [h7], by simp [h5], by simp, ?_⟩⟩
        simp -implicitDefEqProofs [hw, hne]
      | false =>
        simp -implicitDefEqProofs [h1, h5, h6, h7, h8, h9, hlt, hlt2, att, strs, hne]
        refine callP (lower_fn _ (hn2 _ (List.getElem_mem hlt2))) ?_
        simp -implicitDefEqProofs [h1, h5, h6, h7, h8, h9, hlt, hlt2, att, strs, hne]
        refine ⟨by omega, again hlt2 ⟨by simp [h1, strs], by simp [h6], by simp [h7], by simp [h5], by simp, ?_⟩⟩
        simp -implicitDefEqProofs [hw, hne]
    · rw [List.take_of_length_le (by omega), show (decide (ns = []) || wantB ns s[k].1) = wanted ns s[k] from rfl] at h8
      generalize wanted ns s[k] = b at *
      cases b with
      | true =>
        simp -implicitDefEqProofs [h1, h5, h6, h7, h8, h9, hlt, hlt2, att, strs]
        refine ⟨by omega, by omega, by omega, again hlt ⟨by simp [h1, strs], by simp [h6], by simp, ?_⟩⟩
        simp -implicitDefEqProofs [hft, att, strs]
      | false =>
        simp -implicitDefEqProofs [h1, h5, h6, h7, h8, h9, hlt, hlt2, att, strs]
        refine ⟨by omega, again hlt ⟨by simp [h1, strs], by simp [h6], by simp, ?_⟩⟩
        simp -implicitDefEqProofs [hft, h5]
  · rw [List.take_of_length_le (by omega)] at h5
    simp -implicitDefEqProofs [h1, h5, h6, h7, hlt, att, strs]
end Go.Proofs.Tz

namespace Go.Proofs.Tz
open Go.Vw
set_option maxRecDepth 100000
set_option maxHeartbeats 4000000
set_option linter.unusedSimpArgs false

/-- The number of the first element that has p, or -1. -/
def idxG {α : Type} (p : α → Bool) : Nat → List α → Int
  | _, [] => -1
  | k, x :: l => if p x = true then k else idxG p (k + 1) l
theorem idxG_drop {α : Type} {p : α → Bool} {l : List α} {k : Nat} (h : k < l.length) : idxG p k (l.drop k) = if p l[k] = true then (k : Int) else idxG p (k + 1) (l.drop (k + 1)) := by
  rw [List.drop_eq_getElem_cons h, idxG]

theorem index_fn (l : List Str) (s : Str) (hl : l.length < 1000000) : Ctr Tryz.prog 64 [.d (strs l), .d (.str s)] (.d (.int .i64 (idxG (fun x => decide (s = x)) 0 l))) := by
  refine fn_of_vwp (fun _ => false) (by kernel_rfl) Tryz.func64 (by kernel_rfl) rfl rfl (Nat.le_of_ble_eq_true rfl) (by kernel_rfl) rfl rfl ?_
  simp -implicitDefEqProofs [strs]
  refine loopN l.length (fun k τ => τ 0 = .d (strs l) ∧ τ 1 = .d (.str s) ∧ τ 7 = .d (.int .i64 l.length) ∧ τ 8 = .d (.int .i64 k) ∧ idxG (fun x => decide (s = x)) 0 l = idxG (fun x => decide (s = x)) k (l.drop k)) (by simp [strs]) ?_
  rintro k τ hk ⟨h0, h1, h7, h8, hi⟩
  by_cases hlt : k < l.length
  · rw [idxG_drop hlt] at hi
    by_cases he : s = l[k]
    · simp -implicitDefEqProofs [h0, h1, h7, h8, strs, hlt, ← he]
      rw [hi]; simp [← he]
    · simp -implicitDefEqProofs [h0, h1, h7, h8, strs, hlt, he]
      refine ⟨by omega, again hlt ⟨by simp [h0, strs], by simp [h1], by simp [h7], by simp, ?_⟩⟩
      rw [hi]; simp [he]
  · simp -implicitDefEqProofs [h0, h1, h7, h8, strs, hlt]
    rw [hi, List.drop_eq_nil_of_le (by omega)]
    simp -implicitDefEqProofs [idxG]

theorem eqS_fn (l m : List Str) (hl : l.length < 1000000) (hm : m.length < 1000000) : Ctr Tryz.prog 53 [.d (strs l), .d (strs m)] (.d (.bool (decide (l = m)))) := by
  refine fn_of_vwp (fun _ => false) (by kernel_rfl) Tryz.func53 (by kernel_rfl) rfl rfl (Nat.le_of_ble_eq_true rfl) (by kernel_rfl) rfl rfl ?_
  by_cases hlm : l.length = m.length
  · simp -implicitDefEqProofs [strs, hlm]
    refine loopN m.length (fun k τ => τ 0 = .d (strs l) ∧ τ 1 = .d (strs m) ∧ τ 12 = .d (.int .i64 m.length) ∧ τ 13 = .d (.int .i64 k) ∧ l.take k = m.take k) (by simp [strs, hlm]) ?_
    rintro k τ hk ⟨h0, h1, h12, h13, ht⟩
    by_cases hlt : k < m.length
    · have hlt' : k < l.length := by omega
      by_cases he : l[k] = m[k]
      · simp -implicitDefEqProofs [h0, h1, h12, h13, strs, hlm, hlt, hlt', he]
        refine ⟨by omega, again hlt ⟨by simp [h0, strs], by simp [h1, strs], by simp [h12], by simp, ?_⟩⟩
        rw [take_s hlt, take_s hlt', ht, he]
      · simp -implicitDefEqProofs [h0, h1, h12, h13, strs, hlm, hlt, hlt', he]
        rintro rfl
        exact he rfl
    · rw [List.take_of_length_le (by omega), List.take_of_length_le (by omega)] at ht
      simp -implicitDefEqProofs [h0, h1, h12, h13, strs, hlm, hlt, ht]
  · have hlm' : ¬ (l.length : Int) = m.length := by omega
    simp -implicitDefEqProofs [strs, hlm']
    rintro rfl
    exact hlm rfl
end Go.Proofs.Tz

namespace Go.Proofs.Tz
open Go.Vw
set_option maxRecDepth 100000
set_option maxHeartbeats 4000000
set_option linter.unusedSimpArgs false

theorem idxG_ge {α : Type} (p : α → Bool) : ∀ (l : List α) (k : Nat), (0 ≤ idxG p k l) = (∃ x ∈ l, p x = true)
  | [], k => by simp [idxG]
  | x :: l, k => by
    rw [idxG]
    by_cases h : p x = true
    · simp -implicitDefEqProofs [h]
    · rw [if_neg h, idxG_ge p l (k + 1)]; simp [h]

theorem contains_fn (l : List Str) (s : Str) (hl : l.length < 1000000) : Ctr Tryz.prog 55 [.d (strs l), .d (.str s)] (.d (.bool (decide (s ∈ l)))) := by
  refine fn_of_vwp (fun _ => false) (by kernel_rfl) Tryz.func55 (by kernel_rfl) rfl rfl (Nat.le_of_ble_eq_true rfl) (by kernel_rfl) rfl rfl ?_
  simp -implicitDefEqProofs
  refine callK (index_fn l s hl) ?_
  simp -implicitDefEqProofs [idxG_ge]

theorem indexA_fn (g : FuncId) (cs : List D) (hcs : (cs.all fun c => !c.isAgg) = true) (p : Att → Bool) (l : List Att) (hl : l.length < 1000000) (hp : ∀ a ∈ l, Ctr Tryz.prog g ([.d (att a)] ++ cs.map .d) (.d (.bool (p a)))) :
    Ctr Tryz.prog 42 [.d (atts l), .d (.clo g cs)] (.d (.int .i64 (idxG p 0 l))) := by
  refine fn_of_vwp (fun _ => false) (by kernel_rfl) Tryz.func42 (by kernel_rfl) rfl rfl (Nat.le_of_ble_eq_true rfl) (by kernel_rfl) rfl rfl ?_
  simp -implicitDefEqProofs [atts]
  refine loopN l.length (fun k τ => τ 0 = .d (atts l) ∧ τ 1 = .d (.clo g cs) ∧ τ 7 = .d (.int .i64 l.length) ∧ τ 8 = .d (.int .i64 k) ∧ idxG p 0 l = idxG p k (l.drop k)) (by simp [atts]) ?_
  rintro k τ hk ⟨h0, h1, h7, h8, hi⟩
  by_cases hlt : k < l.length
  · rw [idxG_drop hlt] at hi
    have hf := hp _ (List.getElem_mem hlt)
    simp only [att, strs, List.cons_append, List.nil_append] at hf
    simp -implicitDefEqProofs [h0, h1, h7, h8, atts, att, strs, hlt]
    refine ⟨by simpa using hcs, callK hf ?_⟩
    by_cases he : p l[k] = true
    · simp -implicitDefEqProofs [h0, h1, h7, h8, atts, att, strs, hlt, he]
      rw [hi, if_pos he]
    · simp -implicitDefEqProofs [h0, h1, h7, h8, atts, att, strs, hlt, he]
      refine ⟨by omega, again hlt ⟨by simp [h0, atts, att, strs], by simp [h1], by simp [h7], by simp, ?_⟩⟩
      rw [hi, if_neg he]
  · simp -implicitDefEqProofs [h0, h1, h7, h8, atts, hlt]
    rw [hi, List.drop_eq_nil_of_le (by omega)]
    simp -implicitDefEqProofs [idxG]

theorem findP_fn (a : Att) (n : Str) : Ctr Tryz.prog 79 [.d (att a), .d (.ref (.str n))] (.d (.bool (decide (a.1 = n)))) := by
  refine fn_of_vwp (fun _ => false) (by kernel_rfl) Tryz.func79 (by kernel_rfl) rfl rfl (Nat.le_of_ble_eq_true rfl) (by kernel_rfl) rfl rfl ?_
  simp -implicitDefEqProofs [att, strs]
theorem sortedP_fn (a : Att) (n : Str) : Ctr Tryz.prog 43 [.d (att a), .d (.ref (.str n))] (.d (.bool (decide (a.1 = n)))) := by
  refine fn_of_vwp (fun _ => false) (by kernel_rfl) Tryz.func43 (by kernel_rfl) rfl rfl (Nat.le_of_ble_eq_true rfl) (by kernel_rfl) rfl rfl ?_
  simp -implicitDefEqProofs [att, strs]
end Go.Proofs.Tz

namespace Go.Proofs.Tz
open Go.Vw
set_option maxRecDepth 100000
set_option maxHeartbeats 4000000
set_option linter.unusedSimpArgs false

/-- The head of a slice. -/
abbrev Sl := Option Addr × Nat × Nat

/-- A row of two cells, one of which bears a named slice. -/
def rw2 (x : Str × Sl) : D := .agg [.str x.1, .raw (.slice x.2.1 x.2.2.1 x.2.2.2)]

def idxR {α : Type} (p : α → Bool) : Nat → List α → Int
  | _, [] => -1
  | k, x :: l => if p x then k else idxR p (k + 1) l
theorem idxR_drop {α : Type} {p : α → Bool} {l : List α} {k : Nat} (h : k < l.length) : idxR p k (l.drop k) = if p l[k] then (k : Int) else idxR p (k + 1) (l.drop (k + 1)) := by
  rw [List.drop_eq_getElem_cons h, idxR]

/-- slices.IndexFunc of rows with named slices. -/
theorem indexR_fn (g : FuncId) (cs : List D) (hcs : (cs.all fun c => !c.isAgg) = true) (p : Str × Sl → Bool) (l : List (Str × Sl)) (hl : l.length < 1000000) (hp : ∀ a ∈ l, Ctr Tryz.prog g ([.d (rw2 a)] ++ cs.map .d) (.d (.bool (p a)))) :
    Ctr Tryz.prog 42 [.d (.sl (l.map rw2)), .d (.clo g cs)] (.d (.int .i64 (idxR p 0 l))) := by
  refine fn_of_vwp (fun _ => false) (by kernel_rfl) Tryz.func42 (by kernel_rfl) rfl rfl (Nat.le_of_ble_eq_true rfl) (by kernel_rfl) rfl rfl ?_
  simp -implicitDefEqProofs
  refine loopN l.length (fun k τ => τ 0 = .d (.sl (l.map rw2)) ∧ τ 1 = .d (.clo g cs) ∧ τ 7 = .d (.int .i64 l.length) ∧ τ 8 = .d (.int .i64 k) ∧ idxR p 0 l = idxR p k (l.drop k)) (by simp) ?_
  rintro k τ hk ⟨h0, h1, h7, h8, hi⟩
  by_cases hlt : k < l.length
  · rw [idxR_drop hlt] at hi
    have hf := hp _ (List.getElem_mem hlt)
    simp only [rw2, List.cons_append, List.nil_append] at hf
    simp -implicitDefEqProofs [h0, h1, h7, h8, rw2, hlt]
    refine ⟨by simpa using hcs, callK hf ?_⟩
    by_cases he : p l[k] = true
    · simp -implicitDefEqProofs [h0, h1, h7, h8, rw2, hlt, he]
      rw [hi, if_pos he]
    · simp -implicitDefEqProofs [h0, h1, h7, h8, rw2, hlt, he]
      refine ⟨by omega, again hlt ⟨by simp [h0, rw2], by simp [h1], by simp [h7], by simp, ?_⟩⟩
      rw [hi, if_neg he]
  · simp -implicitDefEqProofs [h0, h1, h7, h8, hlt]
    rw [hi, List.drop_eq_nil_of_le (by omega)]
    simp -implicitDefEqProofs [idxR]

theorem idxR_neg {α : Type} (p : α → Bool) : ∀ (l : List α) (k : Nat), idxR p k l = -1 → l.filter (fun x => !p x) = l
  | [], k, _ => rfl
  | x :: l, k, h => by
    rw [idxR] at h
    by_cases hx : p x = true
    · rw [if_pos hx] at h; omega
    · rw [if_neg hx] at h
      simp -implicitDefEqProofs [hx, idxR_neg p l (k + 1) h]
theorem idxR_pos {α : Type} (p : α → Bool) : ∀ (l : List α) (k : Nat), idxR p k l ≠ -1 → ∃ i : Nat, idxR p k l = ((k + i : Nat) : Int) ∧ i < l.length ∧ (l.take i).filter (fun x => !p x) = l.take i ∧ (l.take (i + 1)).filter (fun x => !p x) = l.take i
  | [], k, h => absurd rfl h
  | x :: l, k, h => by
    rw [idxR] at h ⊢
    by_cases hx : p x = true
    · rw [if_pos hx]
      exact ⟨0, by simp, by simp, by simp, by simp [hx]⟩
    · rw [if_neg hx] at h ⊢
      obtain ⟨i, h1, h2, h3, h4⟩ := idxR_pos p l (k + 1) h
      refine ⟨i + 1, by rw [h1]; omega, by simpa using h2, ?_, ?_⟩
      · simp -implicitDefEqProofs [hx, h3]
      · rw [List.take_succ_cons, List.filter_cons, if_pos (by simp [hx]), h4, List.take_succ_cons]

theorem deleteR_fn (g : FuncId) (cs : List D) (hcs : (cs.all fun c => !c.isAgg) = true) (p : Str × Sl → Bool) (l : List (Str × Sl)) (hl : l.length < 1000000) (hp : ∀ a ∈ l, Ctr Tryz.prog g ([.d (rw2 a)] ++ cs.map .d) (.d (.bool (p a)))) :
    Ctr Tryz.prog 44 [.own true 42 (l.map rw2), .d (.clo g cs)] (.own true 42 ((l.filter fun x => !p x).map rw2)) := by
  refine fn_of_vwp (fun i => i == 2000010) (by kernel_rfl) Tryz.func44 (by kernel_rfl) rfl rfl (Nat.le_of_ble_eq_true rfl) (by kernel_rfl) rfl rfl ?_
  simp -implicitDefEqProofs
  refine ⟨_, rfl, indexR_fn g cs hcs p l hl hp, ?_⟩
  by_cases hn : idxR p 0 l = -1
  · simp -implicitDefEqProofs [hn, idxR_neg p l 0 hn]
  · obtain ⟨i, h1, h2, h3, h4⟩ := idxR_pos p l 0 hn
    simp only [Nat.zero_add] at h1
    have e1 : ¬ ((i : Int) = -1) := by omega
    simp -implicitDefEqProofs [h1, e1]
    refine ⟨by omega, ?_⟩
    refine loopK (fun n τ => ∃ (j q : Nat) (m : List (Str × Sl)), n = l.length - j ∧ j ≤ l.length ∧ τ 0 = .own true 42 (m.map rw2) ∧ τ 1 = .d (.clo g cs) ∧ τ 5 = .d (.int .i64 q) ∧ τ 6 = .d (.int .i64 j) ∧ m.length = l.length ∧ q < j ∧ m.take q = (l.take j).filter (fun x => !p x) ∧ m.drop j = l.drop j)
      (l.length - (i + 1)) ⟨i + 1, i, l, rfl, by omega, by simp, by simp, by simp, by simp, rfl, by omega, h4.symm, rfl⟩ ?_
    rintro n τ ⟨j, q, m, rfl, hj, g0, g1, g5, g6, hm, hq, ht, hd⟩
    by_cases hlt : j < l.length
    · have hmj : m[j]'(by omega) = l[j] := by
        have := congrArg (fun x : List (Str × Sl) => x[0]?) hd
        simpa [hlt, hm] using this
      have hf := hp _ (List.getElem_mem hlt)
      simp only [rw2, List.cons_append, List.nil_append] at hf
      have hlt' : (j : Int) < l.length := by omega
      have hf' := hf
      simp -implicitDefEqProofs [g0, g1, g5, g6, hm, hlt', hlt, rw2, hmj]
      refine ⟨by simpa using hcs, callK hf ?_⟩
      by_cases he : p l[j] = true
      · simp -implicitDefEqProofs [g0, g1, g5, g6, hm, hlt', hlt, rw2, hmj, he]
        refine ⟨by omega, _, ?_, j + 1, rfl, by omega, q, m, rfl, rfl, by omega, hm, by omega, ?_, ?_⟩
        · omega
        · rw [take_s hlt, List.filter_append, ht]; simp [he]
        · rw [← List.drop_drop, hd, List.drop_drop]
      · have hq2 : q < m.length := by omega
        have hqq : m[q]? = some m[q] := List.getElem?_eq_getElem hq2
        simp -implicitDefEqProofs [g0, g1, g5, g6, hm, hlt', hlt, rw2, hmj, he, hqq]
        refine ⟨by omega, by omega, by omega, _, ?_, j + 1, rfl, by omega, q + 1, m.set q l[j], ?_, by simp, by simp, by simpa using hm, by omega, ?_, ?_⟩
        · omega
        · rw [List.map_set]; rfl
        · rw [List.take_set, take_s hq2, List.set_append_right _ _ (by simp; omega)]
          simp only [List.length_take, Nat.min_eq_left (Nat.le_of_lt hq2), Nat.sub_self, List.set_cons_zero]
          rw [take_s hlt, List.filter_append, ht]; simp [he]
        · rw [List.drop_set_of_lt (by omega), ← List.drop_drop, hd, List.drop_drop]
    · simp -implicitDefEqProofs [g0, g1, g5, g6, hm, hlt]
      have hjl : j = l.length := by omega
      subst hjl
      refine ⟨by omega, by omega, ?_⟩
      rw [List.take_append_of_le_length (by simp; omega), List.take_take, Nat.min_self, ← List.map_take, ht, List.take_length]
end Go.Proofs.Tz
