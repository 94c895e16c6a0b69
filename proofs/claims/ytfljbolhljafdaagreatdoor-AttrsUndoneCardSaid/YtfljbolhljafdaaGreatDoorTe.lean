/-
  What the edits of attrs and the guards of the statements compute, and the plain laws of normal forms: for lists and strings of bounded size (each theorem states its bound).
-/
import Derived.Test.YtfljbolhljafdaaGreatDoorTd
import Derived.Test.YtfljbolhljafdaaGreatDoorTc
import Derived.Test.YtfljbolhljafdaaGreatDoorTa
import Derived.Test.YtfljbolhljafdaaGreatDoorWe

set_option linter.unusedSimpArgs false
set_option linter.unusedVariables false

namespace Go.Proofs.Tz
open Go.Vw
set_option maxRecDepth 100000
set_option maxHeartbeats 4000000
set_option linter.unusedSimpArgs false

def setL (l : List Att) (name : Str) (v : List Str) : List Att := sortedL ((l.filter fun x => !decide (x.1 = lower name)) ++ [(lower name, v)])
theorem set_fn (l : List Att) (name : Str) (v : List Str) (hl : l.length < 900000) (hn : List.length name < 1000000) (hw : Fit2 ((l.filter fun x => !decide (x.1 = lower name)) ++ [(lower name, v)])) :
    Ctr Tryz.prog 62 [.own true 42 (l.map att), .d (.str name), .d (strs v)] (.own true 42 ((setL l name v).map att)) := by
  refine fn_of_vwp (fun i => i == 20) (by kernel_rfl) Tryz.func62 (by kernel_rfl) rfl rfl (Nat.le_of_ble_eq_true rfl) (by kernel_rfl) rfl rfl ?_
  simp -implicitDefEqProofs [strs]
  refine callK (foldLower_fn _ hn) ?_
  simp -implicitDefEqProofs [strs]
  refine callK (deleteA_fn 82 [.ref (.str (lower name))] rfl (fun x => decide (x.1 = lower name)) l (by omega) (fun a _ => setQ_fn a _)) ?_
  have hfl : (l.filter fun x => !decide (x.1 = lower name)).length ≤ l.length := List.length_filter_le _ l
  have hS := sorted_fn _ hw
  rw [show sortedL ((l.filter fun x => !decide (x.1 = lower name)) ++ [(lower name, v)]) = setL l name v from rfl] at hS
  generalize setL l name v = r at *
  generalize (l.filter fun x => !decide (x.1 = lower name)) = f at *
  simp only [atts, List.map_append, List.map_cons, List.map_nil] at hS
  have hfa : (f.map att).length = f.length := List.length_map ..
  generalize f.map att = fa at hS hfa ⊢
  simp only [att, strs] at hS
  simp -implicitDefEqProofs
  refine ⟨by omega, by omega, callK hS ?_⟩
  simp -implicitDefEqProofs

def limL (l : List Att) (name : Str) : List Att × Int := if 32 < l.length ∨ 16 < (getL l name).length then ([], 3) else (l, 0)
theorem limited_fn (l : List Att) (name : Str) (hl : Fit2 l) (hn : List.length name < 1000000) : Ctr Tryz.prog 61 [.d (atts l), .d (.str name)] (.tup [.d (atts (limL l name).1), .d (.int .i64 (limL l name).2)]) := by
  refine fn_of_vwp2 (fun _ => false) (by kernel_rfl) Tryz.func61 (by kernel_rfl) rfl rfl (Nat.le_of_ble_eq_true rfl) (by kernel_rfl) rfl rfl ?_
  have hf := get_fn l name hl hn
  simp only [atts] at hf
  by_cases h1 : 32 < (l.length : Int)
  · have h1' : 32 < l.length := by omega
    simp -implicitDefEqProofs [h1, h1', atts, limL]
  · have h1' : ¬ 32 < l.length := by omega
    simp -implicitDefEqProofs [h1, h1', atts]
    refine callK hf ?_
    by_cases h2 : 16 < ((getL l name).length : Int)
    · have h2' : 16 < (getL l name).length := by omega
      simp -implicitDefEqProofs [h1, h1', h2, h2', atts, limL]
    · have h2' : ¬ 16 < (getL l name).length := by omega
      simp -implicitDefEqProofs [h1, h1', h2, h2', atts, limL]
end Go.Proofs.Tz

namespace Go.Proofs.Tz
open Go.Vw
set_option maxRecDepth 100000
set_option maxHeartbeats 4000000
set_option linter.unusedSimpArgs false

theorem clone_fn (v : List Str) (hv : v.length < 1000000) : Ctr Tryz.prog 67 [.d (strs v)] (.own true 9 (v.map .str)) := by
  refine fn_of_vwp (fun i => i == 2 || i == 5) (by kernel_rfl) Tryz.func67 (by kernel_rfl) rfl rfl (Nat.le_of_ble_eq_true rfl) (by kernel_rfl) rfl rfl ?_
  by_cases h : v = []
  · subst h
    simp -implicitDefEqProofs [strs]
  · simp -implicitDefEqProofs [strs, h]
    all_goals omega

/-- The program's Replace. -/
def replP (l : List Att) (name : Str) (v : List Str) : List Att × Int :=
  if nameB name = false then ([], 5) else if chkV [] [] v ≠ 0 then ([], chkV [] [] v) else if 16 < v.length then ([], 3) else limL (setL (sortedL l) name v) name

def withP (l : List Att) (name : Str) (v : List Str) : List Att := ((sortedL l).filter fun x => !decide (x.1 = lower name)) ++ [(lower name, v)]

theorem replace_fn (l : List Att) (name : Str) (v : List Str) (hl : Fit2 l) (hl9 : l.length < 900000) (hn : List.length name < 1000000) (hv : FitS v) (hw : Fit2 (withP l name v)) (hr : Fit2 (setL (sortedL l) name v)) :
    Ctr Tryz.prog 33 [.d (atts l), .d (.str name), .d (strs v)] (.tup [.d (atts (replP l name v).1), .d (.int .i64 (replP l name v).2)]) := by
  refine fn_of_vwp2 (fun i => i == 21) (by kernel_rfl) Tryz.func33 (by kernel_rfl) rfl rfl (Nat.le_of_ble_eq_true rfl) (by kernel_rfl) rfl rfl ?_
  simp -implicitDefEqProofs
  refine callK (fname_fn name hn) ?_
  by_cases e1 : nameB name = true
  · simp -implicitDefEqProofs [e1]
    refine callK (values_fn v hv) ?_
    by_cases e2 : chkV [] [] v = 0
    · by_cases e3 : 16 < (v.length : Int)
      · have e3' : 16 < v.length := by omega
        simp -implicitDefEqProofs [e2, e3, e1, strs]
        simp [replP, e1, e2, e3', atts]
      · have e3' : ¬ 16 < v.length := by omega
        simp -implicitDefEqProofs [e2, e3, strs]
        refine callK (sorted_fn l hl) ?_
        have hS := set_fn (sortedL l) name v (Nat.lt_of_le_of_lt (sorted_len l) hl9) hn hw
        have hL := limited_fn (setL (sortedL l) name v) name hr hn
        have hC := clone_fn v hv.1
        simp only [strs] at hS hC
        simp only [atts] at hL
        rw [replP, if_neg (by simp [e1]), if_neg (by simp [e2]), if_neg e3']
        generalize limL (setL (sortedL l) name v) name = q at *
        generalize setL (sortedL l) name v = r at *
        generalize sortedL l = s at *
        simp -implicitDefEqProofs [e2, e3, strs]
        refine callK hC ?_
        simp -implicitDefEqProofs [e2, e3, strs]
        refine callK hS ?_
        simp -implicitDefEqProofs [e2, e3, strs]
        refine callK hL ?_
        simp -implicitDefEqProofs [e2, e3, strs, atts]
    · simp -implicitDefEqProofs [e2, replP, e1, atts]
  · simp -implicitDefEqProofs [e1, replP, atts]

/-- The program's Add. -/
def addP (l : List Att) (name : Str) (v : List Str) : List Att × Int :=
  if nameB name = false then ([], 5) else if v = [] then ([], 6) else if chkV (getL l name) [] v ≠ 0 then ([], chkV (getL l name) [] v) else limL (setL (sortedL l) name (getL l name ++ v)) name

theorem add_fn (l : List Att) (name : Str) (v : List Str) (hl : Fit2 l) (hl9 : l.length < 900000) (hn : List.length name < 1000000) (hv : FitS v) (hv9 : v.length < 500000) (hw : Fit2 (withP l name (getL l name ++ v))) (hr : Fit2 (setL (sortedL l) name (getL l name ++ v))) :
    Ctr Tryz.prog 29 [.d (atts l), .d (.str name), .d (strs v)] (.tup [.d (atts (addP l name v).1), .d (.int .i64 (addP l name v).2)]) := by
  refine fn_of_vwp2 (fun i => i == 42) (by kernel_rfl) Tryz.func29 (by kernel_rfl) rfl rfl (Nat.le_of_ble_eq_true rfl) (by kernel_rfl) rfl rfl ?_
  simp -implicitDefEqProofs
  refine callK (fname_fn name hn) ?_
  by_cases e1 : nameB name = true
  · by_cases e0 : v = []
    · simp -implicitDefEqProofs [e1, e0, addP, atts, strs]
    · have e0' : ¬ (v.length : Int) = 0 := by simpa using e0
      simp -implicitDefEqProofs [e1, e0, e0', strs]
      refine callK (get_fn l name hl hn) ?_
      have hgl := getL_len l name
      have hl2 := hl.2
      have hS := set_fn (sortedL l) name (getL l name ++ v) (Nat.lt_of_le_of_lt (sorted_len l) hl9) hn hw
      have hL := limited_fn (setL (sortedL l) name (getL l name ++ v)) name hr hn
      simp only [strs, List.map_append] at hS
      simp only [atts] at hL
      rw [show addP l name v = if chkV (getL l name) [] v ≠ 0 then ([], chkV (getL l name) [] v) else limL (setL (sortedL l) name (getL l name ++ v)) name by simp [addP, e1, e0]]
      generalize limL (setL (sortedL l) name (getL l name ++ v)) name = q at *
      generalize setL (sortedL l) name (getL l name ++ v) = r at *
      generalize getL l name = old at *
      generalize hQ : (if chkV old [] v ≠ 0 then (([] : List Att), chkV old [] v) else q) = Q
      have hvl := hv.1
      simp -implicitDefEqProofs [e0, e0', strs]
      refine loopN v.length (fun k τ => τ 0 = .d (atts l) ∧ τ 1 = .d (.str name) ∧ τ 2 = .d (strs v) ∧ τ 8 = .own false 9 (old.map .str) ∧ τ 20 = .d (strs v) ∧ τ 21 = .d (.int .i64 v.length) ∧ τ 22 = .d (.int .i64 k) ∧ chkV old [] v = chkV old (v.take k) (v.drop k)) (by simp [strs]) ?_
      rintro k τ hk ⟨h0, h1, h2, h8, h20, h21, h22, hc⟩
      by_cases hlt : k < v.length
      · rw [chkV_drop hlt] at hc
        simp -implicitDefEqProofs [h0, h1, h2, h8, h20, h21, h22, hlt, strs]
        refine callK (fclean_fn v[k] (hv.2 _ (List.getElem_mem hlt))) ?_
        rw [cleanF_eq]
        by_cases c1 : cleanB v[k] = true
        · simp -implicitDefEqProofs [h0, h1, h2, h8, h20, h21, h22, hlt, strs, c1]
          have hf := contains_fn old v[k] (by omega)
          simp only [strs] at hf
          refine callK hf ?_
          by_cases c2 : v[k] ∈ old
          · simp -implicitDefEqProofs [h0, h1, h2, h8, h20, h21, h22, hlt, strs, c1, c2]
            rw [if_neg (by simp [c1]), if_pos (.inl c2)] at hc
            simp [← hQ, hc, atts]
          · simp -implicitDefEqProofs [h0, h1, h2, h8, h20, h21, h22, hlt, strs, c1, c2]
            have hf := contains_fn (v.take k) v[k] (by rw [List.length_take]; omega)
            simp only [strs, List.map_take] at hf
            refine ⟨hk, callK hf ?_⟩
            by_cases c3 : v[k] ∈ v.take k
            · simp -implicitDefEqProofs [h0, h1, h2, h8, h20, h21, h22, hlt, strs, c1, c2, c3]
              rw [if_neg (by simp [c1]), if_pos (.inr c3)] at hc
              simp [← hQ, hc, atts]
            · simp -implicitDefEqProofs [h0, h1, h2, h8, h20, h21, h22, hlt, strs, c1, c2, c3]
              rw [if_neg (by simp [c1]), if_neg (by simp [c2, c3])] at hc
              exact ⟨by omega, again hlt ⟨by simp [h0], by simp [h1], by simp [h2, strs], by simp [h8], by simp [h20, strs], by simp [h21], by simp, hc⟩⟩
        · simp -implicitDefEqProofs [h0, h1, h2, h8, h20, h21, h22, hlt, strs, c1]
          rw [if_pos (by simpa using c1)] at hc
          simp [← hQ, hc, atts]
      · rw [List.drop_eq_nil_of_le (by omega), chkV] at hc
        have hq : Q = q := by rw [← hQ]; simp [hc]
        rw [hq]
        have hsl := sorted_len l
        have hsS := sorted_fn l hl
        simp only [atts] at h0 hsS
        generalize sortedL l = s at *
        simp -implicitDefEqProofs [h0, h1, h2, h8, h20, h21, h22, hlt, strs]
        refine callK hsS ?_
        simp -implicitDefEqProofs [h0, h1, h2, h8, h20, h21, h22, hlt, strs]
        refine ⟨by omega, by omega, callK hS ?_⟩
        simp -implicitDefEqProofs [h0, h1, h2, h8, h20, h21, h22, hlt, strs]
        refine callK hL ?_
        simp -implicitDefEqProofs [h0, h1, h2, h8, h20, h21, h22, hlt, strs, atts]
  · simp -implicitDefEqProofs [e1, addP, atts]
end Go.Proofs.Tz

namespace Go.Proofs.Tz
open Go.Vw
set_option maxRecDepth 100000
set_option maxHeartbeats 4000000
set_option linter.unusedSimpArgs false

/-- The values that are left; none if one is lacking. -/
def remV : List Str → List Str → Option (List Str)
  | old, [] => some old
  | old, v :: l => if idxG (fun x => decide (v = x)) 0 old = -1 then none else remV (old.eraseIdx (idxG (fun x => decide (v = x)) 0 old).toNat) l

/-- The program's Remove. -/
def remO (l : List Att) (name : Str) : Option (List Str) → List Att × Int
  | none => ([], 6)
  | some o => (setL (sortedL l) name o, 0)
def removeP (l : List Att) (name : Str) (v : List Str) : List Att × Int :=
  if nameB name = false then ([], 5) else if getL l name = [] then ([], 6) else if v = [] then (setL (sortedL l) name [], 0) else remO l name (remV (getL l name) v)

theorem remove_fn (l : List Att) (name : Str) (v : List Str) (hl : Fit2 l) (hl9 : l.length < 900000) (hn : List.length name < 1000000) (hv : v.length < 1000000) (hw : ∀ o, (o = [] ∨ remV (getL l name) v = some o) → Fit2 (withP l name o)) :
    Ctr Tryz.prog 31 [.d (atts l), .d (.str name), .d (strs v)] (.tup [.d (atts (removeP l name v).1), .d (.int .i64 (removeP l name v).2)]) := by
  refine fn_of_vwp2 (fun i => i == 17 || i == 2000036 || i == 43 || i == 25 || i == 46 || i == 6000048) (by kernel_rfl) Tryz.func31 (by kernel_rfl) rfl rfl (Nat.le_of_ble_eq_true rfl) (by kernel_rfl) rfl rfl ?_
  simp -implicitDefEqProofs
  refine callK (fname_fn name hn) ?_
  by_cases e1 : nameB name = true
  · simp -implicitDefEqProofs [e1]
    refine callK (get_fn l name hl hn) ?_
    have hgl := getL_len l name
    have hl2 := hl.2
    have hS := fun o ho => set_fn (sortedL l) name o (Nat.lt_of_le_of_lt (sorted_len l) hl9) hn (hw o ho)
    have hsS := sorted_fn l hl
    have hP : removeP l name v = if getL l name = [] then ([], 6) else if v = [] then (setL (sortedL l) name [], 0) else remO l name (remV (getL l name) v) := by simp [removeP, e1]
    rw [hP]
    clear hP
    generalize getL l name = old at *
    by_cases e2 : old = []
    · simp -implicitDefEqProofs [e2, atts]
    · have e2' : ¬ (old.length : Int) = 0 := by simpa using e2
      rw [if_neg e2]
      by_cases e3 : v = []
      · have hS0 := hS [] (.inl rfl)
        rw [if_pos e3]
        generalize setL (sortedL l) name [] = r at *
        generalize sortedL l = s at *
        simp only [strs, List.map_nil] at hS0
        simp -implicitDefEqProofs [e2, e2', e3, strs]
        refine callK hsS ?_
        simp -implicitDefEqProofs [e2, e2', e3, strs]
        refine callK hS0 ?_
        simp -implicitDefEqProofs [e2, e2', e3, strs, atts]
      · have e3' : ¬ (v.length : Int) = 0 := by simpa using e3
        rw [if_neg e3]
        generalize hQ : remO l name (remV old v) = Q
        simp -implicitDefEqProofs [e2, e2', e3, e3', strs]
        refine loopN v.length (fun k τ => τ 0 = .d (atts l) ∧ τ 1 = .d (.str name) ∧ τ 28 = .d (strs v) ∧ τ 29 = .d (.int .i64 v.length) ∧ τ 30 = .d (.int .i64 k) ∧ ∃ o : List Str, τ 8 = .own true 9 (o.map .str) ∧ o.length ≤ old.length ∧ remV old v = remV o (v.drop k)) ⟨by simp, by simp, by simp [strs], by simp, by simp, old, by simp, Nat.le_refl _, by simp⟩ ?_
        rintro k τ hk ⟨h0, h1, h28, h29, h30, o, h8, ho, hc⟩
        by_cases hlt : k < v.length
        · rw [List.drop_eq_getElem_cons hlt, remV] at hc
          simp -implicitDefEqProofs [h0, h1, h28, h29, h30, h8, hlt, strs]
          have hI := index_fn o v[k] (by omega)
          simp only [strs] at hI
          refine lendK hI rfl ?_
          by_cases c1 : idxG (fun x => decide (v[k] = x)) 0 o = -1
          · simp -implicitDefEqProofs [h0, h1, h28, h29, h30, h8, hlt, strs, c1]
            rw [if_pos c1] at hc
            simp [← hQ, hc, remO, atts]
          · rw [if_neg c1] at hc
            obtain ⟨i, c2, c3, _⟩ := idxG_pos _ o 0 c1
            simp only [Nat.zero_add] at c2
            rw [c2] at hc ⊢
            have c4 : ¬ (i : Int) < 0 := by omega
            simp -implicitDefEqProofs [h0, h1, h28, h29, h30, h8, hlt, strs, c4]
            refine ⟨by omega, callK (delete_fn o i c3 (by omega)) ?_⟩
            simp -implicitDefEqProofs [h0, h1, h28, h29, h30, h8, hlt, strs, c4]
            refine ⟨by omega, again hlt ⟨by simp [h0], by simp [h1], by simp [h28, strs], by simp [h29], by simp, o.eraseIdx i, by simp, ?_, by simpa using hc⟩⟩
            have := List.length_eraseIdx_le o i
            omega
        · rw [List.drop_eq_nil_of_le (by omega), remV] at hc
          have hSo := hS o (.inr hc)
          have hq : Q = (setL (sortedL l) name o, 0) := by rw [← hQ, hc, remO]
          rw [hq]
          generalize setL (sortedL l) name o = r at *
          simp only [atts] at h0 hsS
          generalize sortedL l = s at *
          simp only [strs] at hSo
          simp -implicitDefEqProofs [h0, h1, h28, h29, h30, h8, hlt, strs]
          refine callK hsS ?_
          simp -implicitDefEqProofs [h0, h1, h28, h29, h30, h8, hlt, strs]
          refine callK hSo ?_
          simp -implicitDefEqProofs [h0, h1, h28, h29, h30, h8, hlt, strs, atts]
  · simp -implicitDefEqProofs [e1, removeP, atts]
end Go.Proofs.Tz

namespace Go.Proofs.Tz
open Go.Vw
set_option maxRecDepth 100000
set_option maxHeartbeats 4000000
set_option linter.unusedSimpArgs false

/-- The bytes of strings. -/
def bytesL (l : List Str) : Nat := (l.map List.length).sum
theorem bytesL_take {l : List Str} {k : Nat} (h : k < l.length) : bytesL (l.take (k + 1)) = bytesL (l.take k) + List.length l[k] := by
  rw [take_s h]; simp only [bytesL, List.map_append, List.sum_append, List.map_cons, List.map_nil, List.sum_cons, List.sum_nil, Nat.add_zero]
theorem bytesL_le (l : List Str) (k : Nat) : bytesL (l.take k) ≤ bytesL l := by
  have : bytesL l = bytesL (l.take k) + bytesL (l.drop k) := by
    conv => lhs; rw [← List.take_append_drop k l]
    simp only [bytesL, List.map_append, List.sum_append]
  omega
theorem bytesL_mem {l : List Str} {x : Str} (h : x ∈ l) : List.length x ≤ bytesL l := by
  induction l with
  | nil => simp at h
  | cons y l ih =>
    simp only [bytesL, List.map_cons, List.sum_cons] at ih ⊢
    rcases List.mem_cons.1 h with rfl | h
    · omega
    · have := ih h; omega
def fewB (l : List Str) : Bool := decide (l.length ≤ 20) && decide (bytesL l ≤ 3000)

/-- Every string is within the reach of the form. -/
def ReachS (l : List Str) : Prop := ∀ v ∈ l, List.length v ≤ 140737488351232
theorem bytesL_reach {l : List Str} (h : ReachS l) : bytesL l ≤ l.length * 140737488351232 := by
  induction l with
  | nil => simp [bytesL]
  | cons v l ih =>
    have h1 := h v (by simp)
    have h2 := ih fun x hx => h x (by simp [hx])
    simp only [bytesL, List.map_cons, List.sum_cons, List.length_cons] at h2 ⊢
    omega
theorem ReachS.take {l : List Str} (h : ReachS l) (k : Nat) : ReachS (l.take k) := fun v hv => h v (List.mem_of_mem_take hv)
theorem few_fn (l : List Str) (hr : ReachS l) : Ctr Tryz.prog 19 [.d (strs l)] (.d (.bool (fewB l))) := by
  refine fn_of_vwp (fun _ => false) (by kernel_rfl) Tryz.func19 (by kernel_rfl) rfl rfl (Nat.le_of_ble_eq_true rfl) (by kernel_rfl) rfl rfl ?_
  simp -implicitDefEqProofs [strs]
  refine loopN (min l.length 20) (fun k τ => τ 0 = .d (strs l) ∧ τ 4 = .d (.int .i64 k) ∧ τ 3 = .d (.int .i64 (bytesL (l.take k)))) (by simp [strs, bytesL]) ?_
  rintro k τ hk ⟨h0, h4, h3⟩
  by_cases hlt : k < min l.length 20
  · have h1 : k < l.length := by omega
    have h2 : (k : Int) < 20 := by omega
    have e := bytesL_take h1
    have e2 := bytesL_reach (hr.take (k + 1))
    rw [List.length_take] at e2
    generalize bytesL (l.take k) = n at *
    simp -implicitDefEqProofs [h0, h4, h3, h1, h2, strs]
    refine ⟨by omega, by omega, again hlt ⟨by simp [h0, strs], by simp, by simp [e]⟩⟩
  · by_cases h1 : k < l.length
    · have h2 : ¬ (k : Int) < 20 := by omega
      have h3' : ¬ (l.length : Int) ≤ 20 := by omega
      have h3'' : ¬ l.length ≤ 20 := by omega
      simp -implicitDefEqProofs [h0, h4, h3, h1, h2, h3', h3'', strs, fewB]
    · have hk2 : k = l.length := by omega
      subst hk2
      rw [List.take_length] at h3
      have h3' : (l.length : Int) ≤ 20 := by omega
      have h3'' : l.length ≤ 20 := by omega
      by_cases h4' : (bytesL l : Int) ≤ 3000
      · have : bytesL l ≤ 3000 := by omega
        simp -implicitDefEqProofs [h0, h4, h3, h3', h3'', strs, fewB, h4', this]
      · have : ¬ bytesL l ≤ 3000 := by omega
        simp -implicitDefEqProofs [h0, h4, h3, h3', h3'', strs, fewB, h4', this]
end Go.Proofs.Tz

namespace Go.Proofs.Tz
open Go.Vw
set_option maxRecDepth 100000
set_option maxHeartbeats 4000000
set_option linter.unusedSimpArgs false

/-- The bytes of attributes. -/
def bytesT (l : List Att) : Nat := (l.map fun a => List.length a.1 + bytesL a.2).sum
theorem bytesT_take {l : List Att} {k : Nat} (h : k < l.length) : bytesT (l.take (k + 1)) = bytesT (l.take k) + (List.length l[k].1 + bytesL l[k].2) := by
  rw [take_s h]; simp only [bytesT, List.map_append, List.sum_append, List.map_cons, List.map_nil, List.sum_cons, List.sum_nil, Nat.add_zero]
theorem bytesT_le (l : List Att) (k : Nat) : bytesT (l.take k) ≤ bytesT l := by
  have : bytesT l = bytesT (l.take k) + bytesT (l.drop k) := by
    conv => lhs; rw [← List.take_append_drop k l]
    simp only [bytesT, List.map_append, List.sum_append]
  omega
theorem total_s {l : List Att} {k : Nat} (h : k < l.length) : total (l.take (k + 1)) = total (l.take k) + l[k].2.length := by
  rw [take_s h, total_app]; simp [total]
theorem total_le (l : List Att) (k : Nat) : total (l.take k) ≤ total l := by
  have : total l = total (l.take k) + total (l.drop k) := by
    conv => lhs; rw [← List.take_append_drop k l]
    rw [total_app]
  omega
def shortB (l : List Att) : Bool := decide (l.length ≤ 40) && (l.all fun a => decide (a.2.length ≤ 20)) && decide (total l ≤ 300) && decide (bytesT l ≤ 6000)

/-- Every string is within the reach of the form. -/
def Reach (l : List Att) : Prop := ∀ a ∈ l, List.length a.1 ≤ 140737488351232 ∧ ReachS a.2
theorem bytesT_reach {l : List Att} (h : Reach l) (h20 : ∀ a ∈ l, a.2.length ≤ 20) : bytesT l ≤ l.length * 2955487255375872 := by
  induction l with
  | nil => simp [bytesT]
  | cons a l ih =>
    have h1 := h a (by simp)
    have h2 := ih (fun x hx => h x (by simp [hx])) (fun x hx => h20 x (by simp [hx]))
    have h3 := bytesL_reach h1.2
    have h4 := h20 a (by simp)
    simp only [bytesT, List.map_cons, List.sum_cons, List.length_cons] at h2 ⊢
    omega
theorem total_reach {l : List Att} (h20 : ∀ a ∈ l, a.2.length ≤ 20) : total l ≤ l.length * 20 := by
  induction l with
  | nil => simp [total]
  | cons a l ih =>
    have h2 := ih (fun x hx => h20 x (by simp [hx]))
    have h4 := h20 a (by simp)
    simp only [total, List.map_cons, List.sum_cons, List.length_cons] at h2 ⊢
    omega
theorem short_fn (l : List Att) (hr : Reach l) : Ctr Tryz.prog 10 [.d (atts l)] (.d (.bool (shortB l))) := by
  refine fn_of_vwp (fun _ => false) (by kernel_rfl) Tryz.func10 (by kernel_rfl) rfl rfl (Nat.le_of_ble_eq_true rfl) (by kernel_rfl) rfl rfl ?_
  simp -implicitDefEqProofs [atts]
  refine loopN (min l.length 40) (fun k τ => τ 0 = .d (atts l) ∧ τ 5 = .d (.int .i64 k) ∧ τ 3 = .d (.int .i64 (total (l.take k))) ∧ τ 4 = .d (.int .i64 (bytesT (l.take k))) ∧ ∀ a ∈ l.take k, a.2.length ≤ 20) (by simp [atts, total, bytesT]) ?_
  rintro k τ hk ⟨h0, h5, h3, h4, hall⟩
  by_cases hlt : k < min l.length 40
  · have h1 : k < l.length := by omega
    have h2 : (k : Int) < 40 := by omega
    by_cases h20 : 20 < (l[k].2.length : Int)
    · have hf : shortB l = false := by
        have : (l.all fun a => decide (a.2.length ≤ 20)) = false := List.all_eq_false.2 ⟨l[k], List.getElem_mem h1, by simp; omega⟩
        simp [shortB, this]
      simp -implicitDefEqProofs [h0, h5, h3, h4, h1, h2, h20, atts, att, strs]
      exact hf
    · have e := bytesT_take h1
      have e2 := bytesT_reach (fun a ha => hr a (List.mem_of_mem_take ha)) hall
      have t := total_s h1
      have t2 := total_reach hall
      have e3 := (hr _ (List.getElem_mem h1)).1
      have e4 := (hr _ (List.getElem_mem h1)).2
      rw [List.length_take] at e2 t2
      generalize bytesT (l.take k) = n at *
      generalize total (l.take k) = m at *
      simp -implicitDefEqProofs [h0, h5, h3, h4, h1, h2, h20, atts, att, strs]
      refine ⟨by omega, by omega, ?_⟩
      refine loopN l[k].2.length (fun j τ => τ 0 = .d (atts l) ∧ τ 5 = .d (.int .i64 k) ∧ τ 3 = .d (.int .i64 ((m + l[k].2.length : Nat) : Int)) ∧ τ 6 = .d (.int .i64 j) ∧ τ 4 = .d (.int .i64 ((n + List.length l[k].1 + bytesL (l[k].2.take j) : Nat) : Int))) ?_ ?_
      · refine ⟨by simp [h0, atts, att, strs], by simp [h5], by simp, by simp, by simp [bytesL]⟩
      clear h0 h5 h3 h4 τ
      rintro j τ hj ⟨h0, h5, h3, h6, h4⟩
      by_cases hjl : j < l[k].2.length
      · have b1 := bytesL_take hjl
        have b2 := bytesL_reach (e4.take (j + 1))
        rw [List.length_take] at b2
        generalize bytesL (l[k].2.take j) = q at *
        simp -implicitDefEqProofs [h0, h5, h3, h4, h6, h1, h2, hjl, atts, att, strs]
        refine ⟨by omega, by omega, again hjl ⟨by simp [h0, atts, att, strs], by simp [h5], by simp [h3], by simp, ?_⟩⟩
        simp [b1]; omega
      · have hje : j = l[k].2.length := by omega
        subst hje
        rw [List.take_length] at h4
        simp -implicitDefEqProofs [h0, h5, h3, h4, h6, h1, h2, atts, att, strs]
        refine ⟨by omega, again hlt ⟨by simp [h0, atts, att, strs], by simp, ?_, ?_, ?_⟩⟩
        · simp [h3, t]
        · simp [h4, e]; omega
        · intro a b ha
          rw [take_s h1] at ha
          rcases List.mem_append.1 ha with ha | ha
          · exact hall _ ha
          · have : l[k].2 = b := by rw [← List.mem_singleton.1 ha]
            rw [← this]; omega
  · by_cases h1 : k < l.length
    · have h2 : ¬ (k : Int) < 40 := by omega
      have h3' : ¬ (l.length : Int) ≤ 40 := by omega
      have h3'' : ¬ l.length ≤ 40 := by omega
      simp -implicitDefEqProofs [h0, h5, h4, h3, h1, h2, h3', h3'', atts, shortB]
    · have hk2 : k = l.length := by omega
      subst hk2
      rw [List.take_length] at h3 h4 hall
      have hall' : (l.all fun a => decide (a.2.length ≤ 20)) = true := List.all_eq_true.2 fun a ha => by simpa using hall a ha
      have h3' : (l.length : Int) ≤ 40 := by omega
      have h3'' : l.length ≤ 40 := by omega
      rw [shortB, hall']
      by_cases h4' : (total l : Int) ≤ 300
      · have h4'' : total l ≤ 300 := by omega
        by_cases h5' : (bytesT l : Int) ≤ 6000
        · have h5'' : bytesT l ≤ 6000 := by omega
          simp -implicitDefEqProofs [h0, h5, h4, h3, h3', h3'', atts, h4', h4'', h5', h5'']
        · have h5'' : ¬ bytesT l ≤ 6000 := by omega
          simp -implicitDefEqProofs [h0, h5, h4, h3, h3', h3'', atts, h4', h4'', h5', h5'']
      · have h4'' : ¬ total l ≤ 300 := by omega
        simp -implicitDefEqProofs [h0, h5, h4, h3, h3', h3'', atts, h4', h4'']
end Go.Proofs.Tz

namespace Go.Proofs.Tz
open Go.Vw Go.Lib
set_option linter.unusedSimpArgs false

theorem sorted_perm (l : List Att) : (sortedL l).Perm (((grp l).filter nonE).map normA) := by
  have hp : ((((grp l).filter nonE).map normA).mergeSort fun a b => decide (a.1 ≤ b.1)).Perm (((grp l).filter nonE).map normA) := List.mergeSort_perm _ _
  have hs := List.pairwise_mergeSort (le := fun a b : Att => decide (a.1 ≤ b.1)) (fun a b c h1 h2 => by
    simp only [decide_eq_true_eq] at *
    exact List.le_trans h1 h2) (fun a b => by
    simp only [Bool.or_eq_true, decide_eq_true_eq]
    exact List.le_total a.1 b.1) (((grp l).filter nonE).map normA)
  rw [← normal_eq l _ hp (fun i j hij hj => by
    have := List.pairwise_iff_getElem.1 hs i j (by omega) hj hij
    rw [bl_f]
    simpa using this)]
  exact hp

theorem compact_len (l : List Str) : (compact l).length ≤ l.length := by
  have key : ∀ m, (compactUpTo l.toArray m).length ≤ m := by
    intro m
    induction m with
    | zero => simp [compactUpTo]
    | succ m ih =>
      rw [compactUpTo_succ]
      split <;> simp <;> omega
  exact key l.length
theorem total_perm {a b : List Att} (h : a.Perm b) : total a = total b := (h.map _).sum_nat
theorem total_norm (l : List Att) : total ((l.filter nonE).map normA) ≤ total l := by
  induction l with
  | nil => simp [total]
  | cons a l ih =>
    have hc := compact_len (sortS a.2)
    have hs : (sortS a.2).length = a.2.length := by simp [sortS]
    rw [List.filter_cons]
    split
    · simp only [List.map_cons, total, List.sum_cons] at ih ⊢
      simp only [normA]
      omega
    · simp only [total, List.map_cons, List.sum_cons] at ih ⊢
      omega
theorem total_sorted (l : List Att) : total (sortedL l) ≤ total l := by
  rw [total_perm (sorted_perm l), ← total_grp l]
  exact total_norm _
theorem sorted_name {l : List Att} {x : Att} (h : x ∈ sortedL l) : ∃ a ∈ l, a.2 ≠ [] ∧ lower a.1 = x.1 := by
  obtain ⟨n, hn, rfl⟩ := List.mem_map.1 h
  have hN := (namesF_spec l [] (by simp [SS])).2 n
  rw [show l.foldl namesS [] = namesF l from rfl] at hN
  rcases hN.1 hn with h | h
  · simp at h
  · exact h
theorem sorted_val {l : List Att} {x : Att} (h : x ∈ sortedL l) {v : Str} (hv : v ∈ x.2) : ∃ a ∈ l, lower a.1 = x.1 ∧ v ∈ a.2 := by
  obtain ⟨n, hn, rfl⟩ := List.mem_map.1 h
  have hV := (valsF_spec n l [] (by simp [SS])).2 v
  rw [show l.foldl (valsS n) [] = valsF l n from rfl] at hV
  rcases hV.1 hv with h | h
  · simp at h
  · exact h
theorem total_mem' {l : List Att} {x : Att} (h : x ∈ l) : x.2.length ≤ total l := total_mem h
theorem sorted_fit2 {l : List Att} (hl : Fit2 l) : Fit2 (sortedL l) := by
  refine ⟨⟨Nat.lt_of_le_of_lt (sorted_len l) hl.1.1, fun x hx => ⟨?_, ?_⟩⟩, Nat.lt_of_le_of_lt (total_sorted l) hl.2⟩
  · obtain ⟨a, ha, _, e⟩ := sorted_name hx
    rw [← e, lower_len]
    exact (hl.1.2 a ha).1
  · have h1 := total_mem hx
    have h2 := total_sorted l
    have h3 := hl.2
    omega
theorem sorted_fitV {l : List Att} (hl : FitV l) : FitV (sortedL l) := fun x hx v hv => by
  obtain ⟨a, ha, _, h⟩ := sorted_val hx hv
  exact hl a ha v h
end Go.Proofs.Tz

namespace Go.Proofs.Tz
open Go.Vw Go.Lib
set_option linter.unusedSimpArgs false

/-! ### normal forms as sets -/
def HasL (l : List Att) (n v : Str) : Prop := ∃ a ∈ l, lower a.1 = n ∧ v ∈ a.2
structure NF (s : List Att) : Prop where
  names : SS (s.map (·.1))
  vals : ∀ x ∈ s, SS x.2
  ne : ∀ x ∈ s, x.2 ≠ []

theorem lowc_lowc (c : UInt8) : lowc (lowc c) = lowc c := by
  unfold lowc
  by_cases h : 65 ≤ (c.toNat : Int) ∧ (c.toNat : Int) ≤ 90
  · rw [if_pos h, if_neg]
    rw [UInt8.toNat_add]
    have : (32 : UInt8).toNat = 32 := rfl
    omega
  · rw [if_neg h, if_neg h]
theorem lower_lower (s : Str) : lower (lower s) = lower s := by simp [lower, lowc_lowc]

theorem SS_sub {a b : List Str} (h : a.Sublist b) (hb : SS b) : SS a := List.Pairwise.sublist h hb
theorem nf_sorted (l : List Att) : NF (sortedL l) := by
  have hN := namesF_spec l [] (by simp [SS])
  refine ⟨?_, fun x hx => ?_, fun x hx => ?_⟩
  · rw [sortedL, List.map_map]
    rw [show ((fun x : Att => x.1) ∘ fun n => (n, valsF l n)) = id from rfl, List.map_id]
    exact hN.1
  · obtain ⟨n, _, rfl⟩ := List.mem_map.1 hx
    exact (valsF_spec n l [] (by simp [SS])).1
  · obtain ⟨n, hn, rfl⟩ := List.mem_map.1 hx
    have hV := (valsF_spec n l [] (by simp [SS])).2
    rcases (hN.2 n).1 hn with h | ⟨a, ha, hne, e⟩
    · simp at h
    · obtain ⟨v, hv⟩ := List.exists_mem_of_ne_nil _ hne
      exact List.ne_nil_of_mem ((hV v).2 (.inr ⟨a, ha, e, hv⟩))
theorem sorted_has (l : List Att) (n v : Str) : Has (sortedL l) n v ↔ HasL l n v := by
  have hN := namesF_spec l [] (by simp [SS])
  constructor
  · rintro ⟨x, hx, rfl, hv⟩
    obtain ⟨a, ha, e, h⟩ := sorted_val hx hv
    exact ⟨a, ha, e, h⟩
  · rintro ⟨a, ha, e, hv⟩
    refine ⟨(n, valsF l n), List.mem_map.2 ⟨n, ?_, rfl⟩, rfl, ?_⟩
    · exact (hN.2 n).2 (.inr ⟨a, ha, List.ne_nil_of_mem hv, e⟩)
    · exact ((valsF_spec n l [] (by simp [SS])).2 v).2 (.inr ⟨a, ha, e, hv⟩)
theorem nodup_inj {α : Type} {l : List α} (h : l.Nodup) {i j : Nat} (hi : i < l.length) (hj : j < l.length) (e : l[i] = l[j]) : i = j := by
  have h1 := List.pairwise_iff_getElem.1 h
  rcases Nat.lt_trichotomy i j with h2 | h2 | h2
  · exact absurd e (h1 i j hi hj h2)
  · exact h2
  · exact absurd e.symm (h1 j i hj hi h2)
theorem nf_inj {s : List Att} (hs : NF s) {x y : Att} (hx : x ∈ s) (hy : y ∈ s) (h : x.1 = y.1) : x = y := by
  have hnd := hs.names.nodup
  obtain ⟨i, hi, rfl⟩ := List.mem_iff_getElem.1 hx
  obtain ⟨j, hj, rfl⟩ := List.mem_iff_getElem.1 hy
  have := nodup_inj hnd (i := i) (j := j) (by simpa using hi) (by simpa using hj) (by simpa using h)
  subst this; rfl
theorem nf_ext {s t : List Att} (hs : NF s) (ht : NF t) (h : ∀ n v, Has s n v ↔ Has t n v) : s = t := by
  have e1 : s.map (·.1) = t.map (·.1) := by
    refine SS_ext hs.names ht.names fun n => ?_
    constructor
    · intro hn
      obtain ⟨x, hx, rfl⟩ := List.mem_map.1 hn
      obtain ⟨v, hv⟩ := List.exists_mem_of_ne_nil _ (hs.ne x hx)
      obtain ⟨y, hy, e, _⟩ := (h x.1 v).1 ⟨x, hx, rfl, hv⟩
      exact List.mem_map.2 ⟨y, hy, e⟩
    · intro hn
      obtain ⟨x, hx, rfl⟩ := List.mem_map.1 hn
      obtain ⟨v, hv⟩ := List.exists_mem_of_ne_nil _ (ht.ne x hx)
      obtain ⟨y, hy, e, _⟩ := (h x.1 v).2 ⟨x, hx, rfl, hv⟩
      exact List.mem_map.2 ⟨y, hy, e⟩
  have hl : s.length = t.length := by simpa using congrArg List.length e1
  refine List.ext_getElem hl fun i h1 h2 => ?_
  have en : s[i].1 = t[i].1 := by
    have := List.getElem_of_eq e1 (i := i) (by simpa using h1)
    simpa using this
  refine Prod.ext en ?_
  refine SS_ext (hs.vals _ (List.getElem_mem h1)) (ht.vals _ (List.getElem_mem h2)) fun v => ?_
  constructor
  · intro hv
    obtain ⟨y, hy, e, hv⟩ := (h s[i].1 v).1 ⟨_, List.getElem_mem h1, rfl, hv⟩
    rw [← nf_inj ht hy (List.getElem_mem h2) (e.trans en)]
    exact hv
  · intro hv
    obtain ⟨y, hy, e, hv⟩ := (h t[i].1 v).2 ⟨_, List.getElem_mem h2, rfl, hv⟩
    rw [← nf_inj hs hy (List.getElem_mem h1) (e.trans en.symm)]
    exact hv
theorem sorted_ext {a b : List Att} (h : ∀ n v, HasL a n v ↔ HasL b n v) : sortedL a = sortedL b :=
  nf_ext (nf_sorted a) (nf_sorted b) fun n v => by rw [sorted_has, sorted_has, h]
theorem sorted_low {l : List Att} {x : Att} (h : x ∈ sortedL l) : lower x.1 = x.1 := by
  obtain ⟨a, _, _, e⟩ := sorted_name h
  rw [← e, lower_lower]
theorem hasL_sorted (l : List Att) (n v : Str) : HasL (sortedL l) n v ↔ HasL l n v := by
  rw [← sorted_has l n v]
  constructor
  · rintro ⟨x, hx, e, hv⟩; exact ⟨x, hx, (sorted_low hx).symm.trans e, hv⟩
  · rintro ⟨x, hx, e, hv⟩; exact ⟨x, hx, (sorted_low hx).trans e, hv⟩
theorem sorted_idem (l : List Att) : sortedL (sortedL l) = sortedL l := sorted_ext (hasL_sorted l)

theorem mem_findA {s : List Att} (hs : NF s) (n v : Str) : v ∈ findA n s ↔ Has s n v := by
  have key : ∀ (s : List Att), (∀ x ∈ s, ∀ y ∈ s, x.1 = y.1 → x = y) → (v ∈ findA n s ↔ Has s n v) := by
    intro s
    induction s with
    | nil => intro _; simp [findA, Has]
    | cons a s ih =>
      intro hi
      rw [findA]
      split
      · rename_i h
        constructor
        · intro hv; exact ⟨a, by simp, h, hv⟩
        · rintro ⟨y, hy, e, hv⟩
          rw [hi a (by simp) y hy (h.trans e.symm)]; exact hv
      · rename_i h
        rw [ih fun x hx y hy => hi x (by simp [hx]) y (by simp [hy])]
        constructor
        · rintro ⟨y, hy, e, hv⟩; exact ⟨y, by simp [hy], e, hv⟩
        · rintro ⟨y, hy, e, hv⟩
          rcases List.mem_cons.1 hy with rfl | hy
          · exact absurd e h
          · exact ⟨y, hy, e, hv⟩
  exact key s fun x hx y hy => nf_inj hs hx hy
theorem mem_getL (l : List Att) (name v : Str) : v ∈ getL l name ↔ HasL l (lower name) v := by
  rw [getL, mem_findA (nf_sorted l), sorted_has]
theorem findA_SS {s : List Att} (h : ∀ x ∈ s, SS x.2) (n : Str) : SS (findA n s) := by
  induction s with
  | nil => simp [findA, SS]
  | cons a s ih =>
    rw [findA]
    split
    · exact h a (by simp)
    · exact ih fun x hx => h x (by simp [hx])
theorem SS_getL (l : List Att) (name : Str) : SS (getL l name) := findA_SS (nf_sorted l).vals _
theorem getL_ext {a b : List Att} {n m : Str} (h : ∀ v, HasL a (lower n) v ↔ HasL b (lower m) v) : getL a n = getL b m :=
  SS_ext (SS_getL _ _) (SS_getL _ _) fun v => by rw [mem_getL, mem_getL, h]

/-! ### setting -/
theorem hasL_app (a b : List Att) (n v : Str) : HasL (a ++ b) n v ↔ HasL a n v ∨ HasL b n v := by
  simp only [HasL, List.mem_append]
  constructor
  · rintro ⟨x, h | h, h2⟩
    · exact .inl ⟨x, h, h2⟩
    · exact .inr ⟨x, h, h2⟩
  · rintro (⟨x, h, h2⟩ | ⟨x, h, h2⟩)
    · exact ⟨x, .inl h, h2⟩
    · exact ⟨x, .inr h, h2⟩
theorem hasL_one (m : Str) (w : List Str) (n v : Str) : HasL [(m, w)] n v ↔ lower m = n ∧ v ∈ w := by simp [HasL]
theorem hasL_fil (l : List Att) (m n v : Str) : HasL ((sortedL l).filter fun x => !decide (x.1 = m)) n v ↔ n ≠ m ∧ HasL l n v := by
  rw [← hasL_sorted l]
  constructor
  · rintro ⟨x, hx, e, hv⟩
    obtain ⟨h1, h2⟩ := List.mem_filter.1 hx
    rw [sorted_low h1] at e
    subst e
    exact ⟨by simpa using h2, x, h1, sorted_low h1, hv⟩
  · rintro ⟨hne, x, hx, e, hv⟩
    refine ⟨x, List.mem_filter.2 ⟨hx, ?_⟩, e, hv⟩
    rw [sorted_low hx] at e
    simp [e, hne]
theorem hasL_set (l : List Att) (name : Str) (w : List Str) (n v : Str) : HasL (setL (sortedL l) name w) n v ↔ (n ≠ lower name ∧ HasL l n v) ∨ (n = lower name ∧ v ∈ w) := by
  rw [setL, hasL_sorted, hasL_app, hasL_fil, hasL_one, lower_lower, eq_comm (a := lower name)]
theorem set_with (l : List Att) (name : Str) (w : List Str) : sortedL (withoutL l name ++ [(name, w)]) = setL (sortedL l) name w := by
  refine sorted_ext fun n v => ?_
  rw [hasL_app, hasL_app, hasL_one, hasL_one, lower_lower, withoutL, fil]
theorem nodup_len {a b : List Str} (ha : a.Nodup) (hb : b.Nodup) (h : ∀ x, x ∈ a ↔ x ∈ b) : a.length = b.length :=
  ((List.perm_ext_iff_of_nodup ha hb).2 h).length_eq
theorem getL_set (l : List Att) (name : Str) (w : List Str) (v : Str) : v ∈ getL (setL (sortedL l) name w) name ↔ v ∈ w := by
  rw [mem_getL, hasL_set]; simp
theorem getL_set_len (l : List Att) (name : Str) {w : List Str} (h : w.Nodup) : (getL (setL (sortedL l) name w) name).length = w.length :=
  nodup_len (SS_getL _ _).nodup h (getL_set l name w)
theorem getL_other (l : List Att) {name other : Str} (w : List Str) (h : ¬ lower name = lower other) : getL (setL (sortedL l) name w) other = getL l other :=
  getL_ext fun v => by
    rw [hasL_set]
    have h' : ¬ lower other = lower name := fun e => h e.symm
    simp [h, h']

/-! ### errors of values -/
theorem chkV_zero (old : List Str) : ∀ (l b : List Str), chkV old b l = 0 ↔ (∀ v ∈ l, cleanB v = true ∧ v ∉ old ∧ v ∉ b) ∧ l.Nodup
  | [], b => by simp [chkV]
  | x :: l, b => by
    rw [chkV]
    by_cases h1 : cleanB x = false
    · simp [h1]
    · rw [if_neg h1]
      by_cases h2 : x ∈ old ∨ x ∈ b
      · rw [if_pos h2]
        simp only [List.mem_cons, forall_eq_or_imp]
        constructor
        · intro h; simp at h
        · rintro ⟨⟨⟨_, h3, h4⟩, _⟩, _⟩
          rcases h2 with h | h
          · exact absurd h h3
          · exact absurd h h4
      · rw [if_neg h2, chkV_zero old l (b ++ [x])]
        simp only [not_or] at h2
        simp only [List.mem_cons, forall_eq_or_imp, List.mem_append, List.nodup_cons, List.mem_nil_iff, or_false, not_or]
        have h1' : cleanB x = true := by simpa using h1
        constructor
        · rintro ⟨h3, h4⟩
          refine ⟨⟨⟨h1', h2⟩, fun v hv => ⟨(h3 v hv).1, (h3 v hv).2.1, (h3 v hv).2.2.1⟩⟩, fun hx => ?_, h4⟩
          exact (h3 x hx).2.2.2 rfl
        · rintro ⟨⟨_, h3⟩, h4, h5⟩
          exact ⟨fun v hv => ⟨(h3 v hv).1, (h3 v hv).2.1, (h3 v hv).2.2, fun e => h4 (e ▸ hv)⟩, h5⟩
theorem chkV_nodup {old l : List Str} (ho : old.Nodup) (h : chkV old [] l = 0) : (old ++ l).Nodup := by
  obtain ⟨h1, h2⟩ := (chkV_zero old l []).1 h
  exact List.nodup_append.2 ⟨ho, h2, fun a ha b hb e => (h1 b hb).2.1 (e ▸ ha)⟩

/-! ### what the program's edits come to is what the specification's come to -/
theorem lim_with (l : List Att) (name : Str) {w : List Str} (h : w.Nodup) : limL (setL (sortedL l) name w) name = withL l name w := by
  rw [limL, withL, set_with, getL_set_len l name h]
theorem add_eq (l : List Att) (name : Str) (v : List Str) : addP l name v = addR l name v := by
  unfold addP addR
  split
  · rfl
  · split
    · rfl
    · split
      · rfl
      · rename_i h
        exact lim_with l name (chkV_nodup (SS_getL l name).nodup (by simpa using h))
theorem repl_eq (l : List Att) (name : Str) (v : List Str) : replP l name v = replaceR l name v := by
  unfold replP replaceR
  split
  · rfl
  · split
    · rfl
    · rename_i h
      have hn : v.Nodup := ((chkV_zero [] v []).1 (by simpa using h)).2
      rw [← lim_with l name hn]
      split
      · rename_i h2
        rw [limL, getL_set_len l name hn, if_pos (.inr h2)]
      · rfl

theorem remV_spec : ∀ (v old : List Str), old.Nodup → ((remV old v = none ∧ ¬ ((∀ x ∈ v, x ∈ old) ∧ v.Nodup)) ∨ (∃ o, remV old v = some o ∧ ((∀ x ∈ v, x ∈ old) ∧ v.Nodup) ∧ o = old.filter fun x => !decide (x ∈ v)))
  | [], old, _ => .inr ⟨old, rfl, by simp, (List.filter_eq_self.2 (by simp)).symm⟩
  | x :: v, old, hn => by
    rw [remV]
    split
    · rename_i h
      refine .inl ⟨rfl, fun ⟨h2, _⟩ => ?_⟩
      have hf := idxG_neg _ old 0 h
      have := List.filter_eq_self.1 hf x (h2 x (by simp))
      simp at this
    · rename_i h
      obtain ⟨i, h1, h2, h3, h4⟩ := idxG_pos _ old 0 h
      simp only [Nat.zero_add] at h1
      rw [h1, Int.toNat_natCast]
      have hxi : old[i] = x := by
        rw [take_s h2, List.filter_append, h3] at h4
        have h5 := (List.append_right_eq_self.1 h4)
        have := List.filter_eq_nil_iff.1 h5 old[i] (by simp)
        exact (by simpa using this : x = old[i]).symm
      have he : old.eraseIdx i = old.filter fun y => !decide (y = x) := by
        have hsp : old = old.take i ++ x :: old.drop (i + 1) := by
          have := List.take_append_drop i old
          rw [List.drop_eq_getElem_cons h2, hxi] at this
          exact this.symm
        have hnd := hn
        rw [hsp] at hnd
        obtain ⟨n1, n2, n3⟩ := List.nodup_append.1 hnd
        have n4 := (List.nodup_cons.1 n2).1
        have hf : (old.filter fun y => !decide (y = x)) = (old.take i ++ x :: old.drop (i + 1)).filter fun y => !decide (y = x) := congrArg _ hsp
        rw [List.eraseIdx_eq_take_drop_succ, hf, List.filter_append, List.filter_cons]
        simp only [decide_true, Bool.not_true, Bool.false_eq_true, if_false]
        congr 1
        · exact (List.filter_eq_self.2 fun y hy => by simpa using fun e : y = x => n3 y hy x (by simp) e).symm
        · exact (List.filter_eq_self.2 fun y hy => by simpa using fun e : y = x => n4 (e ▸ hy)).symm
      rw [he]
      have hxo : x ∈ old := hxi ▸ List.getElem_mem h2
      have ih := remV_spec v (old.filter fun y => !decide (y = x)) (hn.sublist List.filter_sublist)
      have key : ((∀ y ∈ v, y ∈ old.filter fun z => !decide (z = x)) ∧ v.Nodup) ↔ ((∀ y ∈ x :: v, y ∈ old) ∧ (x :: v).Nodup) := by
        simp only [List.mem_filter, List.mem_cons, forall_eq_or_imp, List.nodup_cons]
        constructor
        · rintro ⟨a, b⟩
          exact ⟨⟨hxo, fun y hy => (a y hy).1⟩, fun hx => by have := (a x hx).2; simp at this, b⟩
        · rintro ⟨⟨_, a⟩, b, c⟩
          exact ⟨fun y hy => ⟨a y hy, by simpa using fun e : y = x => b (e ▸ hy)⟩, c⟩
      rcases ih with ⟨a, b⟩ | ⟨o, a, b, c⟩
      · exact .inl ⟨a, fun h => b (key.2 h)⟩
      · refine .inr ⟨o, a, key.1 b, ?_⟩
        rw [c, List.filter_filter]
        refine List.filter_congr fun y _ => ?_
        by_cases e1 : y = x <;> by_cases e2 : y ∈ v <;> simp [e1, e2]
theorem badR_spec (old : List Str) : ∀ (l b : List Str), badR old b l = false ↔ (∀ x ∈ l, x ∈ old ∧ x ∉ b) ∧ l.Nodup
  | [], b => by simp [badR]
  | x :: l, b => by
    rw [badR]
    simp only [Bool.or_eq_false_iff, decide_eq_false_iff_not, badR_spec old l (b ++ [x]), Classical.not_not, List.mem_cons, forall_eq_or_imp, List.nodup_cons, List.mem_append, List.mem_nil_iff, or_false, not_or]
    constructor
    · rintro ⟨⟨h1, h2⟩, h3, h4⟩
      exact ⟨⟨⟨h1, h2⟩, fun y hy => ⟨(h3 y hy).1, (h3 y hy).2.1⟩⟩, fun hx => (h3 x hx).2.2 rfl, h4⟩
    · rintro ⟨⟨⟨h1, h2⟩, h3⟩, h4, h5⟩
      exact ⟨⟨h1, h2⟩, fun y hy => ⟨(h3 y hy).1, (h3 y hy).2, fun e => h4 (e ▸ hy)⟩, h5⟩
theorem rem_eq (l : List Att) (name : Str) (v : List Str) : removeP l name v = removeR l name v := by
  unfold removeP removeR
  split
  · rfl
  · split
    · rfl
    · rw [set_with]
      by_cases hv : v = []
      · subst hv
        have : leftL [] (getL l name) = [] := List.filter_eq_nil_iff.2 (by simp)
        simp [badR, this]
      · rw [if_neg hv]
        have hb := badR_spec (getL l name) v []
        rcases remV_spec v (getL l name) (SS_getL l name).nodup with ⟨a, b⟩ | ⟨o, a, b, c⟩
        · rw [a, remO]
          have : badR (getL l name) [] v = true := by
            cases h : badR (getL l name) [] v with
            | true => rfl
            | false =>
              obtain ⟨h1, h2⟩ := hb.1 h
              exact absurd ⟨fun x hx => (h1 x hx).1, h2⟩ b
          rw [if_pos this]
        · rw [a, remO]
          have : badR (getL l name) [] v = false := hb.2 ⟨fun x hx => ⟨b.1 x hx, by simp⟩, b.2⟩
          rw [if_neg (by simp [this]), c, leftL]
          simp [hv]
end Go.Proofs.Tz

namespace Go.Proofs.Tz
open Go.Vw Go.Lib
set_option linter.unusedSimpArgs false

theorem nodup_sub_len {α : Type} [DecidableEq α] : ∀ {a b : List α}, a.Nodup → (∀ x ∈ a, x ∈ b) → a.length ≤ b.length
  | [], _, _, _ => Nat.zero_le _
  | x :: a, b, hn, hs => by
    have hp := List.nodup_cons.1 hn
    have hx := hs x (by simp)
    have ih := nodup_sub_len (a := a) (b := b.erase x) hp.2 fun y hy => (List.mem_erase_of_ne (fun e : y = x => hp.1 (e ▸ hy))).2 (hs y (by simp [hy]))
    rw [List.length_erase_of_mem hx] at ih
    have := List.length_pos_of_mem hx
    simp only [List.length_cons]; omega

theorem isLetter_low (c : UInt8) : isLetter (lowc c) = isLetter c := by
  by_cases h : 65 ≤ (c.toNat : Int) ∧ (c.toNat : Int) ≤ 90
  · have e := lowc_toNat c h.1 h.2
    have h1 : isLetter c = true := by simp only [isLetter, Bool.or_eq_true, Bool.and_eq_true, decide_eq_true_eq]; omega
    have h2 : isLetter (lowc c) = true := by simp only [isLetter, Bool.or_eq_true, Bool.and_eq_true, decide_eq_true_eq]; omega
    rw [h1, h2]
  · rw [lowc, if_neg h]
theorem nameC_low (c : UInt8) : nameC (lowc c) = nameC c := by
  by_cases h : 65 ≤ (c.toNat : Int) ∧ (c.toNat : Int) ≤ 90
  · have e := lowc_toNat c h.1 h.2
    have h1 : isLetter c = true := by simp only [isLetter, Bool.or_eq_true, Bool.and_eq_true, decide_eq_true_eq]; omega
    rw [nameC, nameC, isLetter_low, h1]; simp
  · rw [lowc, if_neg h]
theorem nameB_low (s : Str) : nameB (lower s) = nameB s := by
  have h1 : (lower s).head?.any isLetter = s.head?.any isLetter := by
    cases s with
    | nil => rfl
    | cons c s => simp [lower, isLetter_low]
  have h2 : (lower s).all nameC = s.all nameC := by
    rw [Bool.eq_iff_iff, List.all_eq_true, List.all_eq_true]
    simp only [lower, List.mem_map, forall_exists_index, and_imp, forall_apply_eq_imp_iff₂, nameC_low]
  rw [nameB, nameB, h1, h2, lower_len]

theorem chkA_zero : ∀ (l b : List Att), chkA b l = 0 ↔ (∀ a ∈ l, nameB a.1 = true ∧ (∀ c ∈ b, lower c.1 ≠ lower a.1) ∧ a.2 ≠ [] ∧ a.2.length ≤ 16 ∧ chkV [] [] a.2 = 0) ∧ (l.map fun a => lower a.1).Nodup
  | [], b => by simp [chkA]
  | a :: l, b => by
    rw [chkA]
    by_cases h1 : nameB a.1 = false
    · simp [h1]
    have h1' : nameB a.1 = true := by simpa using h1
    rw [if_neg h1]
    by_cases h2 : (b.any fun c => decide (lower c.1 = lower a.1)) = true
    · rw [if_pos h2]
      obtain ⟨c, hc, he⟩ := List.any_eq_true.1 h2
      constructor
      · intro h; simp at h
      · rintro ⟨h, _⟩
        exact absurd (by simpa using he) ((h a (by simp)).2.1 c hc)
    have h2' : ∀ c ∈ b, lower c.1 ≠ lower a.1 := fun c hc e => h2 (List.any_eq_true.2 ⟨c, hc, by simpa using e⟩)
    rw [if_neg h2]
    by_cases h3 : a.2.length = 0
    · rw [if_pos h3]
      have : a.2 = [] := List.length_eq_zero_iff.1 h3
      simp [this]
    have h3' : a.2 ≠ [] := fun e => h3 (by rw [e]; rfl)
    rw [if_neg h3]
    by_cases h4 : 16 < a.2.length
    · rw [if_pos h4]
      constructor
      · intro h; simp at h
      · rintro ⟨h, _⟩
        have := (h a (by simp)).2.2.2.1
        omega
    rw [if_neg h4]
    by_cases h5 : chkV [] [] a.2 ≠ 0
    · rw [if_pos h5]
      constructor
      · intro h; exact absurd h h5
      · rintro ⟨h, _⟩
        exact absurd (h a (by simp)).2.2.2.2 h5
    have h5' : chkV [] [] a.2 = 0 := by simpa using h5
    rw [if_neg h5, chkA_zero l (b ++ [a])]
    simp only [List.mem_cons, forall_eq_or_imp, List.mem_append, List.mem_nil_iff, or_false, List.map_cons, List.nodup_cons]
    constructor
    · rintro ⟨g1, g2⟩
      refine ⟨⟨⟨h1', h2', h3', by omega, h5'⟩, fun x hx => ⟨(g1 x hx).1, fun c hc => (g1 x hx).2.1 c (.inl hc), (g1 x hx).2.2⟩⟩, fun hm => ?_, g2⟩
      obtain ⟨x, hx, e⟩ := List.mem_map.1 hm
      exact (g1 x hx).2.1 a (.inr rfl) e.symm
    · rintro ⟨⟨_, g1⟩, g2, g3⟩
      refine ⟨fun x hx => ⟨(g1 x hx).1, fun c hc => ?_, (g1 x hx).2.2⟩, g3⟩
      rcases hc with hc | rfl
      · exact (g1 x hx).2.1 c hc
      · exact fun e => g2 (List.mem_map.2 ⟨x, hx, e.symm⟩)

structure Valid (l : List Att) : Prop where
  len : l.length ≤ 32
  each : ∀ a ∈ l, nameB a.1 = true ∧ a.2 ≠ [] ∧ a.2.length ≤ 16 ∧ ∀ v ∈ a.2, cleanB v = true
  nod : ∀ a ∈ l, a.2.Nodup
  names : (l.map fun a => lower a.1).Nodup
theorem check_iff (l : List Att) : checkL l = 0 ↔ Valid l := by
  rw [checkL]
  by_cases h : 32 < l.length
  · rw [if_pos h]
    constructor
    · intro h; simp at h
    · intro v; have := v.len; omega
  · rw [if_neg h, chkA_zero]
    constructor
    · rintro ⟨h1, h2⟩
      exact ⟨by omega, fun a ha => ⟨(h1 a ha).1, (h1 a ha).2.2.1, (h1 a ha).2.2.2.1, fun v hv => (((chkV_zero [] a.2 []).1 (h1 a ha).2.2.2.2).1 v hv).1⟩, fun a ha => ((chkV_zero [] a.2 []).1 (h1 a ha).2.2.2.2).2, h2⟩
    · intro v
      exact ⟨fun a ha => ⟨(v.each a ha).1, by simp, (v.each a ha).2.1, (v.each a ha).2.2.1, (chkV_zero [] a.2 []).2 ⟨fun x hx => ⟨(v.each a ha).2.2.2 x hx, by simp, by simp⟩, v.nod a ha⟩⟩, v.names⟩
theorem valid_sorted {r : List Att} (h1 : (sortedL r).length ≤ 32) (h2 : ∀ n v, HasL r n v → nameB n = true ∧ cleanB v = true) (h3 : ∀ n, (getL r n).length ≤ 16) : Valid (sortedL r) := by
  have hN := nf_sorted r
  refine ⟨h1, fun x hx => ?_, fun x hx => (hN.vals x hx).nodup, ?_⟩
  · have hne := hN.ne x hx
    have hin : ∀ v ∈ x.2, HasL r x.1 v := fun v hv => (sorted_has r x.1 v).1 ⟨x, hx, rfl, hv⟩
    obtain ⟨v, hv⟩ := List.exists_mem_of_ne_nil _ hne
    refine ⟨(h2 _ _ (hin v hv)).1, hne, ?_, fun u hu => (h2 _ _ (hin u hu)).2⟩
    have e : getL r x.1 = x.2 := SS_ext (SS_getL _ _) (hN.vals x hx) fun u => by
      rw [mem_getL, sorted_low hx]
      constructor
      · intro h
        obtain ⟨y, hy, e, hu⟩ := (sorted_has r x.1 u).2 h
        rw [← nf_inj hN hy hx e]; exact hu
      · exact hin u
    rw [← e]; exact h3 x.1
  · have : ((sortedL r).map fun a => lower a.1) = (sortedL r).map (·.1) := List.map_congr_left fun x hx => sorted_low hx
    rw [this]
    exact hN.names.nodup
theorem getL_nil_or {l : List Att} (n : Str) : getL l n = [] ∨ ∃ x ∈ sortedL l, x.1 = lower n ∧ x.2 = getL l n := by
  have key : ∀ s : List Att, findA (lower n) s = [] ∨ ∃ x ∈ s, x.1 = lower n ∧ x.2 = findA (lower n) s := by
    intro s
    induction s with
    | nil => exact .inl rfl
    | cons a s ih =>
      rw [findA]
      split
      · rename_i h; exact .inr ⟨a, by simp, h, rfl⟩
      · rcases ih with h | ⟨x, hx, h⟩
        · exact .inl h
        · exact .inr ⟨x, by simp [hx], h⟩
  exact key _
theorem Valid.get {l : List Att} (h : Valid l) (n : Str) : (getL l n).length ≤ 16 := by
  by_cases he : getL l n = []
  · simp [he]
  obtain ⟨v, hv⟩ := List.exists_mem_of_ne_nil _ he
  obtain ⟨a, ha, ea, _⟩ := (mem_getL l n v).1 hv
  refine Nat.le_trans (nodup_sub_len (SS_getL l n).nodup fun u hu => ?_) (h.each a ha).2.2.1
  obtain ⟨b, hb, eb, hu⟩ := (mem_getL l n u).1 hu
  have : b = a := by
    obtain ⟨i, hi, rfl⟩ := List.mem_iff_getElem.1 ha
    obtain ⟨j, hj, rfl⟩ := List.mem_iff_getElem.1 hb
    have := nodup_inj h.names (i := i) (j := j) (by simpa using hi) (by simpa using hj) (by simp [ea, eb])
    subst this; rfl
  rw [← this]; exact hu
theorem Valid.has {l : List Att} (h : Valid l) {n v : Str} (hh : HasL l n v) : nameB n = true ∧ cleanB v = true := by
  obtain ⟨a, ha, rfl, hv⟩ := hh
  exact ⟨by rw [nameB_low]; exact (h.each a ha).1, (h.each a ha).2.2.2 v hv⟩
theorem Valid.sorted {l : List Att} (h : Valid l) : Valid (sortedL l) :=
  valid_sorted (Nat.le_trans (sorted_len l) h.len) (fun _ _ hh => h.has hh) h.get
theorem getL_set' (l : List Att) (name : Str) (w : List Str) (n : Str) : getL (setL (sortedL l) name w) n = if lower name = lower n then getL (setL (sortedL l) name w) name else getL l n := by
  split
  · rename_i h
    simp only [getL, h]
  · rename_i h; exact getL_other l w h
theorem Valid.set {l : List Att} (h : Valid l) {name : Str} {w : List Str} (hn : nameB name = true) (hw : ∀ v ∈ w, cleanB v = true) (h32 : (setL (sortedL l) name w).length ≤ 32) (h16 : (getL (setL (sortedL l) name w) name).length ≤ 16) : Valid (setL (sortedL l) name w) := by
  have hH := hasL_set l name w
  have hG := getL_set' l name w
  have key : Valid (sortedL (setL (sortedL l) name w)) := by
    have hi : sortedL (setL (sortedL l) name w) = setL (sortedL l) name w := by rw [setL, sorted_idem]
    refine valid_sorted (by rw [hi]; exact h32) (fun n v hh => ?_) (fun n => ?_)
    · rcases (hH n v).1 hh with ⟨_, h1⟩ | ⟨rfl, h1⟩
      · exact h.has h1
      · exact ⟨by rw [nameB_low]; exact hn, hw v h1⟩
    · rw [hG n]
      split
      · exact h16
      · exact h.get n
  have hi : sortedL (setL (sortedL l) name w) = setL (sortedL l) name w := by rw [setL, sorted_idem]
  rw [hi] at key
  exact key
theorem limL_ok {l : List Att} {name : Str} (h : (limL l name).2 = 0) : (limL l name).1 = l ∧ l.length ≤ 32 ∧ (getL l name).length ≤ 16 := by
  unfold limL at h ⊢
  split at h
  · simp at h
  · rename_i hc
    rw [if_neg hc]
    simp only [not_or] at hc
    exact ⟨rfl, by omega, by omega⟩

theorem addP_ok {l : List Att} {name : Str} {v : List Str} (h : (addP l name v).2 = 0) : nameB name = true ∧ v ≠ [] ∧ chkV (getL l name) [] v = 0 ∧ (addP l name v).1 = setL (sortedL l) name (getL l name ++ v) ∧ (addP l name v).1.length ≤ 32 ∧ (getL (addP l name v).1 name).length ≤ 16 := by
  unfold addP at h ⊢
  split at h
  · simp at h
  rename_i h1
  split at h
  · simp at h
  rename_i h2
  split at h
  · rename_i h3; exact absurd h h3
  rename_i h3
  rw [if_neg h1, if_neg h2, if_neg h3]
  obtain ⟨a, b, c⟩ := limL_ok h
  rw [a]
  exact ⟨by simpa using h1, h2, by simpa using h3, rfl, b, c⟩
theorem replP_ok {l : List Att} {name : Str} {v : List Str} (h : (replP l name v).2 = 0) : nameB name = true ∧ chkV [] [] v = 0 ∧ (replP l name v).1 = setL (sortedL l) name v ∧ (replP l name v).1.length ≤ 32 ∧ (getL (replP l name v).1 name).length ≤ 16 := by
  unfold replP at h ⊢
  split at h
  · simp at h
  rename_i h1
  split at h
  · rename_i h3; exact absurd h h3
  rename_i h2
  split at h
  · simp at h
  rename_i h3
  rw [if_neg h1, if_neg h2, if_neg h3]
  obtain ⟨a, b, c⟩ := limL_ok h
  rw [a]
  exact ⟨by simpa using h1, by simpa using h2, rfl, b, c⟩
theorem removeP_ok {l : List Att} {name : Str} {v : List Str} (h : (removeP l name v).2 = 0) : nameB name = true ∧ getL l name ≠ [] ∧ ∃ o, (∀ x ∈ o, x ∈ getL l name) ∧ (removeP l name v).1 = setL (sortedL l) name o ∧ (v ≠ [] → o = (getL l name).filter fun x => !decide (x ∈ v)) := by
  unfold removeP at h ⊢
  split at h
  · simp at h
  rename_i h1
  split at h
  · simp at h
  rename_i h2
  rw [if_neg h1, if_neg h2]
  refine ⟨by simpa using h1, h2, ?_⟩
  split at h
  · rename_i h3
    rw [if_pos h3]
    exact ⟨[], by simp, rfl, fun hv => absurd h3 hv⟩
  · rename_i h3
    rw [if_neg h3]
    rcases remV_spec v (getL l name) (SS_getL l name).nodup with ⟨a, b⟩ | ⟨o, a, b, c⟩
    · rw [a] at h; simp [remO] at h
    · rw [a]
      exact ⟨o, fun x hx => by rw [c] at hx; exact (List.mem_filter.1 hx).1, rfl, fun _ => c⟩

theorem Valid.add {l : List Att} (h : Valid l) {name : Str} {v : List Str} (h0 : (addP l name v).2 = 0) : Valid (addP l name v).1 := by
  obtain ⟨h1, h2, h3, h4, h5, h6⟩ := addP_ok h0
  rw [h4] at h5 h6 ⊢
  refine h.set h1 (fun x hx => ?_) h5 h6
  rcases List.mem_append.1 hx with hx | hx
  · exact (h.has ((mem_getL l name x).1 hx)).2
  · exact (((chkV_zero _ _ _).1 h3).1 x hx).1
theorem Valid.replace {l : List Att} (h : Valid l) {name : Str} {v : List Str} (h0 : (replP l name v).2 = 0) : Valid (replP l name v).1 := by
  obtain ⟨h1, h3, h4, h5, h6⟩ := replP_ok h0
  rw [h4] at h5 h6 ⊢
  exact h.set h1 (fun x hx => (((chkV_zero _ _ _).1 h3).1 x hx).1) h5 h6
theorem Valid.remove {l : List Att} (h : Valid l) {name : Str} {v : List Str} (h0 : (removeP l name v).2 = 0) : Valid (removeP l name v).1 := by
  obtain ⟨h1, h2, o, h3, h4, _⟩ := removeP_ok h0
  rw [h4]
  refine h.set h1 (fun x hx => (h.has ((mem_getL l name x).1 (h3 x hx))).2) ?_ ?_
  · refine Nat.le_trans ?_ h.sorted.len
    have hN : NF (setL (sortedL l) name o) := nf_sorted _
    have := nodup_sub_len (a := (setL (sortedL l) name o).map (·.1)) (b := (sortedL l).map (·.1)) hN.names.nodup fun n hn => by
      obtain ⟨x, hx, rfl⟩ := List.mem_map.1 hn
      obtain ⟨u, hu⟩ := List.exists_mem_of_ne_nil _ (hN.ne x hx)
      have hh : HasL (setL (sortedL l) name o) x.1 u := ⟨x, hx, sorted_low (l := (((sortedL l).filter fun x => !decide (x.1 = lower name)) ++ [(lower name, o)])) hx, hu⟩
      have hl : HasL l x.1 u := by
        rcases (hasL_set l name o x.1 u).1 hh with ⟨_, h5⟩ | ⟨e, h5⟩
        · exact h5
        · rw [e]; exact (mem_getL l name u).1 (h3 u h5)
      obtain ⟨y, hy, e, _⟩ := (sorted_has l x.1 u).2 hl
      exact List.mem_map.2 ⟨y, hy, e⟩
    simpa using this
  · refine Nat.le_trans (nodup_sub_len (SS_getL _ _).nodup fun x hx => ?_) (h.get name)
    exact h3 x ((getL_set l name o x).1 hx)

/-! ### what was added can be removed -/
theorem undone {l : List Att} {name : Str} {v : List Str} (h0 : (addP l name v).2 = 0) : removeP (addP l name v).1 name v = (sortedL l, 0) ∧ ∀ x ∈ v, x ∈ getL (addP l name v).1 name := by
  obtain ⟨h1, h2, h3, h4, _⟩ := addP_ok h0
  rw [h4]
  obtain ⟨c1, c2⟩ := (chkV_zero _ _ _).1 h3
  have hg : ∀ x, x ∈ getL (setL (sortedL l) name (getL l name ++ v)) name ↔ x ∈ getL l name ∨ x ∈ v := fun x => by rw [getL_set, List.mem_append]
  have hin : ∀ x ∈ v, x ∈ getL (setL (sortedL l) name (getL l name ++ v)) name := fun x hx => (hg x).2 (.inr hx)
  refine ⟨?_, hin⟩
  unfold removeP
  rw [if_neg (by simp [h1]), if_neg, if_neg h2]
  · rcases remV_spec v (getL (setL (sortedL l) name (getL l name ++ v)) name) (SS_getL _ name).nodup with ⟨a, b⟩ | ⟨o, a, b, c⟩
    · exact absurd ⟨hin, c2⟩ b
    · rw [a, remO, c]
      refine Prod.ext ?_ rfl
      simp only
      rw [setL]
      refine sorted_ext fun n x => ?_
      rw [hasL_app, hasL_fil, hasL_one, lower_lower, hasL_set]
      simp only [List.mem_filter, hg, List.mem_append, Bool.not_eq_true', decide_eq_false_iff_not]
      constructor
      · rintro (⟨e1, ⟨_, h⟩ | ⟨e2, _⟩⟩ | ⟨rfl, h | h, h'⟩)
        · exact h
        · exact absurd e2 e1
        · exact (mem_getL l name x).1 h
        · exact absurd h h'
      · intro h
        by_cases e : n = lower name
        · subst e
          have hm := (mem_getL l name x).2 h
          exact .inr ⟨rfl, .inl hm, fun hv => (c1 x hv).2.1 hm⟩
        · exact .inl ⟨e, .inl ⟨e, h⟩⟩
  · obtain ⟨x, hx⟩ := List.exists_mem_of_ne_nil _ h2
    exact List.ne_nil_of_mem (hin x hx)

/-! ### other attributes do not change -/
theorem add_other {l : List Att} {name other : Str} {v : List Str} (h0 : (addP l name v).2 = 0) (h : ¬ lower name = lower other) : getL (addP l name v).1 other = getL l other := by
  rw [(addP_ok h0).2.2.2.1]; exact getL_other l _ h
theorem repl_other {l : List Att} {name other : Str} {v : List Str} (h0 : (replP l name v).2 = 0) (h : ¬ lower name = lower other) : getL (replP l name v).1 other = getL l other := by
  rw [(replP_ok h0).2.2.1]; exact getL_other l _ h
theorem rem_other {l : List Att} {name other : Str} {v : List Str} (h0 : (removeP l name v).2 = 0) (h : ¬ lower name = lower other) : getL (removeP l name v).1 other = getL l other := by
  obtain ⟨_, _, o, _, h4, _⟩ := removeP_ok h0
  rw [h4]; exact getL_other l _ h
theorem repl_get {l : List Att} {name : Str} {v : List Str} (h0 : (replP l name v).2 = 0) : (∀ x ∈ v, x ∈ getL (replP l name v).1 name) ∧ (getL (replP l name v).1 name).length = v.length := by
  rw [(replP_ok h0).2.2.1]
  exact ⟨fun x hx => (getL_set l name v x).2 hx, getL_set_len l name ((chkV_zero _ _ _).1 (replP_ok h0).2.1).2⟩
end Go.Proofs.Tz

namespace Go.Proofs.Tz
open Go.Vw
set_option linter.unusedSimpArgs false

theorem fits_str {d : D} (h : Sh.Fits .str d) : ∃ s : Str, d = .str s := by
  simp only [Sh.Fits] at h
  obtain ⟨s, rfl, _⟩ := h
  exact ⟨s, rfl⟩
theorem fits_list {α : Type} {s : Sh} (g : α → D) (hs : ∀ d, Sh.Fits s d → ∃ a, d = g a) {d : D} (h : Sh.Fits (.sl s) d) : ∃ l : List α, d = .sl (l.map g) := by
  simp only [Sh.Fits] at h
  obtain ⟨ds, rfl, _, h⟩ := h
  have : ∀ ds : List D, (∀ x ∈ ds, Sh.Fits s x) → ∃ l : List α, ds = l.map g := by
    intro ds
    induction ds with
    | nil => intro _; exact ⟨[], rfl⟩
    | cons x ds ih =>
      intro h
      obtain ⟨a, rfl⟩ := hs x (h x (by simp))
      obtain ⟨l, rfl⟩ := ih fun y hy => h y (by simp [hy])
      exact ⟨a :: l, rfl⟩
  obtain ⟨l, rfl⟩ := this ds h
  exact ⟨l, rfl⟩
theorem fits_strs {d : D} (h : Sh.Fits (.sl .str) d) : ∃ l : List Str, d = strs l := fits_list _ (fun _ h => fits_str h) h
theorem fits_att {d : D} (h : Sh.Fits (.agg [.str, .sl .str]) d) : ∃ a : Att, d = att a := by
  simp only [Sh.Fits, Sh.FitsL] at h
  obtain ⟨ds, rfl, x, xs, rfl, ⟨s, rfl, _⟩, y, ys, rfl, hy, rfl⟩ := h
  obtain ⟨l, rfl⟩ := fits_strs (d := y) (by simp only [Sh.Fits]; exact hy)
  exact ⟨(s, l), rfl⟩
theorem fits_atts {d : D} (h : Sh.Fits (.sl (.agg [.str, .sl .str])) d) : ∃ l : List Att, d = atts l := fits_list _ (fun _ h => fits_att h) h

theorem bulk_map {α : Type} (g : α → D) (c : α → Nat) (h : ∀ a, (g a).bulk = c a) (l : List α) : D.bulks (l.map g) = (l.map c).sum := by
  rw [D.bulks_sum, List.map_map]
  congr 1
  exact List.map_congr_left fun a _ => h a
end Go.Proofs.Tz
