/-
  What the functions that the statements about layer 16 (change) reach compute, part 4 of 4: contracts and plain laws, for lists and strings of bounded size (each theorem states its bound).
-/
import Derived.Test.YtmpiebjhcbkakaaGreatDoorTm
import Derived.Test.YtmpiebjhcbkakaaGreatDoorTk
import Derived.Test.YtmpiebjhcbkakaaGreatDoorWm
import Derived.MakeChecks
import Derived.Laws.CopyRow
import Derived.Shelf.Spec.SlicesInsert
import Derived.Lib.AppendZerosOnto

set_option linter.unusedSimpArgs false
set_option linter.unusedVariables false

/- The statements about change records: Checks, Merges, Edits, Texts. -/
set_option maxRecDepth 100000
set_option maxHeartbeats 8000000
set_option linter.unusedVariables false
set_option linter.unusedSimpArgs false
namespace Go.Proofs.Tz
open Go.Vw Go.RowKit Go.Proofs

theorem readGo_len : ∀ (n : Nat) (s : Str) (out : List Chg), s.length ≤ n → out.length ≤ 4096 → (readGo s out).1.length ≤ 4096 := by
  intro n
  induction n with
  | zero =>
    intro s out hn ho
    have : s = [] := List.length_eq_zero_iff.1 (by omega)
    subst this
    rw [readGo_nil]; exact ho
  | succ n ih =>
    intro s out hn ho
    by_cases hs : s = []
    · subst hs; rw [readGo_nil]; exact ho
    by_cases hlim : 4096 ≤ out.length
    · rw [readGo_lim hs hlim]; simp
    by_cases hix : 0 ≤ ixB s 10
    · obtain ⟨j, hj⟩ := Int.eq_ofNat_of_zero_le hix
      have hlt := ixB_lt hix
      rw [hj, Int.toNat_natCast] at hlt
      have hj' : ixB s 10 = (j : Int) := hj
      rw [readGo_at hlim hj']
      cases hl : readC (s.take j) with
      | none => simp
      | some r => exact ih _ _ (by simp; omega) (by simp; omega)
    · rw [readGo_no hs hlim (by omega)]; simp
theorem law3 (c : Chg) (s : Str) : Ctr Tryz.prog 3 [.d (chgD c), .d (.str s)] (.d (.bool true)) := by
  refine fn_of_vwp (fun _ => false) (by kernel_rfl) Tryz.func3 (by kernel_rfl) rfl rfl (Nat.le_of_ble_eq_true rfl) (by kernel_rfl) rfl rfl ?_
  have c1 := light_fn [c]
  have aw := awake_fn
  by_cases h1 : lightB [c] = true
  case neg =>
    have h1' : lightB [c] = false := by simpa using h1
    rw [h1'] at c1
    simp only [chgs, chgD, csnD, List.map_cons, List.map_nil] at c1
    simp -implicitDefEqProofs [chgs, chgD, csnD]
    repeat refine And.intro (by decide) ?_
    refine callK c1 ?_
    simp -implicitDefEqProofs
    refine callK aw ?_
    simp -implicitDefEqProofs
  rw [h1] at c1
  by_cases h2 : (2000 : Int) < List.length s
  · simp only [chgs, chgD, csnD, List.map_cons, List.map_nil] at c1
    simp -implicitDefEqProofs [chgs, chgD, csnD]
    repeat refine And.intro (by decide) ?_
    refine callK c1 ?_
    simp -implicitDefEqProofs [h2]
    refine callK aw ?_
    simp -implicitDefEqProofs
  have hf : FitC c := (light_fit h1).all c (by simp)
  have c2 := line_fn c hf
  have c3 := lineR_fn c hf
  have c4 := parseCh_fn s (by omega)
  have c5 := parseChR_fn s (by omega)
  have c6 := chkC_fn c hf
  have c7 := chkCR_fn c hf
  generalize lineCT c = A at *
  generalize parseCT s = B at *
  generalize chkC c = E at *
  obtain ⟨A1, A2⟩ := A
  obtain ⟨⟨⟨b1, b2, b3⟩, b4, b5, b6, b7, b8⟩, B2⟩ := B
  simp only [chgs, chgD, csnD, List.map_cons, List.map_nil] at c1 c2 c3 c4 c5 c6 c7
  simp -implicitDefEqProofs [chgs, chgD, csnD]
  repeat refine And.intro (by decide) ?_
  refine callK c1 ?_
  simp -implicitDefEqProofs [h2]
  refine callK c2 ?_
  simp -implicitDefEqProofs
  refine callK c3 ?_
  simp -implicitDefEqProofs
  refine callK c4 ?_
  simp -implicitDefEqProofs
  refine callK c5 ?_
  simp -implicitDefEqProofs
  refine callP c6 ?_
  simp -implicitDefEqProofs
  refine callP c7 ?_
  simp -implicitDefEqProofs [leafEq]
  refine callP aw ?_
  simp -implicitDefEqProofs

theorem mergeL_len (a b : List Chg) : (mergeL a b).length ≤ a.length + b.length := by
  have := accM_len (a ++ b) (a.length + b.length)
  have e : mergeL a b = accM (a ++ b) (a.length + b.length) := by rw [mergeL, ← accM_all, List.length_append]
  rw [e]; exact this
theorem mergeL_mem {a b : List Chg} {x : Chg} (h : x ∈ mergeL a b) : x ∈ a ∨ x ∈ b := by
  have := ((mergeL_spec a b).mem x).1 h
  simpa using this.1
theorem law4 (a b : List Chg) : Ctr Tryz.prog 4 [.d (chgs a), .d (chgs b)] (.d (.bool true)) := by
  refine fn_of_vwp (fun _ => false) (by kernel_rfl) Tryz.func4 (by kernel_rfl) rfl rfl (Nat.le_of_ble_eq_true rfl) (by kernel_rfl) rfl rfl ?_
  have c1 := light_fn a
  have c2 := light_fn b
  have aw := awake_fn
  by_cases h1 : lightB a = true
  case neg =>
    have h1' : lightB a = false := by simpa using h1
    rw [h1'] at c1
    simp only [chgs] at c1
    simp -implicitDefEqProofs [chgs]
    refine callK c1 ?_
    simp -implicitDefEqProofs
    refine callK aw ?_
    simp -implicitDefEqProofs
  rw [h1] at c1
  by_cases h2 : lightB b = true
  case neg =>
    have h2' : lightB b = false := by simpa using h2
    rw [h2'] at c2
    simp only [chgs] at c1 c2
    simp -implicitDefEqProofs [chgs]
    refine callK c1 ?_
    simp -implicitDefEqProofs
    refine callK c2 ?_
    simp -implicitDefEqProofs
    refine callK aw ?_
    simp -implicitDefEqProofs
  rw [h2] at c2
  have fa := light_fit h1
  have fb := light_fit h2
  have la := (light_all h1).1
  have lb := (light_all h2).1
  have hl := mergeL_len a b
  have c3 := merge_fn a b fa.all fb.all (by omega)
  have c4 := mergeR_fn a b fa fb (by omega)
  generalize mergeL a b = M at *
  have c5 := sameC_fn M M (by omega) (by omega)
  rw [eqB_yes rfl] at c5
  simp only [chgs] at c1 c2 c3 c4 c5
  simp -implicitDefEqProofs [chgs]
  refine callK c1 ?_
  simp -implicitDefEqProofs
  refine callK c2 ?_
  simp -implicitDefEqProofs
  refine callK c3 ?_
  simp -implicitDefEqProofs
  refine callK c4 ?_
  simp -implicitDefEqProofs
  refine callK c5 ?_
  simp -implicitDefEqProofs
  refine callK aw ?_
  simp -implicitDefEqProofs

theorem law6 (id : Str) (a b : List Att) : Ctr Tryz.prog 6 [.d (.str id), .d (atts a), .d (atts b)] (.d (.bool true)) := by
  refine fn_of_vwp (fun _ => false) (by kernel_rfl) Tryz.func6 (by kernel_rfl) rfl rfl (Nat.le_of_ble_eq_true rfl) (by kernel_rfl) rfl rfl ?_
  have c1 := lightA_fn a
  have c2 := lightA_fn b
  have aw := awake_fn
  by_cases h1 : lightA a = true
  case neg =>
    have h1' : lightA a = false := by simpa using h1
    rw [h1'] at c1
    simp only [atts] at c1
    simp -implicitDefEqProofs [atts]
    refine callK c1 ?_
    simp -implicitDefEqProofs
    refine callK aw ?_
    simp -implicitDefEqProofs
  rw [h1] at c1
  by_cases h2 : lightA b = true
  case neg =>
    have h2' : lightA b = false := by simpa using h2
    rw [h2'] at c2
    simp only [atts] at c1 c2
    simp -implicitDefEqProofs [atts]
    refine callK c1 ?_
    simp -implicitDefEqProofs
    refine callK c2 ?_
    simp -implicitDefEqProofs
    refine callK aw ?_
    simp -implicitDefEqProofs
  rw [h2] at c2
  by_cases h3 : (400 : Int) < List.length id
  · simp only [atts] at c1 c2
    simp -implicitDefEqProofs [atts]
    refine callK c1 ?_
    simp -implicitDefEqProofs
    refine callK c2 ?_
    simp -implicitDefEqProofs [h3]
    refine callK aw ?_
    simp -implicitDefEqProofs
  have fE := lightE_fit h1 h2
  have fE2 := lightE_fit h2 h1
  have l1 := onlyL_le (o := 5) (id := id) fE h1
  have l2 := onlyL_le (o := 4) (id := id) fE2 h2
  have c3 := edits_fn id a b fE fE2 (by omega) (by omega)
  have c4 := editsR_fn id a b fE fE2 (by omega) (by omega)
  have hl : (onlyL 5 id a b ++ onlyL 4 id b a).length ≤ 16000 := by rw [List.length_append]; omega
  generalize onlyL 5 id a b ++ onlyL 4 id b a = M at *
  have c5 := sameC_fn M M (by omega) (by omega)
  rw [eqB_yes rfl] at c5
  simp only [chgs, atts] at c1 c2 c3 c4 c5
  simp -implicitDefEqProofs [atts]
  refine callK c1 ?_
  simp -implicitDefEqProofs
  refine callK c2 ?_
  simp -implicitDefEqProofs [h3]
  refine callK c3 ?_
  simp -implicitDefEqProofs
  refine callK c4 ?_
  simp -implicitDefEqProofs
  refine callK c5 ?_
  simp -implicitDefEqProofs
  refine callK aw ?_
  simp -implicitDefEqProofs

theorem law9 (l : List Chg) (s : Str) : Ctr Tryz.prog 9 [.d (chgs l), .d (.str s)] (.d (.bool true)) := by
  refine fn_of_vwp (fun _ => false) (by kernel_rfl) Tryz.func9 (by kernel_rfl) rfl rfl (Nat.le_of_ble_eq_true rfl) (by kernel_rfl) rfl rfl ?_
  have c1 := light_fn l
  have aw := awake_fn
  by_cases h1 : lightB l = true
  case neg =>
    have h1' : lightB l = false := by simpa using h1
    rw [h1'] at c1
    simp only [chgs] at c1
    simp -implicitDefEqProofs [chgs]
    refine callK c1 ?_
    simp -implicitDefEqProofs
    refine callK aw ?_
    simp -implicitDefEqProofs
  rw [h1] at c1
  by_cases h2 : (6000 : Int) < List.length s
  · simp only [chgs] at c1
    simp -implicitDefEqProofs [chgs]
    refine callK c1 ?_
    simp -implicitDefEqProofs [h2]
    refine callK aw ?_
    simp -implicitDefEqProofs
  have fl := light_fit h1
  have c2 := text_fn l fl
  have c3 := textR_fn l fl
  have c4 := read_fn s (by omega)
  have c5 := readR_fn s (by omega)
  have hr : (readGo s []).1.length < 1000000 := by have := readGo_len _ s [] (Nat.le_refl _) (by simp); omega
  generalize textC l = A at *
  generalize readGo s [] = B at *
  obtain ⟨A1, A2⟩ := A
  obtain ⟨B1, B2, B3⟩ := B
  have c6 := sameC_fn B1 B1 hr hr
  rw [eqB_yes rfl] at c6
  simp only [chgs] at c1 c2 c3 c4 c5 c6
  simp -implicitDefEqProofs [chgs]
  refine callK c1 ?_
  simp -implicitDefEqProofs [h2]
  refine callK c2 ?_
  simp -implicitDefEqProofs
  refine callK c3 ?_
  simp -implicitDefEqProofs
  refine callK c4 ?_
  simp -implicitDefEqProofs
  refine callK c5 ?_
  simp -implicitDefEqProofs
  refine callK c6 ?_
  simp -implicitDefEqProofs
  refine callK aw ?_
  simp -implicitDefEqProofs
end Go.Proofs.Tz

namespace Go.Proofs.Tz
open Go.Vw
set_option linter.unusedSimpArgs false

theorem fits_str {d : D} (h : Sh.Fits .str d) : ∃ s : Str, d = .str s := by
  simp only [Sh.Fits] at h
  obtain ⟨s, rfl, _⟩ := h
  exact ⟨s, rfl⟩
theorem fits_list {α : Type} {s : Sh} (g : α → D) (hs : ∀ d, Sh.Fits s d → ∃ a, d = g a) {d : D} (h : Sh.Fits (.sl s) d) : ∃ l : List α, d = .sl (l.map g) := by
  simp only [Sh.Fits] at h
  obtain ⟨ds, rfl, _, h⟩ := h
  have : ∀ ds : List D, (∀ x ∈ ds, Sh.Fits s x) → ∃ l : List α, ds = l.map g := by
    intro ds
    induction ds with
    | nil => intro _; exact ⟨[], rfl⟩
    | cons x ds ih =>
      intro h
      obtain ⟨a, rfl⟩ := hs x (h x (by simp))
      obtain ⟨l, rfl⟩ := ih fun y hy => h y (by simp [hy])
      exact ⟨a :: l, rfl⟩
  obtain ⟨l, rfl⟩ := this ds h
  exact ⟨l, rfl⟩
theorem fits_strs {d : D} (h : Sh.Fits (.sl .str) d) : ∃ l : List Str, d = strs l := fits_list _ (fun _ h => fits_str h) h
theorem fits_att {d : D} (h : Sh.Fits (.agg [.str, .sl .str]) d) : ∃ a : Att, d = att a := by
  simp only [Sh.Fits, Sh.FitsL] at h
  obtain ⟨ds, rfl, x, xs, rfl, ⟨s, rfl, _⟩, y, ys, rfl, hy, rfl⟩ := h
  obtain ⟨l, rfl⟩ := fits_strs (d := y) (by simp only [Sh.Fits]; exact hy)
  exact ⟨(s, l), rfl⟩
theorem fits_atts {d : D} (h : Sh.Fits (.sl (.agg [.str, .sl .str])) d) : ∃ l : List Att, d = atts l := fits_list _ (fun _ h => fits_att h) h

theorem bulk_map {α : Type} (g : α → D) (c : α → Nat) (h : ∀ a, (g a).bulk = c a) (l : List α) : D.bulks (l.map g) = (l.map c).sum := by
  rw [D.bulks_sum, List.map_map]
  congr 1
  exact List.map_congr_left fun a _ => h a
end Go.Proofs.Tz

/- Change records: from the arguments' shapes to the data; the statements at arguments of bounded size. -/
set_option maxRecDepth 100000
set_option linter.unusedVariables false
set_option linter.unusedSimpArgs false
namespace Go.Proofs.Tz
open Go.Vw Go.RowKit Go.Proofs

theorem fits_csn {d : D} (h : Sh.Fits (.agg [.int .i64, .int .i64, .int .i64]) d) : ∃ x : Csn, d = csnD x := by
  simp only [Sh.Fits, Sh.FitsL] at h
  obtain ⟨ds, rfl, x, xs, rfl, ⟨a, rfl, _⟩, y, ys, rfl, ⟨b, rfl, _⟩, z, zs, rfl, ⟨c, rfl, _⟩, rfl⟩ := h
  exact ⟨(a, b, c), rfl⟩
theorem fits_chg {d : D} (h : Sh.Fits (.agg [.agg [.int .i64, .int .i64, .int .i64], .int .i64, .str, .str, .str, .str]) d) : ∃ x : Chg, d = chgD x := by
  simp only [Sh.Fits, Sh.FitsL] at h
  obtain ⟨ds, rfl, n, ns, rfl, hn, o, os, rfl, ⟨ov, rfl, _⟩, i, is, rfl, ⟨iv, rfl, _⟩, m, ms, rfl, ⟨mv, rfl, _⟩, a, az, rfl, ⟨av, rfl, _⟩, v, vs, rfl, ⟨vv, rfl, _⟩, rfl⟩ := h
  obtain ⟨c, rfl⟩ := fits_csn (by simp only [Sh.Fits, Sh.FitsL]; exact hn)
  exact ⟨(c, ov, iv, mv, av, vv), rfl⟩
theorem fits_chgs {d : D} (h : Sh.Fits (.sl (.agg [.agg [.int .i64, .int .i64, .int .i64], .int .i64, .str, .str, .str, .str])) d) : ∃ x : List Chg, d = chgs x := by
  rw [Sh.Fits] at h
  obtain ⟨ds, rfl, _, hd⟩ := h
  have key : ∀ (ds : List D), (∀ x ∈ ds, Sh.Fits (.agg [.agg [.int .i64, .int .i64, .int .i64], .int .i64, .str, .str, .str, .str]) x) → ∃ l : List Chg, ds = l.map chgD := by
    intro ds
    induction ds with
    | nil => intro _; exact ⟨[], rfl⟩
    | cons d ds ih =>
      intro h
      obtain ⟨x, rfl⟩ := fits_chg (h d (by simp))
      obtain ⟨l, rfl⟩ := ih (fun y hy => h y (by simp [hy]))
      exact ⟨x :: l, rfl⟩
  obtain ⟨l, rfl⟩ := key ds hd
  exact ⟨l, rfl⟩
theorem ChangeChecks_ok (c : Chg) (s : Str) (hb : D.lims 140737488351232 [chgD c, .str s]) : Ctr Tryz.prog 3 [.d (chgD c), .d (.str s)] (.d (.bool true)) := law3 c s
theorem ChangeMerges_ok (a b : List Chg) (hb : D.lims 140737488351232 [chgs a, chgs b]) : Ctr Tryz.prog 4 [.d (chgs a), .d (chgs b)] (.d (.bool true)) := law4 a b
theorem ChangeEdits_ok (id : Str) (a b : List Att) (hb : D.lims 140737488351232 [.str id, atts a, atts b]) : Ctr Tryz.prog 6 [.d (.str id), .d (atts a), .d (atts b)] (.d (.bool true)) := law6 id a b
theorem ChangeTexts_ok (l : List Chg) (s : Str) (hb : D.lims 140737488351232 [chgs l, .str s]) : Ctr Tryz.prog 9 [.d (chgs l), .d (.str s)] (.d (.bool true)) := law9 l s
end Go.Proofs.Tz

/- The statements about change records: Union. -/
set_option maxRecDepth 100000
set_option maxHeartbeats 8000000
set_option linter.unusedVariables false
set_option linter.unusedSimpArgs false
namespace Go.Proofs.Tz
open Go.Vw Go.RowKit Go.Proofs

/-! ### merging, the plain law -/
theorem MergeS.ext {S S' R : List Chg} (h : MergeS S R) (hS : ∀ r, r ∈ S ↔ r ∈ S') : MergeS S' R :=
  ⟨h.asc, fun r => by rw [h.mem]; simp only [hS]⟩
theorem MergeS.sub {S R : List Chg} (h : MergeS S R) {r : Chg} (hr : r ∈ R) : r ∈ S := ((h.mem r).1 hr).1
theorem MergeS.over {S T R X : List Chg} (h : MergeS S R) (hX : MergeS (R ++ T) X) : MergeS (S ++ T) X := by
  refine ⟨hX.asc, fun x => ?_⟩
  rw [hX.mem]
  simp only [List.mem_append]
  constructor
  · rintro ⟨h1, h2, h3⟩
    refine ⟨h1.imp h.sub id, h2, fun r' hr' hc he => ?_⟩
    rcases hr' with hr' | hr'
    · obtain ⟨y, hy, hy1, hy2⟩ := h.has hr' hc
      exact List.le_trans (h3 y (.inl hy) (h.good hy) (by rw [hy1, he])) hy2
    · exact h3 r' (.inr hr') hc he
  · rintro ⟨h1, h2, h3⟩
    refine ⟨?_, h2, fun r' hr' hc he => h3 r' (hr'.imp h.sub id) hc he⟩
    rcases h1 with h1 | h1
    · obtain ⟨y, hy, hy1, hy2⟩ := h.has h1 h2
      have := h3 y (.inl (h.sub hy)) (h.good hy) hy1
      have e := lineC_inj h2 (h.good hy) (List.le_antisymm this hy2)
      rw [e]; exact .inl hy
    · exact .inr h1
theorem MergeS.keep {S T R : List Chg} (h : MergeS S R) (hT : ∀ r ∈ T, r ∈ S) : MergeS (R ++ T) R := by
  refine ⟨h.asc, fun r => ?_⟩
  simp only [List.mem_append]
  constructor
  · intro hr
    obtain ⟨a, b, c⟩ := (h.mem r).1 hr
    exact ⟨.inl hr, b, fun r' hr' hc he => c r' (hr'.elim h.sub (hT r')) hc he⟩
  · rintro ⟨h1, h2, h3⟩
    rcases h1 with h1 | h1
    · exact h1
    · obtain ⟨y, hy, hy1, hy2⟩ := h.has (hT r h1) h2
      have := h3 y (.inl hy) (h.good hy) hy1
      have e := lineC_inj h2 (h.good hy) (List.le_antisymm this hy2)
      rw [e]; exact hy
theorem mergeL_ext {a b a' b' : List Chg} (h : ∀ r, (r ∈ a ∨ r ∈ b) ↔ (r ∈ a' ∨ r ∈ b')) : mergeL a b = mergeL a' b' :=
  (mergeL_spec a b).uniq (mergeL_spec a' b') fun r => by simpa using h r
theorem mergeL_keep {a b t : List Chg} (h : ∀ r ∈ t, r ∈ a ∨ r ∈ b) : mergeL (mergeL a b) t = mergeL a b :=
  (mergeL_spec (mergeL a b) t).uniq ((mergeL_spec a b).keep (T := t) fun r hr => by simpa using h r hr) fun _ => Iff.rfl
theorem mergeL_assoc (a b c : List Chg) : mergeL (mergeL a b) c = mergeL a (mergeL b c) := by
  have h1 := (mergeL_spec a b).over (mergeL_spec (mergeL a b) c)
  have h2 : MergeS (mergeL b c ++ a) (mergeL a (mergeL b c)) := (mergeL_spec a (mergeL b c)).ext fun r => by simp [or_comm]
  have h3 := (mergeL_spec b c).over h2
  refine h1.uniq h3 fun r => ?_
  simp only [List.mem_append]
  constructor
  · rintro ((h | h) | h)
    · exact .inr h
    · exact .inl (.inl h)
    · exact .inl (.inr h)
  · rintro ((h | h) | h)
    · exact .inl (.inr h)
    · exact .inr h
    · exact .inl (.inl h)

theorem rev_take {l : List Chg} {k : Nat} (h : k < l.length) : l.reverse.take (k + 1) = l.reverse.take k ++ [l[l.length - 1 - k]'(by omega)] := by
  rw [take_s (by simpa using h), List.getElem_reverse]
def RvI (l : List Chg) (k : Nat) (τ : St) : Prop := τ 0 = .d (.sl (l.map chgD)) ∧ τ 4 = .d (.int .i64 ((l.length : Int) - 1 - k)) ∧ τ 3 = .own true 26 ((l.reverse.take k).map chgD)
theorem reversed_fn (l : List Chg) (hl : l.length < 1000000) : Ctr Tryz.prog 31 [.d (chgs l)] (.own true 26 (l.reverse.map chgD)) := by
  refine fn_of_vwp (fun i => i == 2 || i == 3 || i == 18) (by kernel_rfl) Tryz.func31 (by kernel_rfl) rfl rfl (Nat.le_of_ble_eq_true rfl) (by kernel_rfl) rfl rfl ?_
  simp -implicitDefEqProofs [chgs]
  repeat refine And.intro (by omega) ?_
  refine loopN l.length (RvI l) ⟨by simp, by simp, by simp⟩ ?_
  rintro k τ hk ⟨g0, g4, g3⟩
  by_cases hlt : k < l.length
  · obtain ⟨j, hjd⟩ : ∃ j, j = l.length - 1 - k := ⟨_, rfl⟩
    have hj : (l.length : Int) - 1 - k = (j : Int) := by omega
    rw [hj] at g4
    have hjl : j < l.length := by omega
    have ht : l.reverse.take (k + 1) = l.reverse.take k ++ [l[j]] := by subst hjd; exact rev_take hlt
    have hlen : (l.reverse.take k).length ≤ l.length := by simp; omega
    have e2 : (j : Int) - 1 = (l.length : Int) - 1 - (k + 1 : Nat) := by omega
    clear hjd hj
    generalize hR2 : l.reverse.take (k + 1) = R2 at *
    generalize l.reverse.take k = R1 at *
    generalize hx : l[j] = x at *
    simp -implicitDefEqProofs [g0, g4, g3, hjl, hx, chgD, csnD]
    repeat refine And.intro (by omega) ?_
    refine again hlt ⟨by simp [g0, chgD, csnD], ?_, by simp [hR2, ht, chgD, csnD]⟩
    simp only [put_at, kill, if_true]
    rw [e2]
  · obtain rfl : k = l.length := by omega
    have hng : (l.length : Int) - 1 - l.length = -1 := by omega
    rw [hng] at g4
    have ht : l.reverse.take l.length = l.reverse := List.take_of_length_le (by simp)
    rw [ht] at g3
    simp -implicitDefEqProofs [g0, g4, g3]

def UnI (M a b c : List Chg) (k : Nat) (τ : St) : Prop := τ 0 = .d (chgs a) ∧ τ 1 = .d (chgs b) ∧ τ 2 = .d (chgs c) ∧ τ 7 = .own false 26 (M.map chgD) ∧ τ 8 = .d (.int .i64 (k + 1 : Nat))
set_option maxHeartbeats 20000000 in
theorem law7 (a b c : List Chg) : Ctr Tryz.prog 7 [.d (chgs a), .d (chgs b), .d (chgs c)] (.d (.bool true)) := by
  refine fn_of_vwp (fun _ => false) (by kernel_rfl) Tryz.func7 (by kernel_rfl) rfl rfl (Nat.le_of_ble_eq_true rfl) (by kernel_rfl) rfl rfl ?_
  have c1 := light_fn a
  have c2 := light_fn b
  have c3 := light_fn c
  have aw := awake_fn
  by_cases h1 : lightB a = true
  case neg =>
    have h1' : lightB a = false := by simpa using h1
    rw [h1'] at c1
    simp only [chgs] at c1
    simp -implicitDefEqProofs [chgs]
    refine callK c1 ?_
    simp -implicitDefEqProofs
    refine callK aw ?_
    simp -implicitDefEqProofs
  rw [h1] at c1
  by_cases h2 : lightB b = true
  case neg =>
    have h2' : lightB b = false := by simpa using h2
    rw [h2'] at c2
    simp only [chgs] at c1 c2
    simp -implicitDefEqProofs [chgs]
    refine callK c1 ?_
    simp -implicitDefEqProofs
    refine callK c2 ?_
    simp -implicitDefEqProofs
    refine callK aw ?_
    simp -implicitDefEqProofs
  rw [h2] at c2
  by_cases h3 : lightB c = true
  case neg =>
    have h3' : lightB c = false := by simpa using h3
    rw [h3'] at c3
    simp only [chgs] at c1 c2 c3
    simp -implicitDefEqProofs [chgs]
    refine callK c1 ?_
    simp -implicitDefEqProofs
    refine callK c2 ?_
    simp -implicitDefEqProofs
    refine callK c3 ?_
    simp -implicitDefEqProofs
    refine callK aw ?_
    simp -implicitDefEqProofs
  rw [h3] at c3
  have fa := (light_fit h1).all
  have fb := (light_fit h2).all
  have fc := (light_fit h3).all
  have la := (light_all h1).1
  have lb := (light_all h2).1
  have lc := (light_all h3).1
  have lM := mergeL_len a b
  have lN := mergeL_len b c
  have lX := mergeL_len (mergeL a b) c
  have fM : ∀ x ∈ mergeL a b, FitC x := fun x hx => (mergeL_mem hx).elim (fa x) (fb x)
  have fN : ∀ x ∈ mergeL b c, FitC x := fun x hx => (mergeL_mem hx).elim (fb x) (fc x)
  have fR : ∀ x ∈ a.reverse, FitC x := fun x hx => fa x (by simpa using hx)
  have d1 := merge_fn a b fa fb (by omega)
  have d2 := merge_fn (mergeL a b) c fM fc (by omega)
  have d3 := merge_fn b a fb fa (by omega)
  have d4 := reversed_fn a (by omega)
  have d5 := merge_fn a.reverse b fR fb (by simp; omega)
  have d6 := merge_fn (mergeL a b) a fM fa (by omega)
  have d7 := merge_fn (mergeL a b) (mergeL a b) fM fM (by omega)
  have d8 := merge_fn b c fb fc (by omega)
  have d9 := merge_fn a (mergeL b c) fa fN (by omega)
  rw [show mergeL b a = mergeL a b from mergeL_ext fun r => or_comm] at d3
  rw [show mergeL a.reverse b = mergeL a b from mergeL_ext fun r => by simp] at d5
  rw [mergeL_keep (fun r hr => .inl hr)] at d6
  rw [mergeL_keep (fun r hr => mergeL_mem hr)] at d7
  rw [← mergeL_assoc] at d9
  have sM := sameC_fn (mergeL a b) (mergeL a b) (by omega) (by omega)
  have sX := sameC_fn (mergeL (mergeL a b) c) (mergeL (mergeL a b) c) (by omega) (by omega)
  rw [eqB_yes rfl] at sM sX
  have asc := (mergeL_spec a b).asc
  rw [List.pairwise_iff_getElem] at asc
  generalize mergeL (mergeL a b) c = X at *
  generalize mergeL a b = M at *
  generalize mergeL b c = N at *
  generalize a.reverse = V at *
  simp only [chgs] at c1 c2 c3 d1 d2 d3 d4 d5 d6 d7 d8 d9 sM sX
  simp -implicitDefEqProofs [chgs]
  refine callK c1 ?_
  simp -implicitDefEqProofs
  refine callK c2 ?_
  simp -implicitDefEqProofs
  refine callK c3 ?_
  simp -implicitDefEqProofs
  refine callK d1 ?_
  simp -implicitDefEqProofs
  refine loopN (M.length - 1) (UnI M a b c) ⟨by simp [chgs], by simp [chgs], by simp [chgs], by simp, by simp⟩ ?_
  rintro k τ hk ⟨g0, g1, g2, g7, g8⟩
  by_cases hlt : k + 1 < M.length
  · have hlt' : (k : Int) + 1 < M.length := by omega
    have hlt0 : k < M.length := by omega
    have hc := asc k (k + 1) hlt0 hlt (by omega)
    have e1 := ccmpR_fn M[k].1 M[k + 1].1
    generalize cmpC M[k].1 M[k + 1].1 = Z at *
    generalize hx : M[k] = x at *
    generalize hy : M[k + 1] = y at *
    have hng : ¬ (0 : Int) ≤ Z := by omega
    simp only [csnD] at e1
    simp -implicitDefEqProofs [g0, g1, g2, g7, g8, hlt, hlt', hlt0, hx, hy, chgD, csnD]
    repeat refine And.intro (by omega) ?_
    refine callP e1 ?_
    simp -implicitDefEqProofs [g0, g1, g2, g7, g8, hng]
    repeat refine And.intro (by omega) ?_
    exact again (by omega) ⟨by simp [g0], by simp [g1], by simp [g2], by simp [g7, chgD, csnD], by simp⟩
  · have hlt' : ¬ (k : Int) + 1 < M.length := by omega
    simp -implicitDefEqProofs [g0, g1, g2, g7, g8, hlt', chgs]
    refine callK d2 ?_
    simp -implicitDefEqProofs [g0, g1, g2, g7, g8, chgs]
    refine callK d3 ?_
    simp -implicitDefEqProofs [g0, g1, g2, g7, g8, chgs]
    refine callK sM ?_
    simp -implicitDefEqProofs [g0, g1, g2, g7, g8, chgs]
    refine callK d4 ?_
    simp -implicitDefEqProofs [g0, g1, g2, g7, g8, chgs]
    refine callK d5 ?_
    simp -implicitDefEqProofs [g0, g1, g2, g7, g8, chgs]
    refine callK sM ?_
    simp -implicitDefEqProofs [g0, g1, g2, g7, g8, chgs]
    refine callK d6 ?_
    simp -implicitDefEqProofs [g0, g1, g2, g7, g8, chgs]
    refine callK sM ?_
    simp -implicitDefEqProofs [g0, g1, g2, g7, g8, chgs]
    refine callK d7 ?_
    simp -implicitDefEqProofs [g0, g1, g2, g7, g8, chgs]
    refine callK sM ?_
    simp -implicitDefEqProofs [g0, g1, g2, g7, g8, chgs]
    refine callK d8 ?_
    simp -implicitDefEqProofs [g0, g1, g2, g7, g8, chgs]
    refine callK d9 ?_
    simp -implicitDefEqProofs [g0, g1, g2, g7, g8, chgs]
    refine callK sX ?_
    simp -implicitDefEqProofs [g0, g1, g2, g7, g8, chgs]
    refine callK aw ?_
    simp -implicitDefEqProofs
theorem ChangeUnion_ok (a b c : List Chg) (hb : D.lims 140737488351232 [chgs a, chgs b, chgs c]) : Ctr Tryz.prog 7 [.d (chgs a), .d (chgs b), .d (chgs c)] (.d (.bool true)) := law7 a b c
end Go.Proofs.Tz

/- The statements about change records: there and back. -/
set_option maxRecDepth 100000
set_option maxHeartbeats 8000000
set_option linter.unusedVariables false
set_option linter.unusedSimpArgs false
namespace Go.Proofs.Tz
open Go.Vw Go.RowKit Go.Proofs

theorem lineC_light {c : Chg} (hc : lightC c = true) : (lineC c).length ≤ 4000 := by
  simp only [lightC, Bool.and_eq_true, decide_eq_true_eq] at hc
  obtain ⟨⟨⟨f1, f2⟩, f3⟩, f4⟩ := hc
  obtain ⟨n, op, id, nm, at_, va⟩ := c
  simp only at f1 f2 f3 f4
  have hf := formatC_le n
  have hw := opW_len op
  have e1 := escS_len nm
  have e2 := escS_len at_
  have e3 := escS_len va
  have hl : lineC (n, op, id, nm, at_, va) = joinB 32 (lineWs (n, op, id, nm, at_, va)) := rfl
  rw [hl]
  simp only [lineWs]
  split
  · simp only [joinB, List.length_append, List.length_cons]; omega
  · split
    · simp only [joinB, List.length_append, List.length_cons]; omega
    · simp only [joinB, List.length_append, List.length_cons]; omega
theorem escS_ge (s : Str) : s.length ≤ (escS s).length := unesc_len _ (escS s) s (Nat.le_refl _) (unesc_esc s)
theorem fit_of_line {c : Chg} (h : chkC c = 0) (hl : (lineC c).length ≤ 6000) : FitC c := by
  have hu := (chkC_zero.1 h).used
  obtain ⟨n, op, id, nm, at_, va⟩ := c
  have e1 := escS_ge nm
  have e2 := escS_ge at_
  have e3 := escS_ge va
  have hl2 : lineC (n, op, id, nm, at_, va) = joinB 32 (lineWs (n, op, id, nm, at_, va)) := rfl
  rw [hl2] at hl
  simp only [lineWs] at hl
  simp only [unusedB] at hu
  by_cases h1 : namedK op = true
  · have h2 : valuedK op = false := by
      simp only [namedK, valuedK, Bool.or_eq_true, decide_eq_true_eq, Bool.or_eq_false_iff, decide_eq_false_iff_not] at h1 ⊢
      omega
    rw [if_pos h1] at hl
    simp only [h1, h2, Bool.not_true, Bool.not_false, Bool.false_and, Bool.true_and, Bool.false_or, Bool.or_eq_false_iff, decide_eq_false_iff_not, ne_eq, Classical.not_not] at hu
    obtain ⟨rfl, rfl⟩ := hu
    simp only [joinB, List.length_append, List.length_cons] at hl
    exact ⟨by simp only; omega, by simp only; omega, by simp, by simp⟩
  · rw [if_neg h1] at hl
    have h1' : namedK op = false := by simpa using h1
    by_cases h2 : valuedK op = true
    · rw [if_pos h2] at hl
      simp only [h1', h2, Bool.not_true, Bool.not_false, Bool.false_and, Bool.true_and, Bool.or_false, decide_eq_false_iff_not, ne_eq, Classical.not_not] at hu
      subst hu
      simp only [joinB, List.length_append, List.length_cons] at hl
      exact ⟨by simp only; omega, by simp, by simp only; omega, by simp only; omega⟩
    · have h2' : valuedK op = false := by simpa using h2
      rw [if_neg h2] at hl
      simp only [h1', h2', Bool.not_false, Bool.true_and, Bool.or_eq_false_iff, decide_eq_false_iff_not, ne_eq, Classical.not_not] at hu
      obtain ⟨rfl, rfl, rfl⟩ := hu
      simp only [joinB, List.length_append, List.length_cons] at hl
      exact ⟨by simp only; omega, by simp, by simp, by simp⟩
theorem pLines_mem {m : List Chg} {c : Chg} (h : c ∈ m) : (lineC c).length ≤ (pLines lineC m).length := by
  induction m with
  | nil => simp at h
  | cons x m ih =>
    rw [pLines_cons, List.length_append, List.length_cons]
    rcases List.mem_cons.1 h with rfl | h
    · omega
    · have := ih h; omega
theorem read_fit {s : Str} {x : List Chg} {k : Int} (h : readGo s [] = (x, k, 0)) (hs : s.length ≤ 6000) : FitCs x ∧ textC x = (s, 0) := by
  obtain ⟨m, h1, h2, h3, h4, h5⟩ := readGo_ok _ _ _ _ _ (Nat.le_refl _) (by simp) h
  rw [List.nil_append] at h1
  subst h1
  refine ⟨⟨by omega, fun c hc => fit_of_line (h4 c hc) ?_⟩, (backC2 h).1⟩
  have := pLines_mem hc
  rw [← h3] at this
  omega
theorem textC_light {l : List Chg} {t : Str} (h : lightB l = true) (ht : textC l = (t, 0)) : t.length ≤ 100000 := by
  obtain ⟨h1, h2⟩ := light_all h
  unfold textC at ht
  rw [if_neg (by omega)] at ht
  obtain ⟨_, h4⟩ := textGo_ok _ _ _ ht
  rw [List.nil_append] at h4
  have h5 := pLines_len (w := lineC) (n := 4000) (l := l) (fun r hr => lineC_light (h2 r hr))
  rw [h4]
  have h6 : l.length * 4001 ≤ 20 * 4001 := Nat.mul_le_mul_right _ h1
  omega
def BkI (l : List Chg) (s : Str) (k : Nat) (τ : St) : Prop := τ 0 = .d (.sl (l.map chgD)) ∧ τ 1 = .d (.str s) ∧ τ 5 = .d (.int .i64 k)
set_option maxHeartbeats 20000000 in
theorem law10 (l : List Chg) (s : Str) : Ctr Tryz.prog 10 [.d (chgs l), .d (.str s)] (.d (.bool true)) := by
  refine fn_of_vwp (fun _ => false) (by kernel_rfl) Tryz.func10 (by kernel_rfl) rfl rfl (Nat.le_of_ble_eq_true rfl) (by kernel_rfl) rfl rfl ?_
  have c1 := light_fn l
  have aw := awake_fn
  by_cases h1 : lightB l = true
  case neg =>
    have h1' : lightB l = false := by simpa using h1
    rw [h1'] at c1
    simp only [chgs] at c1
    simp -implicitDefEqProofs [chgs]
    refine callK c1 ?_
    simp -implicitDefEqProofs
    refine callK aw ?_
    simp -implicitDefEqProofs
  rw [h1] at c1
  by_cases h2 : (6000 : Int) < List.length s
  · simp only [chgs] at c1
    simp -implicitDefEqProofs [chgs]
    refine callK c1 ?_
    simp -implicitDefEqProofs [h2]
    refine callK aw ?_
    simp -implicitDefEqProofs
  have fl := light_fit h1
  have hll := light_all h1
  have d1 := text_fn l fl
  have d2 := read_fn s (by omega)
  have hx0 : ∀ x k, readGo s [] = (x, k, 0) → FitCs x ∧ textC x = (s, 0) := fun x k h => read_fit h (by omega)
  have ht : ∀ t, textC l = (t, 0) → List.length t < 900000 ∧ readGo t [] = (l, 0, 0) := fun t h => by
    refine ⟨?_, backC1 h⟩
    have h3 := textC_light (l := l) h1 h
    omega
  simp only [chgs] at c1
  simp -implicitDefEqProofs [chgs]
  refine callK c1 ?_
  simp -implicitDefEqProofs [h2]
  refine loopN l.length (BkI l s) ⟨by simp, by simp, by simp⟩ ?_
  clear c1
  rintro k τ hk ⟨g0, g1, g5⟩
  by_cases hlt : k < l.length
  · have hlt' : (k : Int) < l.length := by omega
    have e1 := line_fn l[k] (fl.all _ (List.getElem_mem hlt))
    have e2 := chkC_fn l[k] (fl.all _ (List.getElem_mem hlt))
    have hli := hll.2 _ (List.getElem_mem hlt)
    generalize hx : l[k] = c at *
    by_cases h0 : chkC c = 0
    · have e3 := parseCh_fn (lineC c) (by have := lineC_light hli; omega)
      rw [parseCT_line h0] at e3
      rw [lineCT_ok h0] at e1
      rw [h0] at e2
      generalize lineC c = LC at *
      simp only [chgD, csnD] at e1 e2 e3
      simp -implicitDefEqProofs [g0, g1, g5, hlt, hlt', hx, chgD, csnD]
      refine callK e1 ?_
      simp -implicitDefEqProofs [g0, g1, g5, hlt, hlt', hx, chgD, csnD]
      refine callK e2 ?_
      simp -implicitDefEqProofs [g0, g1, g5, hlt, hlt', hx, chgD, csnD]
      refine callK e3 ?_
      simp -implicitDefEqProofs [g0, g1, g5, hlt, hlt', hx, chgD, csnD, leafEq]
      repeat refine And.intro (by omega) ?_
      exact again hlt ⟨by simp [g0, chgD, csnD], by simp [g1], by simp⟩
    · rw [lineCT_bad h0] at e1
      generalize chkC c = E at *
      simp only [chgD, csnD] at e1 e2
      simp -implicitDefEqProofs [g0, g1, g5, hlt, hlt', hx, chgD, csnD]
      refine callK e1 ?_
      simp -implicitDefEqProofs [g0, g1, g5, hlt, hlt', hx, chgD, csnD]
      refine callK e2 ?_
      simp -implicitDefEqProofs [g0, g1, g5, hlt, hlt', hx, chgD, csnD, h0]
      repeat refine And.intro (by omega) ?_
      exact again hlt ⟨by simp [g0, chgD, csnD], by simp [g1], by simp⟩
  · have hlt' : ¬ (k : Int) < l.length := by omega
    clear hk
    generalize textC l = TT at *
    generalize readGo s [] = RR at *
    obtain ⟨T1, T2⟩ := TT
    obtain ⟨X, K, E3⟩ := RR
    simp only at d1 d2 hx0 ht
    by_cases hT : T2 = 0
    · subst hT
      obtain ⟨hT1, hT2⟩ := ht T1 rfl
      have d4 := read_fn T1 hT1
      rw [hT2] at d4
      have d5 := sameC_fn l l (by omega) (by omega)
      rw [eqB_yes rfl] at d5
      simp only [chgs] at d1 d4 d5
      by_cases hE : E3 = 0
      · subst hE
        obtain ⟨fX, tX⟩ := hx0 X K rfl
        have d3 := text_fn X fX
        rw [tX] at d3
        simp only [chgs] at d2 d3
        simp -implicitDefEqProofs [g0, g1, g5, hlt', chgs]
        refine callK d1 ?_
        simp -implicitDefEqProofs [g0, g1, g5, hlt', chgs]
        refine callK d4 ?_
        simp -implicitDefEqProofs [g0, g1, g5, hlt', chgs]
        refine callK d5 ?_
        simp -implicitDefEqProofs [g0, g1, g5, hlt', chgs]
        refine callK d2 ?_
        simp -implicitDefEqProofs [g0, g1, g5, hlt', chgs]
        refine callK d3 ?_
        simp -implicitDefEqProofs [g0, g1, g5, hlt', chgs]
        refine callK aw ?_
        simp -implicitDefEqProofs
      · simp only [chgs] at d2
        simp -implicitDefEqProofs [g0, g1, g5, hlt', chgs]
        refine callK d1 ?_
        simp -implicitDefEqProofs [g0, g1, g5, hlt', chgs]
        refine callK d4 ?_
        simp -implicitDefEqProofs [g0, g1, g5, hlt', chgs]
        refine callK d5 ?_
        simp -implicitDefEqProofs [g0, g1, g5, hlt', chgs]
        refine callK d2 ?_
        simp -implicitDefEqProofs [g0, g1, g5, hlt', hE, chgs]
        refine callK aw ?_
        simp -implicitDefEqProofs
    · simp only [chgs] at d1
      by_cases hE : E3 = 0
      · subst hE
        obtain ⟨fX, tX⟩ := hx0 X K rfl
        have d3 := text_fn X fX
        rw [tX] at d3
        simp only [chgs] at d2 d3
        simp -implicitDefEqProofs [g0, g1, g5, hlt', chgs]
        refine callK d1 ?_
        simp -implicitDefEqProofs [g0, g1, g5, hlt', hT, chgs]
        refine callK d2 ?_
        simp -implicitDefEqProofs [g0, g1, g5, hlt', chgs]
        refine callK d3 ?_
        simp -implicitDefEqProofs [g0, g1, g5, hlt', chgs]
        refine callK aw ?_
        simp -implicitDefEqProofs
      · simp only [chgs] at d2
        simp -implicitDefEqProofs [g0, g1, g5, hlt', chgs]
        refine callK d1 ?_
        simp -implicitDefEqProofs [g0, g1, g5, hlt', hT, chgs]
        refine callK d2 ?_
        simp -implicitDefEqProofs [g0, g1, g5, hlt', hE, chgs]
        refine callK aw ?_
        simp -implicitDefEqProofs
theorem ChangeBack_ok (l : List Chg) (s : Str) (hb : D.lims 140737488351232 [chgs l, .str s]) : Ctr Tryz.prog 10 [.d (chgs l), .d (.str s)] (.d (.bool true)) := law10 l s
end Go.Proofs.Tz

/- Vector of the reference. -/
set_option maxRecDepth 100000
set_option maxHeartbeats 8000000
set_option linter.unusedVariables false
set_option linter.unusedSimpArgs false
namespace Go.Proofs.Tz
open Go.Vw Go.RowKit Go.Proofs

def newer (c : Csn) : Option Csn → Bool
  | none => true
  | some x => decide (0 < cmpC c x)
def bestS (r : Int) (a : Option Csn) (c : Csn) : Option Csn := if validC c = true ∧ c.2.2 = r ∧ newer c a = true then some c else a
def bestT (l : List Chg) (r : Int) (k : Nat) : Option Csn := (l.take k).foldl (fun a c => bestS r a c.1) none
theorem bestT_succ {l : List Chg} {r : Int} {k : Nat} (h : k < l.length) : bestT l r (k + 1) = bestS r (bestT l r k) l[k].1 := by
  unfold bestT; rw [take_s h, List.foldl_append]; rfl
def vecK (l : List Chg) (n : Nat) : List Csn := (List.range n).filterMap fun (r : Nat) => bestT l r l.length
theorem vecK_succ (l : List Chg) (n : Nat) : vecK l (n + 1) = vecK l n ++ (bestT l n l.length).toList := by
  unfold vecK; rw [List.range_succ, List.filterMap_append]
  cases h : bestT l n l.length <;> simp [h]
def csn0 (a : Option Csn) : Csn := a.getD (0, 0, 0)
def VrI (l : List Chg) (r : Nat) (τ : St) : Prop := τ 0 = .d (.sl (l.map chgD)) ∧ τ 4 = .d (.int .i64 r) ∧ τ 3 = .own true 23 ((vecK l r).map csnD) ∧ (vecK l r).length ≤ r
def VrJ (l : List Chg) (r : Nat) (A : List Csn) (j : Nat) (τ : St) : Prop := τ 0 = .d (.sl (l.map chgD)) ∧ τ 4 = .d (.int .i64 r) ∧ τ 3 = .own true 23 (A.map csnD) ∧ τ 5 = .box (csnD (csn0 (bestT l r j))) ∧ τ 6 = .d (.bool (bestT l r j).isSome) ∧ τ 7 = .d (.int .i64 j)
set_option maxHeartbeats 20000000 in
theorem refvec_fn (l : List Chg) (hl : l.length < 1000000) : Ctr Tryz.prog 26 [.d (chgs l)] (.own true 23 ((vecK l 8).map csnD)) := by
  refine fn_of_vwp (fun i => i == 2 || i == 3 || i == 48) (by kernel_rfl) Tryz.func26 (by kernel_rfl) rfl rfl (Nat.le_of_ble_eq_true rfl) (by kernel_rfl) rfl rfl ?_
  simp -implicitDefEqProofs [chgs]
  refine loopN 8 (VrI l) ⟨by simp, by simp, by simp [vecK], by simp [vecK]⟩ ?_
  rintro r τ hr ⟨g0, g4, g3, hlen⟩
  by_cases hlt : r < 8
  case neg =>
    have hlt' : ¬ (r : Int) < 8 := by omega
    obtain rfl : r = 8 := by omega
    simp -implicitDefEqProofs [g0, g4, g3]
  have hlt' : (r : Int) < 8 := by omega
  have hs := vecK_succ l r
  generalize hA2 : vecK l (r + 1) = A2 at *
  generalize vecK l r = A at *
  simp -implicitDefEqProofs [g0, g4, g3, hlt']
  refine loopN l.length (VrJ l r A) ⟨by simp [g0], by simp [g4], by simp [g3], by simp [bestT, csn0, csnD], by simp [bestT], by simp⟩ ?_
  clear g0 g4 g3 τ
  rintro j τ hj ⟨g0, g4, g3, g5, g6, g7⟩
  by_cases hjt : j < l.length
  case neg =>
    have hjt' : ¬ (j : Int) < l.length := by omega
    obtain rfl : j = l.length := by omega
    generalize bestT l r l.length = B at *
    cases B with
    | none =>
      simp only [Option.toList, List.append_nil] at hs
      simp -implicitDefEqProofs [g0, g4, g3, g5, g6, g7, csn0, csnD]
      repeat refine And.intro (by omega) ?_
      exact again hlt ⟨by simp [g0], by simp, by simp [g3, hA2, hs], by rw [hA2, hs]; omega⟩
    | some x =>
      simp only [Option.toList] at hs
      simp -implicitDefEqProofs [g0, g4, g3, g5, g6, g7, csn0, csnD]
      repeat refine And.intro (by omega) ?_
      exact again hlt ⟨by simp [g0], by simp, by simp [hA2, hs, csnD], by rw [hA2, hs]; simp; omega⟩
  have hjt' : (j : Int) < l.length := by omega
  have hb := bestT_succ (r := (r : Int)) hjt
  have c1 := cvalidR_fn l[j].1
  generalize hB2 : bestT l r (j + 1) = B2 at *
  generalize bestT l r j = B at *
  have c2 := fun x => ccmpR_fn l[j].1 x
  generalize hx : l[j] = c at *
  obtain ⟨⟨n1, n2, n3⟩, cr⟩ := c
  simp only at hb c1 c2
  by_cases hv : validC (n1, n2, n3) = true
  case neg =>
    have hv' : validC (n1, n2, n3) = false := by simpa using hv
    rw [bestS, if_neg (fun q => hv q.1)] at hb
    rw [hv'] at c1
    simp only [csnD] at c1
    simp -implicitDefEqProofs [g0, g4, g3, g5, g6, g7, hjt, hjt', hx, chgD, csnD]
    repeat refine And.intro (by omega) ?_
    refine callK c1 ?_
    simp -implicitDefEqProofs [g0, g4, g3, g5, g6, g7]
    repeat refine And.intro (by omega) ?_
    exact again hjt ⟨by simp [g0, chgD, csnD], by simp [g4], by simp [g3], by simp [g5, hB2, hb, csnD], by simp [g6, hB2, hb], by simp⟩
  rw [hv] at c1
  by_cases hn : n3 = (r : Int)
  case neg =>
    rw [bestS, if_neg (fun q => hn q.2.1)] at hb
    simp only [csnD] at c1
    simp -implicitDefEqProofs [g0, g4, g3, g5, g6, g7, hjt, hjt', hx, chgD, csnD]
    repeat refine And.intro (by omega) ?_
    refine callK c1 ?_
    simp -implicitDefEqProofs [g0, g4, g3, g5, g6, g7, hn]
    repeat refine And.intro (by omega) ?_
    exact again hjt ⟨by simp [g0, chgD, csnD], by simp [g4], by simp [g3], by simp [g5, hB2, hb, csnD], by simp [g6, hB2, hb], by simp⟩
  subst hn
  cases B with
  | none =>
    rw [bestS, if_pos ⟨hv, rfl, rfl⟩] at hb
    simp only [csnD] at c1
    simp -implicitDefEqProofs [g0, g4, g3, g5, g6, g7, hjt, hjt', hx, chgD, csnD, csn0]
    repeat refine And.intro (by omega) ?_
    refine callK c1 ?_
    simp -implicitDefEqProofs [g0, g4, g3, g5, g6, g7, csnD, csn0]
    repeat refine And.intro (by omega) ?_
    exact again hjt ⟨by simp [g0, chgD, csnD], by simp [g4], by simp [g3], by simp [hB2, hb, csnD, csn0], by simp [hB2, hb], by simp⟩
  | some x =>
    have c3 := c2 x
    by_cases hc : 0 < cmpC (n1, n2, r) x
    · rw [bestS, if_pos ⟨hv, rfl, by simp [newer, hc]⟩] at hb
      generalize cmpC (n1, n2, (r : Int)) x = Z at *
      simp only [csnD] at c1 c3
      simp -implicitDefEqProofs [g0, g4, g3, g5, g6, g7, hjt, hjt', hx, chgD, csnD, csn0]
      repeat refine And.intro (by omega) ?_
      refine callK c1 ?_
      simp -implicitDefEqProofs [g0, g4, g3, g5, g6, g7, csnD, csn0]
      refine callK c3 ?_
      simp -implicitDefEqProofs [g0, g4, g3, g5, g6, g7, csnD, csn0, hc]
      repeat refine And.intro (by omega) ?_
      exact again hjt ⟨by simp [g0, chgD, csnD], by simp [g4], by simp [g3], by simp [hB2, hb, csnD, csn0], by simp [hB2, hb], by simp⟩
    · rw [bestS, if_neg (fun q => hc (by simpa [newer] using q.2.2))] at hb
      generalize cmpC (n1, n2, (r : Int)) x = Z at *
      simp only [csnD] at c1 c3
      simp -implicitDefEqProofs [g0, g4, g3, g5, g6, g7, hjt, hjt', hx, chgD, csnD, csn0]
      repeat refine And.intro (by omega) ?_
      refine callK c1 ?_
      simp -implicitDefEqProofs [g0, g4, g3, g5, g6, g7, csnD, csn0]
      refine callK c3 ?_
      simp -implicitDefEqProofs [g0, g4, g3, g5, g6, g7, csnD, csn0, hc]
      repeat refine And.intro (by omega) ?_
      exact again hjt ⟨by simp [g0, chgD, csnD], by simp [g4], by simp [g3], by simp [g5, hB2, hb, csnD, csn0], by simp [g6, hB2, hb], by simp⟩
end Go.Proofs.Tz

/- slices.Insert of one number, in front of another. -/
set_option linter.unusedVariables false
set_option linter.unusedSimpArgs false
namespace Go.Proofs.Tz
open Go.Vw Go.RowKit Go.Proofs Go.Lib

/-- copy of elements of several cells. -/
theorem run_copy_rowM {P : Program} (w : World) (dT sT ty elem : TypeId) (sz g o dLen dCap : Nat) (a : Addr) (sLen sCap : Nat) (cur : Array Value) (t : TypeId) (cs : List Value)
    (hu : P.underlying dT = some (.slice elem)) (hs : (P.info? elem).map (·.size) = some sz)
    (hg : w.heap[g]? = some (.cells cur t (0, 0))) (hn : cs.length = Nat.min sLen dLen * sz)
    (hsrc : ∀ j v, cs[j]? = some v → w.cell? (a.add j) = some v) (hfit : o + cs.length ≤ cur.size) (h1 : ∀ v ∈ cs, v.oneCell' = true) :
    (Builtin.copy_ #[dT, sT] ty #[.slice (some ⟨g, o, none⟩) dLen dCap, .slice (some a) sLen sCap]).run P w =
      .ok (goInt (Nat.min sLen dLen)) (w.setRow g (cur.toList.take o ++ cs ++ cur.toList.drop (o + cs.length)).toArray) := by
  have hl := run_loadCells_list (P := P) w a cs hsrc
  have hst := run_storeCells_at P g o t cs 0 cur w hg (by simpa using hfit) h1
  cases hq : P.info? elem with
  | none => simp [hq] at hs
  | some i =>
    have hi : i.size = sz := by simpa [hq] using hs
    simp [Builtin.copy_, run_underlying hu, Builtin.lenOf, Builtin.firstCells, sizeOf, typeInfo, hq, hi, ← hn, hl, hst]

theorem zc_size (z : Value) (m k : Nat) (h : z.cells.size = k) : (Builtin.zeroCells z.cells m).size = m * k := by simp [Builtin.zeroCells, h]
theorem setRow_alloc (w : World) (C C' : Array Value) (t : TypeId) : (w.alloc (.cells C t)).setRow w.heap.size C' = w.alloc (.cells C' t) := by
  unfold World.setRow World.alloc
  congr 1
  apply Array.ext
  · simp
  · intro k h1 h2
    simp only [Array.getElem_modify, Array.getElem_push]
    split
    · rename_i hk; subst hk; simp
    · split
      · rfl
      · exfalso; simp at h2; omega

set_option maxHeartbeats 8000000 in
set_option maxRecDepth 1000000 in
theorem ins_grow (w : World) (b c n i vb vc : Nat) (cs vs : List Value) (hi : i < n) (hnc : n ≤ c) (hroom : c < n + 1) (hn : n < 1000) (hcl : cs.length = n * 3) (hvl : vs.length = 3)
    (hcs : ∀ j v, cs[j]? = some v → w.cell? ⟨b, j, none⟩ = some v) (hvs : ∀ j v, vs[j]? = some v → w.cell? ⟨vb, j, none⟩ = some v) (h1c : ∀ v ∈ cs, v.oneCell' = true) (h1v : ∀ v ∈ vs, v.oneCell' = true) (hb : b < w.heap.size) (hvb : vb < w.heap.size) :
    Calls Tryz.prog 76 #[.slice (some ⟨b, 0, none⟩) n c, .int .i64 i, .slice (some ⟨vb, 0, none⟩) 1 vc] w fun e w' => ∃ G C d, e = .returned (.slice (some ⟨w.heap.size, 0, none⟩) (n + 1) G) ∧ w' = { (w.alloc (.cells C 23)) with drawn := d } ∧ w.drawn ≤ d ∧
      C.toList.take ((n + 1) * 3) = cs.take (i * 3) ++ vs ++ cs.drop (i * 3) ∧ n + 1 ≤ G ∧ G ≤ maxLen ∧ G * 3 ≤ C.size := by
  obtain ⟨i0, z, f1, f2, f3, f4, f5, f6⟩ := esz_parts Tryz.ez_23
  have hsz : (Tryz.prog.info? 23).map (·.size) = some 3 := by rw [f1]; simp [f3]
  have hz1 : ¬ ((i : Int) = (n : Int)) := by omega
  have hz3 : (c : Int) < (n : Int) + 1 := by omega
  have hkk : (n : Int) + 1 - (i : Int) = ((n + 1 - i : Nat) : Int) := by omega
  have hik : i + (n + 1 - i) = n + 1 := by omega
  have hold : (Builtin.firstCells i0.size i (.slice (some ⟨b, 0, none⟩) i c)).run Tryz.prog w.drew = .ok (cs.take (i * 3)).toArray w.drew := by
    rw [f3]
    have h := run_loadCells_list (P := Tryz.prog) w.drew ⟨b, 0, none⟩ (cs.take (i * 3)) (fun j v hj => by
      rw [Addr.add_lit, Nat.zero_add]
      rw [List.getElem?_take] at hj
      split at hj
      · exact hcs j v hj
      · cases hj)
    rw [List.length_take, Nat.min_eq_left (by omega)] at h
    simpa [Builtin.firstCells] using h
  have hrz : ∀ ty, (Builtin.append_ #[39, 3] ty #[.slice (some ⟨b, 0, none⟩) i c, .int .i64 ((n : Int) + 1 - (i : Int))]).run Tryz.prog w =
      .ok (.slice (some ⟨w.heap.size, 0, none⟩) (n + 1) (grownCap w (n + 1) c 23)) (w.drew.alloc (.cells ((cs.take (i * 3)).toArray ++ Builtin.zeroCells z.cells (n + 1 - i) ++ Builtin.zeroCells z.cells (grownCap w (n + 1) c 23 - (n + 1))) 23)) := fun ty => by
    have h := Lib.run_append_grow_zeros (P := Tryz.prog) w 39 3 ty 23 i0 z .i64 .i64 Tryz.underlying39 Tryz.underlying3 f1 f2 (some ⟨b, 0, none⟩) i c (cs.take (i * 3)) hold (n + 1 - i) (by omega) (by omega) (by omega) (by omega) (by rw [f4]; omega) (by rw [f4, hik]; exact growslice_fits hroom (by omega))
    rw [hik] at h
    rw [hkk]
    exact h
  have hGn := grownCap_ge w (n + 1) c 23
  have hGm := grownCap_le_maxLen w (n + 1) c 23 (by unfold maxLen; omega)
  obtain ⟨G, hG⟩ : ∃ G, G = grownCap w (n + 1) c 23 := ⟨_, rfl⟩
  obtain ⟨ROW, hROW⟩ : ∃ ROW : Array Value, ROW = (cs.take (i * 3)).toArray ++ Builtin.zeroCells z.cells (n + 1 - i) ++ Builtin.zeroCells z.cells (G - (n + 1)) := ⟨_, rfl⟩
  rw [← hG] at hrz hGn hGm
  rw [← hROW] at hrz
  have hRl : ROW.size = G * 3 := by
    rw [hROW, Array.size_append, Array.size_append, zc_size _ _ _ f5, zc_size _ _ _ f5]
    have : (cs.take (i * 3)).toArray.size = i * 3 := by simp; omega
    rw [this]; omega
  have hRt : ROW.toList.take (i * 3) = cs.take (i * 3) := by
    have e : ROW.toList = cs.take (i * 3) ++ ((Builtin.zeroCells z.cells (n + 1 - i)).toList ++ (Builtin.zeroCells z.cells (G - (n + 1))).toList) := by
      rw [hROW, Array.toList_append, Array.toList_append, List.append_assoc]
    have hl : (cs.take (i * 3)).length = i * 3 := by rw [List.length_take]; omega
    rw [e, List.take_append_of_le_length (by omega), List.take_of_length_le (by omega)]
  obtain ⟨W1, hW1⟩ : ∃ W1, W1 = w.drew.alloc (.cells ROW 23) := ⟨_, rfl⟩
  obtain ⟨R2, hR2⟩ : ∃ R2 : Array Value, R2 = (ROW.toList.take (i * 3) ++ vs ++ ROW.toList.drop (i * 3 + vs.length)).toArray := ⟨_, rfl⟩
  obtain ⟨R3, hR3⟩ : ∃ R3 : Array Value, R3 = (R2.toList.take ((i + 1) * 3) ++ cs.drop (i * 3) ++ R2.toList.drop ((i + 1) * 3 + (cs.drop (i * 3)).length)).toArray := ⟨_, rfl⟩
  have hR2l : R2.size = G * 3 := by rw [hR2]; simp [hvl]; omega
  have hdl : (cs.drop (i * 3)).length = (n - i) * 3 := by rw [List.length_drop, hcl]; omega
  have hR3l : R3.size = G * 3 := by rw [hR3]; simp [hdl]; omega
  have hfin : R3.toList.take ((n + 1) * 3) = cs.take (i * 3) ++ vs ++ cs.drop (i * 3) := by
    have e1 : R2.toList.take ((i + 1) * 3) = cs.take (i * 3) ++ vs := by
      rw [hR2]
      simp only []
      rw [← hRt]
      rw [List.take_append_of_le_length (by simp [hvl]; omega), List.take_of_length_le (by simp [hvl]; omega)]
    rw [hR3]
    simp only []
    rw [List.take_append_of_le_length (by simp [hdl, hR2l]; omega), List.take_of_length_le (by simp [hdl, hR2l]; omega), e1]
  have hcpA : ∀ (d : Nat) ty dc, (Builtin.copy_ #[39, 39] ty #[.slice (some ⟨w.heap.size, i * 3, none⟩) (n + 1 - i) dc, .slice (some ⟨vb, 0, none⟩) 1 vc]).run Tryz.prog { (w.alloc (.cells ROW 23)) with drawn := d } = .ok (goInt 1) { (w.alloc (.cells R2 23)) with drawn := d } := fun d ty dc => by
    have h := run_copy_rowM (P := Tryz.prog) { (w.alloc (.cells ROW 23)) with drawn := d } 39 39 ty 23 3 w.heap.size (i * 3) (n + 1 - i) dc ⟨vb, 0, none⟩ 1 vc ROW 23 vs Tryz.underlying39 hsz (by show (w.heap.push (.cells ROW 23))[w.heap.size]? = _; rw [Array.getElem?_push, if_pos rfl]) (by rw [hvl]; simp only [Nat.min_def]; split <;> omega)
      (fun j v hj => by rw [Addr.add_lit, Nat.zero_add]; exact (World.cell?_alloc_past (w := w) _ vb j hvb).trans (hvs j v hj)) (by rw [hvl, hRl]; omega) h1v
    have hm : Nat.min 1 (n + 1 - i) = 1 := by simp only [Nat.min_def]; split <;> omega
    rw [hm, ← hR2] at h
    rw [h]
    have := setRow_alloc { w with drawn := d } ROW R2 23
    exact congrArg (Result.ok (goInt 1)) this
  have hcpB : ∀ (d : Nat) ty dc sc, (Builtin.copy_ #[39, 39] ty #[.slice (some ⟨w.heap.size, (i + 1) * 3, none⟩) (n + 1 - (i + 1)) dc, .slice (some ⟨b, i * 3, none⟩) (n - i) sc]).run Tryz.prog { (w.alloc (.cells R2 23)) with drawn := d } = .ok (goInt ((n - i : Nat) : Int)) { (w.alloc (.cells R3 23)) with drawn := d } := fun d ty dc sc => by
    have h := run_copy_rowM (P := Tryz.prog) { (w.alloc (.cells R2 23)) with drawn := d } 39 39 ty 23 3 w.heap.size ((i + 1) * 3) (n + 1 - (i + 1)) dc ⟨b, i * 3, none⟩ (n - i) sc R2 23 (cs.drop (i * 3)) Tryz.underlying39 hsz (by show (w.heap.push (.cells R2 23))[w.heap.size]? = _; rw [Array.getElem?_push, if_pos rfl]) (by rw [hdl]; simp only [Nat.min_def]; split <;> omega)
      (fun j v hj => by rw [Addr.add_lit]; exact (World.cell?_alloc_past (w := w) _ b _ hb).trans (hcs (i * 3 + j) v (by rwa [List.getElem?_drop] at hj))) (by rw [hdl, hR2l]; omega) (fun v hv => h1c v (List.mem_of_mem_drop hv))
    have hm : Nat.min (n - i) (n + 1 - (i + 1)) = n - i := by simp only [Nat.min_def]; split <;> omega
    rw [hm, ← hR3] at h
    rw [h]
    have := setRow_alloc { w with drawn := d } R2 R3 23
    exact congrArg (Result.ok (goInt ((n - i : Nat) : Int))) this
  have hw1 : IntKind.i64.wrap ((i : Int) + 1) = (i : Int) + 1 := by rw [IntKind.wrap_i64]; omega
  have hw2 : IntKind.i64.wrap ((n : Int) + 1) = (n : Int) + 1 := by rw [IntKind.wrap_i64]; omega
  have hw3 : IntKind.i64.wrap ((n : Int) + 1 - i) = (n : Int) + 1 - i := by rw [IntKind.wrap_i64]; omega
  have hb1 : (0 : Int) ≤ (i : Int) + 1 := by omega
  have hin : i ≤ n := by omega
  have htn : ((i : Int) + 1).toNat = i + 1 := by omega
  have hGi : ¬ (G = i) := by omega
  have hGim : ¬ (G = i + 1) := by omega
  have hci : ¬ (c = i) := by omega
  have hb3 : (i : Int) ≤ (n : Int) := by omega
  have hb4 : (i : Int) + 1 ≤ (n : Int) + 1 := by omega
  have mixed : Tryz.prog.follows .mixedOrders = true := by kernel_rfl
  have hR3s : G * 3 ≤ R3.size := by omega
  clear hkk hik hold hROW hG hRl hRt hR2 hR3 hR2l hR3l
  have hrz2 := hrz
  subst hW1
  have hcpA' : ∀ ty dc, (Builtin.copy_ #[39, 39] ty #[.slice (some ⟨w.heap.size, i * 3, none⟩) (n + 1 - i) dc, .slice (some ⟨vb, 0, none⟩) 1 vc]).run Tryz.prog (w.alloc (.cells ROW 23)).drew = .ok (goInt 1) (w.alloc (.cells R2 23)).drew := fun ty dc => hcpA (w.drawn + 1) ty dc
  have hcpB' : ∀ ty dc sc, (Builtin.copy_ #[39, 39] ty #[.slice (some ⟨w.heap.size, (i + 1) * 3, none⟩) (n + 1 - (i + 1)) dc, .slice (some ⟨b, i * 3, none⟩) (n - i) sc]).run Tryz.prog (w.alloc (.cells R2 23)).drew.drew = .ok (goInt ((n - i : Nat) : Int)) (w.alloc (.cells R3 23)).drew.drew := fun ty dc sc => hcpB (w.drawn + 1 + 1) ty dc sc
  go_enter Tryz.func76, Tryz.ntmps76
  go_wp2_with (first
    | (at_builtin; refine Lib.wpList_append_run _ rfl _ _ _ _ rfl _ _ rfl rfl _ _ (hrz _) ?_)
    | (at_builtin; refine wpList_copy_runI _ rfl _ _ 39 39 rfl _ _ rfl rfl (hcpA' _ _) ?_))
  go_region_law_o (refine step_copy_runI rfl _ _ 39 39 rfl (.slice (some ⟨w.heap.size, (i + 1) * 3, none⟩) (n + 1 - (i + 1)) (G - (i + 1))) (.slice (some ⟨b, i * 3, none⟩) (n - i) (c - i)) (by simp [Act.eval, Act.put]) (by simp [Act.eval, Act.put]) (hcpB' 3 (G - (i + 1)) (c - i)) ?_)
  go_wp2
  go_ret
  exact ⟨G, R3, w.drawn + 1 + 1, rfl, rfl, by omega, hfin, hGn, hGm, hR3s⟩
end Go.Proofs.Tz

/- slices.Insert of one number, in front of another, where there is room. -/
set_option linter.unusedVariables false
set_option linter.unusedSimpArgs false
namespace Go.Proofs.Tz
open Go.Vw Go.RowKit Go.Proofs Go.Lib

set_option maxHeartbeats 8000000 in
set_option maxRecDepth 1000000 in
theorem ins_shift (w : World) (b c n i vb vc : Nat) (cur cur2 : Array Value) (cs vs : List Value) (hi : i < n) (hroom : n + 1 ≤ c) (hn : n < 1000) (hcl : cs.length = n * 3) (hvl : vs.length = 3) (hc : c ≤ 9223372036854775807)
    (hh : w.heap[b]? = some (.cells cur 23 (0, 0))) (hh2 : w.heap[vb]? = some (.cells cur2 23 (0, 0))) (hne : vb ≠ b) (hsz1 : c * 3 ≤ cur.size) (hcs : cur.toList.take (n * 3) = cs) (hvs : cur2.toList.take 3 = vs)
    (h1c : ∀ v ∈ cs, v.oneCell' = true) (h1v : ∀ v ∈ vs, v.oneCell' = true) :
    Calls Tryz.prog 76 #[.slice (some ⟨b, 0, none⟩) n c, .int .i64 i, .slice (some ⟨vb, 0, none⟩) 1 vc] w fun e w' => ∃ C d, e = .returned (.slice (some ⟨b, 0, none⟩) (n + 1) c) ∧ w' = { (w.setRow b C) with drawn := d } ∧ w.drawn ≤ d ∧
      C.toList.take ((n + 1) * 3) = cs.take (i * 3) ++ vs ++ cs.drop (i * 3) ∧ C.size = cur.size := by
  obtain ⟨i0, z, f1, f2, f3, f4, f5, f6⟩ := esz_parts Tryz.ez_23
  have hsz : (Tryz.prog.info? 23).map (·.size) = some 3 := by rw [f1]; simp [f3]
  have hz1 : ¬ ((i : Int) = (n : Int)) := by omega
  have hz3 : ¬ ((c : Int) < (n : Int) + 1) := by omega
  have hdl : (cs.drop (i * 3)).length = (n - i) * 3 := by rw [List.length_drop, hcl]; omega
  obtain ⟨R2, hR2⟩ : ∃ R2 : Array Value, R2 = (cur.toList.take ((i + 1) * 3) ++ cs.drop (i * 3) ++ cur.toList.drop ((i + 1) * 3 + (cs.drop (i * 3)).length)).toArray := ⟨_, rfl⟩
  obtain ⟨R3, hR3⟩ : ∃ R3 : Array Value, R3 = (R2.toList.take (i * 3) ++ vs ++ R2.toList.drop (i * 3 + vs.length)).toArray := ⟨_, rfl⟩
  have hR2l : R2.size = cur.size := by rw [hR2]; simp [hdl]; omega
  have hR3l : R3.size = cur.size := by rw [hR3]; simp [hvl]; omega
  have hcc : cur.toList.length = cur.size := Array.length_toList
  have hfin : R3.toList.take ((n + 1) * 3) = cs.take (i * 3) ++ vs ++ cs.drop (i * 3) := by
    have e1 : R2.toList.take (i * 3) = cs.take (i * 3) := by
      rw [hR2]
      simp only []
      rw [List.append_assoc, List.take_append_of_le_length (by simp; omega), List.take_take, ← hcs, List.take_take]
      congr 1; omega
    have e2 : R2.toList.drop (i * 3 + vs.length) = cs.drop (i * 3) ++ cur.toList.drop ((i + 1) * 3 + (cs.drop (i * 3)).length) := by
      have hl : (cur.toList.take ((i + 1) * 3)).length = i * 3 + vs.length := by rw [List.length_take, hvl, hcc]; omega
      rw [hR2]
      simp only []
      rw [List.append_assoc, ← hl, List.drop_left]
    rw [hR3]
    simp only []
    rw [e1, e2]
    have hl2 : (cs.take (i * 3) ++ vs ++ cs.drop (i * 3)).length = (n + 1) * 3 := by simp only [List.length_append, List.length_take, hdl, hvl, hcl]; omega
    rw [← List.append_assoc, ← hl2, List.take_left]
  have hcell : ∀ k v, cs[k]? = some v → w.cell? ⟨b, k, none⟩ = some v := fun k v hk => by
    rw [← hcs, List.getElem?_take] at hk
    split at hk
    · simp only [World.cell?, hh]; simpa using hk
    · cases hk
  have hcell2 : ∀ k v, vs[k]? = some v → w.cell? ⟨vb, k, none⟩ = some v := fun k v hk => by
    rw [← hvs, List.getElem?_take] at hk
    split at hk
    · simp only [World.cell?, hh2]; simpa using hk
    · cases hk
  have hcpA : ∀ ty dc sc, (Builtin.copy_ #[39, 39] ty #[.slice (some ⟨b, (i + 1) * 3, none⟩) (n + 1 - (i + 1)) dc, .slice (some ⟨b, i * 3, none⟩) (n + 1 - i) sc]).run Tryz.prog w.drew = .ok (goInt ((n - i : Nat) : Int)) (w.setRow b R2).drew := fun ty dc sc => by
    have h := run_copy_rowM (P := Tryz.prog) w.drew 39 39 ty 23 3 b ((i + 1) * 3) (n + 1 - (i + 1)) dc ⟨b, i * 3, none⟩ (n + 1 - i) sc cur 23 (cs.drop (i * 3)) Tryz.underlying39 hsz hh (by rw [hdl]; simp only [Nat.min_def]; split <;> omega)
      (fun j v hj => by rw [Addr.add_lit]; exact hcell (i * 3 + j) v (by rwa [List.getElem?_drop] at hj)) (by rw [hdl]; omega) (fun v hv => h1c v (List.mem_of_mem_drop hv))
    have hm : Nat.min (n + 1 - i) (n + 1 - (i + 1)) = n - i := by simp only [Nat.min_def]; split <;> omega
    rw [hm, ← hR2] at h
    exact h
  have hlt : b < w.heap.size := (Array.getElem?_eq_some_iff.1 hh).1
  have hh3 : (w.setRow b R2).heap[b]? = some (.cells R2 23 (0, 0)) := setRow_heap w b cur R2 23 (0, 0) hh
  have hh4 : (w.setRow b R2).heap[vb]? = some (.cells cur2 23 (0, 0)) := by
    show (w.heap.modify b _)[vb]? = _
    rw [Array.getElem?_modify, if_neg (by omega)]; exact hh2
  have hcpB : ∀ ty dc, (Builtin.copy_ #[39, 39] ty #[.slice (some ⟨b, i * 3, none⟩) (n + 1 - i) dc, .slice (some ⟨vb, 0, none⟩) 1 vc]).run Tryz.prog (w.setRow b R2).drew = .ok (goInt 1) (w.setRow b R3).drew := fun ty dc => by
    have h := run_copy_rowM (P := Tryz.prog) (w.setRow b R2).drew 39 39 ty 23 3 b (i * 3) (n + 1 - i) dc ⟨vb, 0, none⟩ 1 vc R2 23 vs Tryz.underlying39 hsz hh3 (by rw [hvl]; simp only [Nat.min_def]; split <;> omega)
      (fun j v hj => by
        rw [Addr.add_lit, Nat.zero_add]
        show (w.setRow b R2).cell? _ = _
        have := hcell2 j v hj
        simp only [World.cell?, hh4]; simpa only [World.cell?, hh2] using this) (by rw [hvl, hR2l]; omega) h1v
    have hm : Nat.min 1 (n + 1 - i) = 1 := by simp only [Nat.min_def]; split <;> omega
    rw [hm, ← hR3] at h
    rw [h]
    have : ((w.setRow b R2).drew).setRow b R3 = (w.setRow b R3).drew := by
      show ((w.setRow b R2).setRow b R3).drew = _
      rw [setRow_setRow]
    exact congrArg (Result.ok (goInt ((1 : Nat) : Int))) this
  have hov : ∀ lb cb, (callFunc 125 #[.slice (some ⟨vb, 0, none⟩) 1 vc, .slice (some ⟨b, (i + 1) * 3, none⟩) lb cb]).run Tryz.prog w = .ok (.value (.bool false)) w := fun lb cb => by
    rw [run_callFunc_extern Tryz.func125 (by kernel_rfl) (by kernel_rfl) (by kernel_rfl) (e := Extern.SlicesOverlaps.overlaps #[39, 39] #[4]) (by kernel_rfl),
      Lib.run_overlaps_apart w 39 4 23 Tryz.underlying39 3 (fun w => by simp [sizeOf, typeInfo, f1, f3]) ⟨vb, 0, none⟩ ⟨b, (i + 1) * 3, none⟩ 1 vc lb cb hne 23 23 cur2.size cur.size (by simp [World.shape?, hh2]) (by simp [World.shape?, hh]) (by omega) (by simp [World.frozen?, hh2]) (by simp [World.frozen?, hh2])]
    rfl
  have hw1 : IntKind.i64.wrap ((i : Int) + 1) = (i : Int) + 1 := by rw [IntKind.wrap_i64]; omega
  have hw2 : IntKind.i64.wrap ((n : Int) + 1) = (n : Int) + 1 := by rw [IntKind.wrap_i64]; omega
  have hb1 : (0 : Int) ≤ (i : Int) + 1 := by omega
  have hb0 : (0 : Int) ≤ (n : Int) + 1 := by omega
  have hin : i ≤ n := by omega
  have htn : ((i : Int) + 1).toNat = i + 1 := by omega
  have htn2 : ((n : Int) + 1).toNat = n + 1 := by omega
  have hci : ¬ (c = i) := by omega
  have hci1 : ¬ (c = i + 1) := by omega
  have hb3 : (i : Int) ≤ (n : Int) := by omega
  have hb4 : (i : Int) + 1 ≤ (n : Int) + 1 := by omega
  have hb5 : (i : Int) ≤ (n : Int) + 1 := by omega
  have hb6 : (n : Int) + 1 ≤ (c : Int) := by omega
  have mixed : Tryz.prog.follows .mixedOrders = true := by kernel_rfl
  clear hR2 hR3 hR2l hcc hdl
  go_enter Tryz.func76, Tryz.ntmps76
  go_wp2_with (simp only [hov])
  go_region_law_o (refine step_copy_runI rfl _ _ 39 39 rfl (.slice (some ⟨b, (i + 1) * 3, none⟩) (n + 1 - (i + 1)) (c - (i + 1))) (.slice (some ⟨b, i * 3, none⟩) (n + 1 - i) (c - i)) (by simp [Act.eval, Act.put]) (by simp [Act.eval, Act.put]) (hcpA 3 (c - (i + 1)) (c - i)) ?_)
  go_wp2_with (at_builtin; refine wpList_copy_runI _ rfl _ _ 39 39 rfl _ _ rfl rfl (hcpB _ _) ?_)
  go_ret
  exact ⟨R3, w.drawn + 1, rfl, rfl, by omega, hfin, hR3l⟩
end Go.Proofs.Tz

/- slices.Insert's contract. -/
set_option linter.unusedVariables false
set_option linter.unusedSimpArgs false
namespace Go.Proofs.Tz
open Go.Vw Go.RowKit Go.Proofs Go.Lib

theorem take_flat {k : Nat} : ∀ {css : List (List Value)}, (∀ c ∈ css, c.length = k) → ∀ i, (css.take i).flatten = css.flatten.take (i * k)
  | [], _, i => by simp
  | c :: css, h, 0 => by simp
  | c :: css, h, i + 1 => by
    have h1 := h c (by simp)
    have e1 : c.take ((i + 1) * k) = c := List.take_of_length_le (by rw [h1, Nat.succ_mul]; omega)
    have e2 : (i + 1) * k - k = i * k := by rw [Nat.succ_mul]; omega
    rw [List.take_succ_cons, List.flatten_cons, List.flatten_cons, take_flat (fun x hx => h x (by simp [hx])) i, List.take_append, e1, h1, e2]
theorem drop_flat {k : Nat} : ∀ {css : List (List Value)}, (∀ c ∈ css, c.length = k) → ∀ i, (css.drop i).flatten = css.flatten.drop (i * k)
  | [], _, i => by simp
  | c :: css, h, 0 => by simp
  | c :: css, h, i + 1 => by
    have h1 := h c (by simp)
    have e1 : c.drop ((i + 1) * k) = [] := List.drop_of_length_le (by rw [h1, Nat.succ_mul]; omega)
    have e2 : (i + 1) * k - k = i * k := by rw [Nat.succ_mul]; omega
    rw [List.drop_succ_cons, List.flatten_cons, drop_flat (fun x hx => h x (by simp [hx])) i, List.drop_append, e1, h1, e2, List.nil_append]
theorem info_23 : (Tryz.prog.info? (ety 23)).map (·.size) = some 3 := by kernel_rfl

set_option maxHeartbeats 2000000 in
theorem insertV_fn (l : List Csn) (i : Nat) (x : Csn) (hi : i < l.length) (hl : l.length < 1000) : Ctr2 Tryz.prog 76 23 (l.map csnD) [.d (.int .i64 i)] 23 [csnD x] (.own true 23 ((l.take i ++ x :: l.drop i).map csnD)) := by
  refine ⟨enters_of Tryz.func76 (by kernel_rfl) rfl, fun w L og og2 v v2 vals hlok hgl h1 h2 hog hog2 hne hlt hrc => ?_⟩
  simp only [RCs] at hrc
  obtain ⟨v3, us, rfl, h3, rfl⟩ := hrc
  obtain rfl : v3 = .int .i64 i := RepV.int_inv h3
  obtain ⟨css, sz, a1, a2, a3, a4, a5⟩ := h1
  rw [info_23] at a1
  obtain rfl : 3 = sz := Option.some.inj a1
  obtain ⟨dss, sz, b1, b2, b3, b4, b5⟩ := h2
  rw [info_23] at b1
  obtain rfl : 3 = sz := Option.some.inj b1
  have hcount := a2.count
  have hcount2 := b2.count
  simp only [List.length_map] at hcount a4 a5
  simp only [List.length_cons, List.length_nil, Nat.zero_add] at hcount2 b4 b5
  obtain ⟨c1, c2⟩ := a4
  obtain ⟨d1, d2⟩ := b4
  rcases c2 with ⟨_, hn⟩ | ⟨b, c, cur, rfl, hh, hnc, hcm, hsz1, htk⟩
  · omega
  rcases d2 with ⟨_, hn⟩ | ⟨vb, vc, cur2, rfl, hh2, hnc2, hcm2, hsz2, htk2⟩
  · omega
  rw [ety_lt (by decide), mk_lt (by decide)] at hh hh2
  obtain rfl : some b = og := hog
  obtain rfl : some vb = og2 := hog2
  have hbv : vb ≠ b := fun e => hne b rfl (by rw [e])
  have hb := hlt b (.inl rfl)
  have hvb := hlt vb (.inr rfl)
  have hLb : ∀ q, ¬ L b q := fun q hq => by have := ((a5 b rfl).2 q).1 hq; simp at this
  have hone := RepL.ones _ _ a2
  have hone2 := RepL.ones _ _ b2
  have hcat : RepL w L ((l.take i ++ x :: l.drop i).map csnD) (css.take i ++ dss ++ css.drop i) := by
    have h4 := (a2.take i).append (b2.append (a2.drop i))
    rw [List.append_assoc]
    simpa [List.map_append, List.map_take, List.map_drop] using h4
  have hall : ∀ c ∈ css.take i ++ dss ++ css.drop i, c.length = 3 := fun c hc => by
    rcases List.mem_append.1 hc with hc | hc
    · rcases List.mem_append.1 hc with hc | hc
      · exact a3 c (List.mem_of_mem_take hc)
      · exact b3 c hc
    · exact a3 c (List.mem_of_mem_drop hc)
  have hflat : (css.take i ++ dss ++ css.drop i).flatten = css.flatten.take (i * 3) ++ dss.flatten ++ css.flatten.drop (i * 3) := by
    rw [List.flatten_append, List.flatten_append, take_flat a3, drop_flat a3]
  have hlen : ((l.take i ++ x :: l.drop i).map csnD).length = l.length + 1 := by simp; omega
  have hfl : (css.take i ++ dss ++ css.drop i).flatten.length = (l.length + 1) * 3 := by
    rw [hflat]; simp only [List.length_append, List.length_take, List.length_drop, c1, d1]; omega
  by_cases hroom : l.length + 1 ≤ c
  · refine (ins_shift w b c l.length i vb vc cur cur2 css.flatten dss.flatten hi hroom (by omega) c1 (by simpa using d1) (by unfold maxLen at hcm; omega) hh hh2 hbv hsz1 htk (by simpa using htk2) hone hone2).mono ?_
    rintro e w' ⟨C, d, rfl, rfl, hd, hC, hCs⟩
    have hold : ∀ k, k ≠ b → (w.setRow b C).heap[k]? = w.heap[k]? := fun k hk => by
      show (w.heap.modify b _)[k]? = _
      rw [Array.getElem?_modify, if_neg (by omega)]
    have hhC : (w.setRow b C).heap[b]? = some (.cells C 23 (0, 0)) := setRow_heap w b cur C 23 (0, 0) hh
    have hszh : (w.setRow b C).heap.size = w.heap.size := by
      show (w.heap.modify b _).size = _
      simp
    have hext : Ext w L { (w.setRow b C) with drawn := d } L := fun k q hq => ⟨hq, fun u hu => by
      have hk : k ≠ b := fun e => hLb q (e ▸ hq)
      simp only [World.cell?] at hu ⊢
      rw [hold k hk]
      exact hu⟩
    refine ⟨_, L, some b, rfl, ⟨rfl, rfl, rfl, by rw [show ({ (w.setRow b C) with drawn := d } : World).heap.size = w.heap.size from hszh]; exact Nat.le_refl _, fun k hk hn => hold k (fun e => hn (.inl (by rw [e]))), hd⟩,
      fun k q hq => by rw [show ({ (w.setRow b C) with drawn := d } : World).heap.size = w.heap.size from hszh]; exact hlok k q hq, fun _ _ _ _ => Iff.rfl, fun g hg => ?_, ⟨css.take i ++ dss ++ css.drop i, 3, info_23, RepL.mono hext _ _ hcat, hall, ⟨by rw [hfl, hlen], .inr ⟨b, c, C, by rw [hlen], by rw [ety_lt (by decide), mk_lt (by decide)]; exact hhC, by rw [hlen]; exact hroom, hcm, by omega, by rw [hlen, hC, hflat]⟩⟩, fun g hg => ?_⟩⟩
    · obtain rfl := Option.some.inj hg
      exact ⟨by rw [show ({ (w.setRow b C) with drawn := d } : World).heap.size = w.heap.size from hszh]; exact hb, .inr (.inl rfl)⟩
    · obtain rfl : b = g := by simpa [Value.ownBlock] using hg
      exact ⟨rfl, fun o => ⟨fun h => absurd h (hLb o), fun h => by simp at h⟩⟩
  · refine (ins_grow w b c l.length i vb vc css.flatten dss.flatten hi hnc (by omega) (by omega) c1 (by simpa using d1) (fun k u hk => ?_) (fun k u hk => ?_) hone hone2 hb hvb).mono ?_
    · rw [← htk, List.getElem?_take] at hk
      split at hk
      · simp only [World.cell?, hh]; simpa using hk
      · cases hk
    · rw [← htk2, List.getElem?_take] at hk
      split at hk
      · simp only [World.cell?, hh2]; simpa using hk
      · cases hk
    rintro e w' ⟨G, C, d, rfl, rfl, hd, hC, hG1, hG2, hG3⟩
    have hszh : (w.alloc (.cells C 23)).heap.size = w.heap.size + 1 := size_alloc _ _
    have hold : ∀ k, k < w.heap.size → (w.alloc (.cells C 23)).heap[k]? = w.heap[k]? := fun k hk => Lib.alloc_old w _ k hk
    have hgk : (w.alloc (.cells C 23)).heap[w.heap.size]? = some (.cells C 23 (0, 0)) := by
      show (w.heap.push (.cells C 23))[w.heap.size]? = _
      rw [Array.getElem?_push, if_pos rfl]
    have hfree : ∀ q, ¬ L w.heap.size q := fun q hq => by have := hlok _ q hq; omega
    have hext : Ext w L { (w.alloc (.cells C 23)) with drawn := d } L := fun k q hq => ⟨hq, fun u hu => by
      have hk := hlok k q hq
      simp only [World.cell?] at hu ⊢
      rw [hold k hk]
      exact hu⟩
    have hs2 : ({ (w.alloc (.cells C 23)) with drawn := d } : World).heap.size = w.heap.size + 1 := hszh
    refine ⟨_, L, some w.heap.size, rfl, ⟨rfl, rfl, rfl, by rw [hs2]; omega, fun k hk hn => hold k hk, hd⟩,
      fun k q hq => by rw [hs2]; have := hlok k q hq; omega, fun _ _ _ _ => Iff.rfl, fun g hg => ?_, ⟨css.take i ++ dss ++ css.drop i, 3, info_23, RepL.mono hext _ _ hcat, hall, ⟨by rw [hfl, hlen], .inr ⟨w.heap.size, G, C, by rw [hlen], by rw [ety_lt (by decide), mk_lt (by decide)]; exact hgk, by rw [hlen]; exact hG1, hG2, hG3, by rw [hlen, hC, hflat]⟩⟩, fun g hg => ?_⟩⟩
    · obtain rfl := Option.some.inj hg
      exact ⟨by rw [hs2]; omega, .inl (Nat.le_refl _)⟩
    · obtain rfl : w.heap.size = g := by simpa [Value.ownBlock] using hg
      exact ⟨rfl, fun o => ⟨fun h => absurd h (hfree o), fun h => by simp at h⟩⟩
end Go.Proofs.Tz

/- change.Vector. -/
set_option maxRecDepth 100000
set_option maxHeartbeats 8000000
set_option linter.unusedVariables false
set_option linter.unusedSimpArgs false
namespace Go.Proofs.Tz
open Go.Vw Go.RowKit Go.Proofs

def vecIns (c : Csn) : List Csn → List Csn
  | [] => [c]
  | x :: V => if c.2.2 ≤ x.2.2 then (if c.2.2 < x.2.2 then c :: x :: V else if cmpC x c < 0 then c :: V else x :: V) else x :: vecIns c V
def vecB (c x : Csn) : Bool := decide (c.2.2 ≤ x.2.2)
theorem vecIns_idx (c : Csn) : ∀ (V : List Csn) (s : Nat), (idxG (vecB c) s V = -1 ∧ vecIns c V = V ++ [c]) ∨
    ∃ (k : Nat) (h : k < V.length), idxG (vecB c) s V = ((s + k : Nat) : Int) ∧ vecIns c V = if c.2.2 < V[k].2.2 then V.take k ++ c :: V.drop k else if cmpC V[k] c < 0 then V.set k c else V
  | [], s => .inl ⟨rfl, rfl⟩
  | x :: V, s => by
    by_cases h : c.2.2 ≤ x.2.2
    · right
      refine ⟨0, by simp, by simp [idxG, vecB, h], ?_⟩
      rw [vecIns, if_pos h]
      simp
    · have h' : vecB c x = false := by simp [vecB]; omega
      rcases vecIns_idx c V (s + 1) with ⟨h1, h2⟩ | ⟨k, hk, h1, h2⟩
      · left
        refine ⟨by rw [idxG, h']; simpa using h1, by rw [vecIns, if_neg h, h2]; rfl⟩
      · right
        refine ⟨k + 1, by simpa using hk, by rw [idxG, h']; simp only [Bool.false_eq_true, if_false]; rw [h1]; congr 1; omega, ?_⟩
        rw [vecIns, if_neg h, h2]
        simp only [List.getElem_cons_succ, List.take_succ_cons, List.drop_succ_cons, List.set_cons_succ]
        by_cases q1 : c.2.2 < V[k].2.2
        · simp only [q1, if_true, List.cons_append]
        · by_cases q2 : cmpC V[k] c < 0
          · simp only [q1, q2, if_true, if_false]
          · simp only [q1, q2, if_false]
theorem vecIns_len (c : Csn) : ∀ V : List Csn, (vecIns c V).length ≤ V.length + 1
  | [] => by simp [vecIns]
  | x :: V => by
    have := vecIns_len c V
    unfold vecIns
    (repeat' split) <;> simp <;> omega
def vecS2 (V : List Csn) (c : Csn) : List Csn := if validC c = true then vecIns c V else V
def vecG (l : List Chg) (k : Nat) : List Csn := (l.take k).foldl (fun V c => vecS2 V c.1) []
theorem vecG_succ {l : List Chg} {k : Nat} (h : k < l.length) : vecG l (k + 1) = vecS2 (vecG l k) l[k].1 := by
  unfold vecG; rw [take_s h, List.foldl_append]; rfl
theorem vecS2_len (V : List Csn) (c : Csn) : (vecS2 V c).length ≤ V.length + 1 := by
  unfold vecS2; split
  · exact vecIns_len c V
  · omega
def VgI (l : List Chg) (k : Nat) (τ : St) : Prop := τ 7 = .d (.sl (l.map chgD)) ∧ τ 8 = .d (.int .i64 l.length) ∧ τ 9 = .d (.int .i64 k) ∧ τ 3 = .own true 23 ((vecG l k).map csnD) ∧ (vecG l k).length ≤ k
set_option maxHeartbeats 20000000 in
theorem vec_fn (l : List Chg) (hl : l.length < 900) : Ctr Tryz.prog 25 [.d (chgs l)] (.own true 23 ((vecG l l.length).map csnD)) := by
  refine fn_of_vwp (fun i => i == 2 || i == 3 || i == 27 || i == 42 || i == 43 || i == 2000019 || i == 12000043) (by kernel_rfl) Tryz.func25 (by kernel_rfl) rfl rfl (Nat.le_of_ble_eq_true rfl) (by kernel_rfl) rfl rfl ?_
  simp -implicitDefEqProofs [chgs]
  refine loopN l.length (VgI l) ⟨by simp, by simp, by simp, by simp [vecG], by simp [vecG]⟩ ?_
  rintro k τ hk ⟨g7, g8, g9, g3, hV⟩
  by_cases hlt : k < l.length
  case neg =>
    have hlt' : ¬ (k : Int) < l.length := by omega
    obtain rfl : k = l.length := by omega
    simp -implicitDefEqProofs [g7, g8, g9, g3, hlt']
  have hlt' : (k : Int) < l.length := by omega
  have hs := vecG_succ hlt
  have hsl := vecS2_len (vecG l k) l[k].1
  have c1 := cvalid_fn l[k].1
  rw [← hs] at hsl
  generalize hV2 : vecG l (k + 1) = V2 at *
  generalize vecG l k = V at *
  generalize hx : l[k] = c at *
  by_cases hv : validC c.1 = true
  case neg =>
    have hv' : validC c.1 = false := by simpa using hv
    rw [vecS2, if_neg hv] at hs
    rw [hv'] at c1
    simp only [csnD] at c1
    simp -implicitDefEqProofs [g7, g8, g9, g3, hlt, hlt', hx, chgD, csnD]
    refine callK c1 ?_
    simp -implicitDefEqProofs [g7, g8, g9, g3]
    repeat refine And.intro (by omega) ?_
    exact again hlt ⟨by simp [g7, chgD, csnD], by simp [g8], by simp, by simp [g3, hV2, hs, csnD], by rw [hV2]; omega⟩
  rw [hv] at c1
  rw [vecS2, if_pos hv] at hs
  have c2 := indexC_fn 75 [.ref (chgD c)] rfl (vecB c.1) V (by omega) (fun a _ => vecQ_fn a c)
  rcases vecIns_idx c.1 V 0 with ⟨h1, h2⟩ | ⟨j, hj, h1, h2⟩
  · rw [h1] at c2
    rw [h2] at hs
    simp only [csnD] at c1
    simp only [chgD, csnD, csns] at c2
    simp -implicitDefEqProofs [g7, g8, g9, g3, hlt, hlt', hx, chgD, csnD]
    refine callK c1 ?_
    simp -implicitDefEqProofs [g7, g8, g9, g3, csnD]
    refine lendK c2 rfl ?_
    simp -implicitDefEqProofs [g7, g8, g9, g3, chgD, csnD]
    repeat refine And.intro (by omega) ?_
    exact again hlt ⟨by simp [g7, chgD, csnD], by simp [g8], by simp, by simp [g3, hV2, hs, csnD], by rw [hV2]; omega⟩
  rw [Nat.zero_add] at h1
  rw [h1] at c2
  have hj' : ¬ ((j : Int) < 0) := by omega
  have hjj : V[j]? = some V[j] := List.getElem?_eq_getElem hj
  have c3 := insertV_fn V j c.1 hj (by omega)
  have c4 := ccmp_fn V[j] c.1
  by_cases q1 : c.1.2.2 < V[j].2.2
  · rw [if_pos q1] at h2
    rw [h2] at hs
    generalize hy : V[j] = y at *
    simp only [csnD] at c1
    simp only [chgD, csnD, csns] at c2
    simp only [csnD] at c3
    simp -implicitDefEqProofs [g7, g8, g9, g3, hlt, hlt', hx, chgD, csnD]
    refine callK c1 ?_
    simp -implicitDefEqProofs [g7, g8, g9, g3, csnD]
    refine lendK c2 rfl ?_
    simp -implicitDefEqProofs [g7, g8, g9, g3, chgD, csnD, hj', hj, hjj, hy, q1]
    refine in2K c3 (by decide) ?_
    simp -implicitDefEqProofs [g7, g8, g9, g3]
    repeat refine And.intro (by omega) ?_
    exact again hlt ⟨by simp [g7, chgD, csnD], by simp [g8], by simp, by simp [hV2, hs, csnD], by rw [hV2]; omega⟩
  rw [if_neg q1] at h2
  by_cases q2 : cmpC V[j] c.1 < 0
  · rw [if_pos q2] at h2
    rw [h2] at hs
    generalize hy : V[j] = y at *
    generalize cmpC y c.1 = N at *
    simp only [csnD] at c1 c4
    simp only [chgD, csnD, csns] at c2
    simp -implicitDefEqProofs [g7, g8, g9, g3, hlt, hlt', hx, chgD, csnD]
    refine callK c1 ?_
    simp -implicitDefEqProofs [g7, g8, g9, g3, csnD]
    refine lendK c2 rfl ?_
    simp -implicitDefEqProofs [g7, g8, g9, g3, chgD, csnD, hj', hj, hjj, hy, q1]
    refine callP c4 ?_
    simp -implicitDefEqProofs [g7, g8, g9, g3, chgD, csnD, hj', hj, hjj, hy, q1, q2]
    repeat refine And.intro (by omega) ?_
    exact again hlt ⟨by simp [g7, chgD, csnD], by simp [g8], by simp, by simp [g3, hV2, hs, csnD, List.map_set], by rw [hV2]; omega⟩
  · rw [if_neg q2] at h2
    rw [h2] at hs
    generalize hy : V[j] = y at *
    generalize cmpC y c.1 = N at *
    simp only [csnD] at c1 c4
    simp only [chgD, csnD, csns] at c2
    simp -implicitDefEqProofs [g7, g8, g9, g3, hlt, hlt', hx, chgD, csnD]
    refine callK c1 ?_
    simp -implicitDefEqProofs [g7, g8, g9, g3, csnD]
    refine lendK c2 rfl ?_
    simp -implicitDefEqProofs [g7, g8, g9, g3, chgD, csnD, hj', hj, hjj, hy, q1]
    refine callP c4 ?_
    simp -implicitDefEqProofs [g7, g8, g9, g3, chgD, csnD, hj', hj, hjj, hy, q1, q2]
    repeat refine And.intro (by omega) ?_
    exact again hlt ⟨by simp [g7, chgD, csnD], by simp [g8], by simp, by simp [g3, hV2, hs, csnD], by rw [hV2]; omega⟩
end Go.Proofs.Tz

/- Vector: the plain law. -/
set_option linter.unusedVariables false
set_option linter.unusedSimpArgs false
namespace Go.Proofs.Tz
open Go.Vw Go.RowKit Go.Proofs

theorem fm_congr {f g : Nat → Option Csn} : ∀ {R : List Nat}, (∀ y ∈ R, f y = g y) → R.filterMap f = R.filterMap g
  | [], _ => rfl
  | r :: R, h => by
    rw [List.filterMap_cons, List.filterMap_cons, h r (by simp), fm_congr (fun y hy => h y (by simp [hy]))]
theorem ins_head {c : Csn} : ∀ {V : List Csn}, (∀ x ∈ V, c.2.2 < x.2.2) → vecIns c V = c :: V
  | [], _ => rfl
  | x :: V, h => by
    have h1 := h x (by simp)
    rw [vecIns, if_pos (by omega), if_pos h1]
theorem ins_fm {c : Csn} {ρ : Nat} (hc : c.2.2 = ρ) {f f' : Nat → Option Csn} (hf : ∀ r x, f r = some x → x.2.2 = (r : Int)) (hf' : ∀ r, r ≠ ρ → f' r = f r) (h0 : f ρ = none → f' ρ = some c) (h1 : ∀ x, f ρ = some x → f' ρ = some (if cmpC x c < 0 then c else x)) :
    ∀ {R : List Nat}, R.Pairwise (· < ·) → ρ ∈ R → vecIns c (R.filterMap f) = R.filterMap f'
  | [], _, h => by simp at h
  | r :: R, hp, hm => by
    obtain ⟨p1, p2⟩ := List.pairwise_cons.1 hp
    by_cases hr : r = ρ
    · subst hr
      have hrest : R.filterMap f' = R.filterMap f := fm_congr fun y hy => hf' y (by have := p1 y hy; omega)
      have hgt : ∀ x ∈ R.filterMap f, c.2.2 < x.2.2 := fun x hx => by
        obtain ⟨y, hy, hyx⟩ := List.mem_filterMap.1 hx
        have := p1 y hy
        rw [hc, hf y x hyx]; omega
      cases hfr : f r with
      | none =>
        rw [List.filterMap_cons, hfr, List.filterMap_cons, h0 hfr]
        simp only
        rw [ins_head hgt, hrest]
      | some x =>
        have hx := hf r x hfr
        rw [List.filterMap_cons, hfr, List.filterMap_cons, h1 x hfr]
        simp only
        rw [vecIns, if_pos (by omega), if_neg (by omega), hrest]
        split <;> rfl
    · have hm' : ρ ∈ R := by
        rcases List.mem_cons.1 hm with e | e
        · exact absurd e.symm hr
        · exact e
      have hlt := p1 ρ hm'
      have ih := ins_fm hc hf hf' h0 h1 p2 hm'
      cases hfr : f r with
      | none =>
        rw [List.filterMap_cons, hfr, List.filterMap_cons, hf' r hr, hfr]
        exact ih
      | some x =>
        have hx := hf r x hfr
        rw [List.filterMap_cons, hfr, List.filterMap_cons, hf' r hr, hfr]
        simp only
        rw [vecIns, if_neg (by omega), ih]
theorem bestT_spec (l : List Chg) (r : Int) : ∀ k, (∀ x, bestT l r k = some x → validC x = true ∧ x.2.2 = r) ∧ ∀ c ∈ l.take k, validC c.1 = true → c.1.2.2 = r → ∃ x, bestT l r k = some x ∧ 0 ≤ cmpC x c.1
  | 0 => by simp [bestT]
  | k + 1 => by
    obtain ⟨i1, i2⟩ := bestT_spec l r k
    by_cases h : k < l.length
    · rw [bestT_succ h, take_s h]
      generalize l[k] = d
      generalize bestT l r k = B at *
      constructor
      · intro x hx
        unfold bestS at hx
        split at hx
        · rename_i q
          obtain rfl := Option.some.inj hx
          exact ⟨q.1, q.2.1⟩
        · exact i1 x hx
      · intro c hc hv hr
        have hback : ∀ x, B = some x → 0 ≤ cmpC x c.1 → ∃ y, bestS r B d.1 = some y ∧ 0 ≤ cmpC y c.1 := fun x hx h0 => by
          unfold bestS
          split
          · rename_i q
            refine ⟨_, rfl, ?_⟩
            have hn := q.2.2
            rw [hx] at hn
            simp only [newer, decide_eq_true_eq] at hn
            have a1 := cmpC_anti d.1 x
            have a2 := cmpC_anti x c.1
            have a3 := cmpC_anti d.1 c.1
            by_cases e : cmpC x c.1 = 0
            · rw [cmpC_zero] at e; rw [← e]; omega
            · have := cmpC_trans (a := c.1) (b := x) (c := d.1) (by omega) (by omega)
              omega
          · exact ⟨x, hx, h0⟩
        rcases List.mem_append.1 hc with hc | hc
        · obtain ⟨x, hx, h0⟩ := i2 c hc hv hr
          exact hback x hx h0
        · rw [List.mem_singleton.1 hc] at hv hr hback ⊢
          cases hB : B with
          | none =>
            refine ⟨d.1, ?_, by rw [cmpC_self]; omega⟩
            unfold bestS
            rw [if_pos ⟨hv, hr, rfl⟩]
          | some x =>
            by_cases hn : 0 < cmpC d.1 x
            · refine ⟨d.1, ?_, by rw [cmpC_self]; omega⟩
              unfold bestS
              rw [if_pos ⟨hv, hr, by simp [newer, hn]⟩]
            · refine ⟨x, ?_, ?_⟩
              · unfold bestS
                rw [if_neg (fun q => hn (by simpa [newer] using q.2.2))]
              · have := cmpC_anti d.1 x; omega
    · have e : bestT l r (k + 1) = bestT l r k := by unfold bestT; rw [List.take_of_length_le (by omega), List.take_of_length_le (by omega)]
      have e2 : l.take (k + 1) = l.take k := by rw [List.take_of_length_le (by omega), List.take_of_length_le (by omega)]
      rw [e, e2]; exact ⟨i1, i2⟩
theorem vecG_eq (l : List Chg) : ∀ k, vecG l k = (List.range 8).filterMap fun r : Nat => bestT l r k
  | 0 => by
    have : ∀ r ∈ List.range 8, bestT l ((r : Nat) : Int) 0 = (fun _ : Nat => (none : Option Csn)) r := fun r _ => by simp [bestT]
    rw [fm_congr this]; simp [vecG]
  | k + 1 => by
    have ih := vecG_eq l k
    by_cases h : k < l.length
    · rw [vecG_succ h, ih]
      unfold vecS2
      by_cases hv : validC l[k].1 = true
      · rw [if_pos hv]
        have hrng : 0 ≤ l[k].1.2.2 ∧ l[k].1.2.2 < 8 := by
          simp only [validC, Bool.and_eq_true, decide_eq_true_eq] at hv; omega
        obtain ⟨ρ, hρ⟩ := Int.eq_ofNat_of_zero_le hrng.1
        refine ins_fm (ρ := ρ) (by simpa using hρ) (fun r x hx => ((bestT_spec l r k).1 x hx).2) (fun r hr => ?_) (fun h0 => ?_) (fun x hx => ?_) (by simpa using List.pairwise_lt_range) (by rw [List.mem_range]; omega)
        · rw [bestT_succ h, bestS, if_neg (fun q => hr (by have := q.2.1; rw [hρ] at this; omega))]
        · rw [bestT_succ h, bestS, if_pos ⟨hv, by simpa using hρ, by rw [h0]; rfl⟩]
        · rw [bestT_succ h, bestS, hx]
          have a1 := cmpC_anti x l[k].1
          by_cases hn : cmpC x l[k].1 < 0
          · rw [if_pos ⟨hv, by simpa using hρ, by simp only [newer, decide_eq_true_eq]; omega⟩, if_pos hn]
          · rw [if_neg (fun q => hn (by have := q.2.2; simp only [newer, decide_eq_true_eq] at this; omega)), if_neg hn]
      · rw [if_neg hv]
        refine fm_congr fun r _ => ?_
        rw [bestT_succ h, bestS, if_neg (fun q => hv q.1)]
    · have e : vecG l (k + 1) = vecG l k := by unfold vecG; rw [List.take_of_length_le (by omega), List.take_of_length_le (by omega)]
      rw [e, ih]
      refine fm_congr fun r _ => ?_
      unfold bestT; rw [List.take_of_length_le (by omega), List.take_of_length_le (by omega)]
theorem vec_law (l : List Chg) : vecG l l.length = vecK l 8 := vecG_eq l l.length
theorem vecK_asc (l : List Chg) : (vecK l 8).Pairwise fun x y => x.2.2 < y.2.2 := by
  unfold vecK
  rw [List.pairwise_filterMap]
  refine List.Pairwise.imp ?_ (List.pairwise_lt_range (n := 8))
  intro a b hab x hx y hy
  have h1 := ((bestT_spec l a l.length).1 x hx).2
  have h2 := ((bestT_spec l b l.length).1 y hy).2
  omega
theorem vecK_valid (l : List Chg) : ∀ x ∈ vecK l 8, validC x = true := fun x hx => by
  obtain ⟨r, _, h⟩ := List.mem_filterMap.1 hx
  exact ((bestT_spec l r l.length).1 x h).1
theorem vchk_asc {v : List Csn} (h1 : v.Pairwise fun x y => x.2.2 < y.2.2) (h2 : ∀ x ∈ v, validC x = true) : vchk v = 0 := by
  unfold vchk
  rw [firstNZ_zero]
  intro i _ hi
  rw [Nat.zero_add] at hi
  rw [List.pairwise_iff_getElem] at h1
  unfold vStep
  rw [List.getElem?_eq_getElem hi]
  simp only
  rw [if_neg (by rw [h2 _ (List.getElem_mem hi)]; simp)]
  have hany : ((v.take i).any fun x => decide (x.2.2 = v[i].2.2)) = false := by
    rw [List.any_eq_false]
    intro x hx
    obtain ⟨j, hj, rfl⟩ := List.mem_take_iff_getElem.1 hx
    have := h1 j i (by omega) hi (by omega)
    simp; omega
  rw [hany]
  simp only [Bool.false_eq_true, if_false]
  rw [if_neg]
  rintro ⟨q1, q2⟩
  have hj : i - 1 < v.length := by omega
  rw [List.getD_eq_getElem?_getD, List.getElem?_eq_getElem hj, Option.getD_some] at q2
  have := h1 (i - 1) i hj hi (by omega)
  omega
theorem since_vec {l : List Chg} (h : ∀ c ∈ l, validC c.1 = true) : sinceL l (vecK l 8) = [] := by
  unfold sinceL
  rw [List.filter_eq_nil_iff]
  intro c hc
  have hv := h c hc
  have hrng : 0 ≤ c.1.2.2 ∧ c.1.2.2 < 8 := by
    have := hv
    simp only [validC, Bool.and_eq_true, decide_eq_true_eq] at this; omega
  obtain ⟨ρ, hρ⟩ := Int.eq_ofNat_of_zero_le hrng.1
  have hρ' : c.1.2.2 = (ρ : Int) := by simpa using hρ
  obtain ⟨x, hx, h0⟩ := (bestT_spec l ρ l.length).2 c (by rw [List.take_length]; exact hc) hv hρ'
  have hxr := ((bestT_spec l ρ l.length).1 x hx).2
  have hmem : x ∈ vecK l 8 := List.mem_filterMap.2 ⟨ρ, by rw [List.mem_range]; omega, hx⟩
  have hcov : coversB (vecK l 8) c.1 = true := by
    unfold coversB vectC
    rw [if_pos (vchk_asc (vecK_asc l) (vecK_valid l)), hv, Bool.true_and, List.any_eq_true]
    exact ⟨x, hmem, by simp only [covQ, Bool.and_eq_true, decide_eq_true_eq]; exact ⟨by rw [hxr, hρ'], h0⟩⟩
  simp [hcov]
end Go.Proofs.Tz

/- The statements about change records: Vectors. -/
set_option maxRecDepth 100000
set_option maxHeartbeats 8000000
set_option linter.unusedVariables false
set_option linter.unusedSimpArgs false
namespace Go.Proofs.Tz
open Go.Vw Go.RowKit Go.Proofs

theorem csn_ne {x y : Csn} (h : x ≠ y) : (decide (x.1 = y.1) && (decide (x.2.1 = y.2.1) && decide (x.2.2 = y.2.2))) = false := by
  obtain ⟨x1, x2, x3⟩ := x
  obtain ⟨y1, y2, y3⟩ := y
  simp only [ne_eq, Prod.mk.injEq, not_and] at h
  simp only [Bool.eq_false_iff, ne_eq, Bool.and_eq_true, decide_eq_true_eq, not_and]
  exact h
theorem sameV_fn (l m : List Csn) (hl : l.length < 1000000) (hm : m.length < 1000000) : Ctr Tryz.prog 24 [.d (csns l), .d (csns m)] (.d (.bool (eqB l m))) := by
  refine fn_of_vwp (fun _ => false) (by kernel_rfl) Tryz.func24 (by kernel_rfl) rfl rfl (Nat.le_of_ble_eq_true rfl) (by kernel_rfl) rfl rfl ?_
  by_cases hlm : l.length = m.length
  case neg =>
    have hlm' : ¬ (l.length : Int) = m.length := by omega
    rw [eqB_no (fun e => hlm (by rw [e]))]
    simp -implicitDefEqProofs [csns, hlm']
  simp -implicitDefEqProofs [csns, hlm]
  refine loopN m.length (fun k τ => τ 0 = .d (.sl (l.map csnD)) ∧ τ 1 = .d (.sl (m.map csnD)) ∧ τ 5 = .d (.int .i64 k) ∧ l.take k = m.take k) (by simp [csns]) ?_
  rintro k τ hk ⟨h0, h1, h5, ht⟩
  by_cases hlt : k < m.length
  case neg =>
    rw [List.take_of_length_le (by omega), List.take_of_length_le (by omega)] at ht
    have hlt' : ¬ (k : Int) < m.length := by omega
    rw [eqB_yes ht]
    simp -implicitDefEqProofs [h0, h1, h5, hlm, hlt']
  have hlt0 : (k : Int) < m.length := by omega
  have hlt' : k < l.length := by omega
  have e1 := take_s hlt
  have e2 := take_s hlt'
  have hne : l[k] ≠ m[k] → eqB l m = false := fun h => eqB_no (by rintro rfl; exact h rfl)
  generalize hx : l[k] = x at *
  generalize hy : m[k] = y at *
  by_cases hxy : x = y
  · subst hxy
    simp -implicitDefEqProofs [h0, h1, h5, hlm, hlt, hlt', hlt0, hx, hy, csnD, leafEq]
    repeat refine And.intro (by omega) ?_
    exact again hlt ⟨by simp [h0], by simp [h1], by simp, by rw [e1, e2, ht]⟩
  · rw [hne hxy]
    have hn := csn_ne hxy
    simp -implicitDefEqProofs [h0, h1, h5, hlm, hlt, hlt', hlt0, hx, hy, csnD, leafEq, hn]
theorem vecK_len (l : List Chg) : (vecK l 8).length ≤ 8 := by
  unfold vecK; refine Nat.le_trans (List.length_filterMap_le _ _) (by simp)
theorem sinceL_len (l : List Chg) (v : List Csn) : (sinceL l v).length ≤ l.length := by
  unfold sinceL; exact List.length_filter_le _ _
theorem law5 (l : List Chg) (v : List Csn) : Ctr Tryz.prog 5 [.d (chgs l), .d (csns v)] (.d (.bool true)) := by
  refine fn_of_vwp (fun _ => false) (by kernel_rfl) Tryz.func5 (by kernel_rfl) rfl rfl (Nat.le_of_ble_eq_true rfl) (by kernel_rfl) rfl rfl ?_
  have c1 := light_fn l
  have aw := awake_fn
  by_cases h1 : lightB l = true
  case neg =>
    have h1' : lightB l = false := by simpa using h1
    rw [h1'] at c1
    simp only [chgs] at c1
    simp -implicitDefEqProofs [chgs, csns]
    refine callK c1 ?_
    simp -implicitDefEqProofs
    refine callK aw ?_
    simp -implicitDefEqProofs
  rw [h1] at c1
  by_cases h2 : (20 : Int) < v.length
  · simp only [chgs] at c1
    simp -implicitDefEqProofs [chgs, csns]
    refine callK c1 ?_
    simp -implicitDefEqProofs [h2]
    refine callK aw ?_
    simp -implicitDefEqProofs
  have ll := (light_all h1).1
  have d1 := since_fn l v (by omega) (by omega)
  have d2 := sinceR_fn l v (by omega) (by omega)
  have d3 := vec_fn l (by omega)
  have d4 := refvec_fn l (by omega)
  rw [vec_law] at d3
  have hs := sinceL_len l v
  have hv := vecK_len l
  generalize sinceL l v = S at *
  generalize vecK l 8 = V at *
  have s1 := sameC_fn S S (by omega) (by omega)
  have s2 := sameV_fn V V (by omega) (by omega)
  rw [eqB_yes rfl] at s1 s2
  simp only [chgs, csns] at c1 d1 d2 d3 d4 s1 s2
  simp -implicitDefEqProofs [chgs, csns]
  refine callK c1 ?_
  simp -implicitDefEqProofs [h2]
  refine callK d1 ?_
  simp -implicitDefEqProofs
  refine callK d2 ?_
  simp -implicitDefEqProofs
  refine callK s1 ?_
  simp -implicitDefEqProofs
  refine callK d3 ?_
  simp -implicitDefEqProofs
  refine callK d4 ?_
  simp -implicitDefEqProofs
  refine callK s2 ?_
  simp -implicitDefEqProofs
  refine callK aw ?_
  simp -implicitDefEqProofs
theorem fits_csns {d : D} (h : Sh.Fits (.sl (.agg [.int .i64, .int .i64, .int .i64])) d) : ∃ x : List Csn, d = csns x := fits_list _ (fun _ h => fits_csn h) h
theorem ChangeVectors_ok (l : List Chg) (v : List Csn) (hb : D.lims 140737488351232 [chgs l, csns v]) : Ctr Tryz.prog 5 [.d (chgs l), .d (csns v)] (.d (.bool true)) := law5 l v
end Go.Proofs.Tz
