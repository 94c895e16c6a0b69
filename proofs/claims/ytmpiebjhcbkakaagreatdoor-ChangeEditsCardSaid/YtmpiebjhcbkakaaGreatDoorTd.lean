/-
  What the functions that the statements about layer 16 (change) reach compute, part 4 of 4: contracts and plain laws, for lists and strings of bounded size (each theorem states its bound).
-/
import Derived.Test.YtmpiebjhcbkakaaGreatDoorTc
import Derived.Test.YtmpiebjhcbkakaaGreatDoorTa
import Derived.Test.YtmpiebjhcbkakaaGreatDoorWc
import Derived.MakeChecks

set_option linter.unusedSimpArgs false
set_option linter.unusedVariables false

/- The statements about change records: Checks, Merges, Edits, Texts. -/
set_option maxRecDepth 100000
set_option maxHeartbeats 8000000
set_option linter.unusedVariables false
set_option linter.unusedSimpArgs false
namespace Go.Proofs.Tz
open Go.Vw Go.RowKit Go.Proofs

theorem readGo_len : ∀ (n : Nat) (s : Str) (out : List Chg), s.length ≤ n → out.length ≤ 4096 → (readGo s out).1.length ≤ 4096 := by
  intro n
  induction n with
  | zero =>
    intro s out hn ho
    have : s = [] := List.length_eq_zero_iff.1 (by omega)
    subst this
    rw [readGo_nil]; exact ho
  | succ n ih =>
    intro s out hn ho
    by_cases hs : s = []
    · subst hs; rw [readGo_nil]; exact ho
    by_cases hlim : 4096 ≤ out.length
    · rw [readGo_lim hs hlim]; simp
    by_cases hix : 0 ≤ ixB s 10
    · obtain ⟨j, hj⟩ := Int.eq_ofNat_of_zero_le hix
      have hlt := ixB_lt hix
      rw [hj, Int.toNat_natCast] at hlt
      have hj' : ixB s 10 = (j : Int) := hj
      rw [readGo_at hlim hj']
      cases hl : readC (s.take j) with
      | none => simp
      | some r => exact ih _ _ (by simp; omega) (by simp; omega)
    · rw [readGo_no hs hlim (by omega)]; simp
theorem law3 (c : Chg) (s : Str) : Ctr Tryz.prog 3 [.d (chgD c), .d (.str s)] (.d (.bool true)) := by
  refine fn_of_vwp (fun _ => false) (by kernel_rfl) Tryz.func3 (by kernel_rfl) rfl rfl (Nat.le_of_ble_eq_true rfl) (by kernel_rfl) rfl rfl ?_
  have c1 := light_fn [c]
  have aw := awake_fn
  by_cases h1 : lightB [c] = true
  case neg =>
    have h1' : lightB [c] = false := by simpa using h1
    rw [h1'] at c1
    simp only [chgs, chgD, csnD, List.map_cons, List.map_nil] at c1
    simp -implicitDefEqProofs [chgs, chgD, csnD]
    repeat refine And.intro (by decide) ?_
    refine callK c1 ?_
    simp -implicitDefEqProofs
    refine callK aw ?_
    simp -implicitDefEqProofs
  rw [h1] at c1
  by_cases h2 : (2000 : Int) < List.length s
  · simp only [chgs, chgD, csnD, List.map_cons, List.map_nil] at c1
    simp -implicitDefEqProofs [chgs, chgD, csnD]
    repeat refine And.intro (by decide) ?_
    refine callK c1 ?_
    simp -implicitDefEqProofs [h2]
    refine callK aw ?_
    simp -implicitDefEqProofs
  have hf : FitC c := (light_fit h1).all c (by simp)
  have c2 := line_fn c hf
  have c3 := lineR_fn c hf
  have c4 := parseCh_fn s (by omega)
  have c5 := parseChR_fn s (by omega)
  have c6 := chkC_fn c hf
  have c7 := chkCR_fn c hf
  generalize lineCT c = A at *
  generalize parseCT s = B at *
  generalize chkC c = E at *
  obtain ⟨A1, A2⟩ := A
  obtain ⟨⟨⟨b1, b2, b3⟩, b4, b5, b6, b7, b8⟩, B2⟩ := B
  simp only [chgs, chgD, csnD, List.map_cons, List.map_nil] at c1 c2 c3 c4 c5 c6 c7
  simp -implicitDefEqProofs [chgs, chgD, csnD]
  repeat refine And.intro (by decide) ?_
  refine callK c1 ?_
  simp -implicitDefEqProofs [h2]
  refine callK c2 ?_
  simp -implicitDefEqProofs
  refine callK c3 ?_
  simp -implicitDefEqProofs
  refine callK c4 ?_
  simp -implicitDefEqProofs
  refine callK c5 ?_
  simp -implicitDefEqProofs
  refine callP c6 ?_
  simp -implicitDefEqProofs
  refine callP c7 ?_
  simp -implicitDefEqProofs [leafEq]
  refine callP aw ?_
  simp -implicitDefEqProofs

theorem mergeL_len (a b : List Chg) : (mergeL a b).length ≤ a.length + b.length := by
  have := accM_len (a ++ b) (a.length + b.length)
  have e : mergeL a b = accM (a ++ b) (a.length + b.length) := by rw [mergeL, ← accM_all, List.length_append]
  rw [e]; exact this
theorem mergeL_mem {a b : List Chg} {x : Chg} (h : x ∈ mergeL a b) : x ∈ a ∨ x ∈ b := by
  have := ((mergeL_spec a b).mem x).1 h
  simpa using this.1
theorem law4 (a b : List Chg) : Ctr Tryz.prog 4 [.d (chgs a), .d (chgs b)] (.d (.bool true)) := by
  refine fn_of_vwp (fun _ => false) (by kernel_rfl) Tryz.func4 (by kernel_rfl) rfl rfl (Nat.le_of_ble_eq_true rfl) (by kernel_rfl) rfl rfl ?_
  have c1 := light_fn a
  have c2 := light_fn b
  have aw := awake_fn
  by_cases h1 : lightB a = true
  case neg =>
    have h1' : lightB a = false := by simpa using h1
    rw [h1'] at c1
    simp only [chgs] at c1
    simp -implicitDefEqProofs [chgs]
    refine callK c1 ?_
    simp -implicitDefEqProofs
    refine callK aw ?_
    simp -implicitDefEqProofs
  rw [h1] at c1
  by_cases h2 : lightB b = true
  case neg =>
    have h2' : lightB b = false := by simpa using h2
    rw [h2'] at c2
    simp only [chgs] at c1 c2
    simp -implicitDefEqProofs [chgs]
    refine callK c1 ?_
    simp -implicitDefEqProofs
    refine callK c2 ?_
    simp -implicitDefEqProofs
    refine callK aw ?_
    simp -implicitDefEqProofs
  rw [h2] at c2
  have fa := light_fit h1
  have fb := light_fit h2
  have la := (light_all h1).1
  have lb := (light_all h2).1
  have hl := mergeL_len a b
  have c3 := merge_fn a b fa.all fb.all (by omega)
  have c4 := mergeR_fn a b fa fb (by omega)
  generalize mergeL a b = M at *
  have c5 := sameC_fn M M (by omega) (by omega)
  rw [eqB_yes rfl] at c5
  simp only [chgs] at c1 c2 c3 c4 c5
  simp -implicitDefEqProofs [chgs]
  refine callK c1 ?_
  simp -implicitDefEqProofs
  refine callK c2 ?_
  simp -implicitDefEqProofs
  refine callK c3 ?_
  simp -implicitDefEqProofs
  refine callK c4 ?_
  simp -implicitDefEqProofs
  refine callK c5 ?_
  simp -implicitDefEqProofs
  refine callK aw ?_
  simp -implicitDefEqProofs

theorem law6 (id : Str) (a b : List Att) : Ctr Tryz.prog 6 [.d (.str id), .d (atts a), .d (atts b)] (.d (.bool true)) := by
  refine fn_of_vwp (fun _ => false) (by kernel_rfl) Tryz.func6 (by kernel_rfl) rfl rfl (Nat.le_of_ble_eq_true rfl) (by kernel_rfl) rfl rfl ?_
  have c1 := lightA_fn a
  have c2 := lightA_fn b
  have aw := awake_fn
  by_cases h1 : lightA a = true
  case neg =>
    have h1' : lightA a = false := by simpa using h1
    rw [h1'] at c1
    simp only [atts] at c1
    simp -implicitDefEqProofs [atts]
    refine callK c1 ?_
    simp -implicitDefEqProofs
    refine callK aw ?_
    simp -implicitDefEqProofs
  rw [h1] at c1
  by_cases h2 : lightA b = true
  case neg =>
    have h2' : lightA b = false := by simpa using h2
    rw [h2'] at c2
    simp only [atts] at c1 c2
    simp -implicitDefEqProofs [atts]
    refine callK c1 ?_
    simp -implicitDefEqProofs
    refine callK c2 ?_
    simp -implicitDefEqProofs
    refine callK aw ?_
    simp -implicitDefEqProofs
  rw [h2] at c2
  by_cases h3 : (400 : Int) < List.length id
  · simp only [atts] at c1 c2
    simp -implicitDefEqProofs [atts]
    refine callK c1 ?_
    simp -implicitDefEqProofs
    refine callK c2 ?_
    simp -implicitDefEqProofs [h3]
    refine callK aw ?_
    simp -implicitDefEqProofs
  have fE := lightE_fit h1 h2
  have fE2 := lightE_fit h2 h1
  have l1 := onlyL_le (o := 5) (id := id) fE h1
  have l2 := onlyL_le (o := 4) (id := id) fE2 h2
  have c3 := edits_fn id a b fE fE2 (by omega) (by omega)
  have c4 := editsR_fn id a b fE fE2 (by omega) (by omega)
  have hl : (onlyL 5 id a b ++ onlyL 4 id b a).length ≤ 16000 := by rw [List.length_append]; omega
  generalize onlyL 5 id a b ++ onlyL 4 id b a = M at *
  have c5 := sameC_fn M M (by omega) (by omega)
  rw [eqB_yes rfl] at c5
  simp only [chgs, atts] at c1 c2 c3 c4 c5
  simp -implicitDefEqProofs [atts]
  refine callK c1 ?_
  simp -implicitDefEqProofs
  refine callK c2 ?_
  simp -implicitDefEqProofs [h3]
  refine callK c3 ?_
  simp -implicitDefEqProofs
  refine callK c4 ?_
  simp -implicitDefEqProofs
  refine callK c5 ?_
  simp -implicitDefEqProofs
  refine callK aw ?_
  simp -implicitDefEqProofs

theorem law9 (l : List Chg) (s : Str) : Ctr Tryz.prog 9 [.d (chgs l), .d (.str s)] (.d (.bool true)) := by
  refine fn_of_vwp (fun _ => false) (by kernel_rfl) Tryz.func9 (by kernel_rfl) rfl rfl (Nat.le_of_ble_eq_true rfl) (by kernel_rfl) rfl rfl ?_
  have c1 := light_fn l
  have aw := awake_fn
  by_cases h1 : lightB l = true
  case neg =>
    have h1' : lightB l = false := by simpa using h1
    rw [h1'] at c1
    simp only [chgs] at c1
    simp -implicitDefEqProofs [chgs]
    refine callK c1 ?_
    simp -implicitDefEqProofs
    refine callK aw ?_
    simp -implicitDefEqProofs
  rw [h1] at c1
  by_cases h2 : (6000 : Int) < List.length s
  · simp only [chgs] at c1
    simp -implicitDefEqProofs [chgs]
    refine callK c1 ?_
    simp -implicitDefEqProofs [h2]
    refine callK aw ?_
    simp -implicitDefEqProofs
  have fl := light_fit h1
  have c2 := text_fn l fl
  have c3 := textR_fn l fl
  have c4 := read_fn s (by omega)
  have c5 := readR_fn s (by omega)
  have hr : (readGo s []).1.length < 1000000 := by have := readGo_len _ s [] (Nat.le_refl _) (by simp); omega
  generalize textC l = A at *
  generalize readGo s [] = B at *
  obtain ⟨A1, A2⟩ := A
  obtain ⟨B1, B2, B3⟩ := B
  have c6 := sameC_fn B1 B1 hr hr
  rw [eqB_yes rfl] at c6
  simp only [chgs] at c1 c2 c3 c4 c5 c6
  simp -implicitDefEqProofs [chgs]
  refine callK c1 ?_
  simp -implicitDefEqProofs [h2]
  refine callK c2 ?_
  simp -implicitDefEqProofs
  refine callK c3 ?_
  simp -implicitDefEqProofs
  refine callK c4 ?_
  simp -implicitDefEqProofs
  refine callK c5 ?_
  simp -implicitDefEqProofs
  refine callK c6 ?_
  simp -implicitDefEqProofs
  refine callK aw ?_
  simp -implicitDefEqProofs
end Go.Proofs.Tz

namespace Go.Proofs.Tz
open Go.Vw
set_option linter.unusedSimpArgs false

theorem fits_str {d : D} (h : Sh.Fits .str d) : ∃ s : Str, d = .str s := by
  simp only [Sh.Fits] at h
  obtain ⟨s, rfl, _⟩ := h
  exact ⟨s, rfl⟩
theorem fits_list {α : Type} {s : Sh} (g : α → D) (hs : ∀ d, Sh.Fits s d → ∃ a, d = g a) {d : D} (h : Sh.Fits (.sl s) d) : ∃ l : List α, d = .sl (l.map g) := by
  simp only [Sh.Fits] at h
  obtain ⟨ds, rfl, _, h⟩ := h
  have : ∀ ds : List D, (∀ x ∈ ds, Sh.Fits s x) → ∃ l : List α, ds = l.map g := by
    intro ds
    induction ds with
    | nil => intro _; exact ⟨[], rfl⟩
    | cons x ds ih =>
      intro h
      obtain ⟨a, rfl⟩ := hs x (h x (by simp))
      obtain ⟨l, rfl⟩ := ih fun y hy => h y (by simp [hy])
      exact ⟨a :: l, rfl⟩
  obtain ⟨l, rfl⟩ := this ds h
  exact ⟨l, rfl⟩
theorem fits_strs {d : D} (h : Sh.Fits (.sl .str) d) : ∃ l : List Str, d = strs l := fits_list _ (fun _ h => fits_str h) h
theorem fits_att {d : D} (h : Sh.Fits (.agg [.str, .sl .str]) d) : ∃ a : Att, d = att a := by
  simp only [Sh.Fits, Sh.FitsL] at h
  obtain ⟨ds, rfl, x, xs, rfl, ⟨s, rfl, _⟩, y, ys, rfl, hy, rfl⟩ := h
  obtain ⟨l, rfl⟩ := fits_strs (d := y) (by simp only [Sh.Fits]; exact hy)
  exact ⟨(s, l), rfl⟩
theorem fits_atts {d : D} (h : Sh.Fits (.sl (.agg [.str, .sl .str])) d) : ∃ l : List Att, d = atts l := fits_list _ (fun _ h => fits_att h) h

theorem bulk_map {α : Type} (g : α → D) (c : α → Nat) (h : ∀ a, (g a).bulk = c a) (l : List α) : D.bulks (l.map g) = (l.map c).sum := by
  rw [D.bulks_sum, List.map_map]
  congr 1
  exact List.map_congr_left fun a _ => h a
end Go.Proofs.Tz

/- Change records: from the arguments' shapes to the data; the statements at arguments of bounded size. -/
set_option maxRecDepth 100000
set_option linter.unusedVariables false
set_option linter.unusedSimpArgs false
namespace Go.Proofs.Tz
open Go.Vw Go.RowKit Go.Proofs

theorem fits_csn {d : D} (h : Sh.Fits (.agg [.int .i64, .int .i64, .int .i64]) d) : ∃ x : Csn, d = csnD x := by
  simp only [Sh.Fits, Sh.FitsL] at h
  obtain ⟨ds, rfl, x, xs, rfl, ⟨a, rfl, _⟩, y, ys, rfl, ⟨b, rfl, _⟩, z, zs, rfl, ⟨c, rfl, _⟩, rfl⟩ := h
  exact ⟨(a, b, c), rfl⟩
theorem fits_chg {d : D} (h : Sh.Fits (.agg [.agg [.int .i64, .int .i64, .int .i64], .int .i64, .str, .str, .str, .str]) d) : ∃ x : Chg, d = chgD x := by
  simp only [Sh.Fits, Sh.FitsL] at h
  obtain ⟨ds, rfl, n, ns, rfl, hn, o, os, rfl, ⟨ov, rfl, _⟩, i, is, rfl, ⟨iv, rfl, _⟩, m, ms, rfl, ⟨mv, rfl, _⟩, a, az, rfl, ⟨av, rfl, _⟩, v, vs, rfl, ⟨vv, rfl, _⟩, rfl⟩ := h
  obtain ⟨c, rfl⟩ := fits_csn (by simp only [Sh.Fits, Sh.FitsL]; exact hn)
  exact ⟨(c, ov, iv, mv, av, vv), rfl⟩
theorem fits_chgs {d : D} (h : Sh.Fits (.sl (.agg [.agg [.int .i64, .int .i64, .int .i64], .int .i64, .str, .str, .str, .str])) d) : ∃ x : List Chg, d = chgs x := by
  rw [Sh.Fits] at h
  obtain ⟨ds, rfl, _, hd⟩ := h
  have key : ∀ (ds : List D), (∀ x ∈ ds, Sh.Fits (.agg [.agg [.int .i64, .int .i64, .int .i64], .int .i64, .str, .str, .str, .str]) x) → ∃ l : List Chg, ds = l.map chgD := by
    intro ds
    induction ds with
    | nil => intro _; exact ⟨[], rfl⟩
    | cons d ds ih =>
      intro h
      obtain ⟨x, rfl⟩ := fits_chg (h d (by simp))
      obtain ⟨l, rfl⟩ := ih (fun y hy => h y (by simp [hy]))
      exact ⟨x :: l, rfl⟩
  obtain ⟨l, rfl⟩ := key ds hd
  exact ⟨l, rfl⟩
theorem ChangeChecks_ok (c : Chg) (s : Str) (hb : D.lims 140737488351232 [chgD c, .str s]) : Ctr Tryz.prog 3 [.d (chgD c), .d (.str s)] (.d (.bool true)) := law3 c s
theorem ChangeMerges_ok (a b : List Chg) (hb : D.lims 140737488351232 [chgs a, chgs b]) : Ctr Tryz.prog 4 [.d (chgs a), .d (chgs b)] (.d (.bool true)) := law4 a b
theorem ChangeEdits_ok (id : Str) (a b : List Att) (hb : D.lims 140737488351232 [.str id, atts a, atts b]) : Ctr Tryz.prog 6 [.d (.str id), .d (atts a), .d (atts b)] (.d (.bool true)) := law6 id a b
theorem ChangeTexts_ok (l : List Chg) (s : Str) (hb : D.lims 140737488351232 [chgs l, .str s]) : Ctr Tryz.prog 9 [.d (chgs l), .d (.str s)] (.d (.bool true)) := law9 l s
end Go.Proofs.Tz

/- The statements about change records: Union. -/
set_option maxRecDepth 100000
set_option maxHeartbeats 8000000
set_option linter.unusedVariables false
set_option linter.unusedSimpArgs false
namespace Go.Proofs.Tz
open Go.Vw Go.RowKit Go.Proofs

/-! ### merging, the plain law -/
theorem MergeS.ext {S S' R : List Chg} (h : MergeS S R) (hS : ∀ r, r ∈ S ↔ r ∈ S') : MergeS S' R :=
  ⟨h.asc, fun r => by rw [h.mem]; simp only [hS]⟩
theorem MergeS.sub {S R : List Chg} (h : MergeS S R) {r : Chg} (hr : r ∈ R) : r ∈ S := ((h.mem r).1 hr).1
theorem MergeS.over {S T R X : List Chg} (h : MergeS S R) (hX : MergeS (R ++ T) X) : MergeS (S ++ T) X := by
  refine ⟨hX.asc, fun x => ?_⟩
  rw [hX.mem]
  simp only [List.mem_append]
  constructor
  · rintro ⟨h1, h2, h3⟩
    refine ⟨h1.imp h.sub id, h2, fun r' hr' hc he => ?_⟩
    rcases hr' with hr' | hr'
    · obtain ⟨y, hy, hy1, hy2⟩ := h.has hr' hc
      exact List.le_trans (h3 y (.inl hy) (h.good hy) (by rw [hy1, he])) hy2
    · exact h3 r' (.inr hr') hc he
  · rintro ⟨h1, h2, h3⟩
    refine ⟨?_, h2, fun r' hr' hc he => h3 r' (hr'.imp h.sub id) hc he⟩
    rcases h1 with h1 | h1
    · obtain ⟨y, hy, hy1, hy2⟩ := h.has h1 h2
      have := h3 y (.inl (h.sub hy)) (h.good hy) hy1
      have e := lineC_inj h2 (h.good hy) (List.le_antisymm this hy2)
      rw [e]; exact .inl hy
    · exact .inr h1
theorem MergeS.keep {S T R : List Chg} (h : MergeS S R) (hT : ∀ r ∈ T, r ∈ S) : MergeS (R ++ T) R := by
  refine ⟨h.asc, fun r => ?_⟩
  simp only [List.mem_append]
  constructor
  · intro hr
    obtain ⟨a, b, c⟩ := (h.mem r).1 hr
    exact ⟨.inl hr, b, fun r' hr' hc he => c r' (hr'.elim h.sub (hT r')) hc he⟩
  · rintro ⟨h1, h2, h3⟩
    rcases h1 with h1 | h1
    · exact h1
    · obtain ⟨y, hy, hy1, hy2⟩ := h.has (hT r h1) h2
      have := h3 y (.inl hy) (h.good hy) hy1
      have e := lineC_inj h2 (h.good hy) (List.le_antisymm this hy2)
      rw [e]; exact hy
theorem mergeL_ext {a b a' b' : List Chg} (h : ∀ r, (r ∈ a ∨ r ∈ b) ↔ (r ∈ a' ∨ r ∈ b')) : mergeL a b = mergeL a' b' :=
  (mergeL_spec a b).uniq (mergeL_spec a' b') fun r => by simpa using h r
theorem mergeL_keep {a b t : List Chg} (h : ∀ r ∈ t, r ∈ a ∨ r ∈ b) : mergeL (mergeL a b) t = mergeL a b :=
  (mergeL_spec (mergeL a b) t).uniq ((mergeL_spec a b).keep (T := t) fun r hr => by simpa using h r hr) fun _ => Iff.rfl
theorem mergeL_assoc (a b c : List Chg) : mergeL (mergeL a b) c = mergeL a (mergeL b c) := by
  have h1 := (mergeL_spec a b).over (mergeL_spec (mergeL a b) c)
  have h2 : MergeS (mergeL b c ++ a) (mergeL a (mergeL b c)) := (mergeL_spec a (mergeL b c)).ext fun r => by simp [or_comm]
  have h3 := (mergeL_spec b c).over h2
  refine h1.uniq h3 fun r => ?_
  simp only [List.mem_append]
  constructor
  · rintro ((h | h) | h)
    · exact .inr h
    · exact .inl (.inl h)
    · exact .inl (.inr h)
  · rintro ((h | h) | h)
    · exact .inl (.inr h)
    · exact .inr h
    · exact .inl (.inl h)

theorem rev_take {l : List Chg} {k : Nat} (h : k < l.length) : l.reverse.take (k + 1) = l.reverse.take k ++ [l[l.length - 1 - k]'(by omega)] := by
  rw [take_s (by simpa using h), List.getElem_reverse]
def RvI (l : List Chg) (k : Nat) (τ : St) : Prop := τ 0 = .d (.sl (l.map chgD)) ∧ τ 4 = .d (.int .i64 ((l.length : Int) - 1 - k)) ∧ τ 3 = .own true 26 ((l.reverse.take k).map chgD)
theorem reversed_fn (l : List Chg) (hl : l.length < 1000000) : Ctr Tryz.prog 31 [.d (chgs l)] (.own true 26 (l.reverse.map chgD)) := by
  refine fn_of_vwp (fun i => i == 2 || i == 3 || i == 18) (by kernel_rfl) Tryz.func31 (by kernel_rfl) rfl rfl (Nat.le_of_ble_eq_true rfl) (by kernel_rfl) rfl rfl ?_
  simp -implicitDefEqProofs [chgs]
  repeat refine And.intro (by omega) ?_
  refine loopN l.length (RvI l) ⟨by simp, by simp, by simp⟩ ?_
  rintro k τ hk ⟨g0, g4, g3⟩
  by_cases hlt : k < l.length
  · obtain ⟨j, hjd⟩ : ∃ j, j = l.length - 1 - k := ⟨_, rfl⟩
    have hj : (l.length : Int) - 1 - k = (j : Int) := by omega
    rw [hj] at g4
    have hjl : j < l.length := by omega
    have ht : l.reverse.take (k + 1) = l.reverse.take k ++ [l[j]] := by subst hjd; exact rev_take hlt
    have hlen : (l.reverse.take k).length ≤ l.length := by simp; omega
    have e2 : (j : Int) - 1 = (l.length : Int) - 1 - (k + 1 : Nat) := by omega
    clear hjd hj
    generalize hR2 : l.reverse.take (k + 1) = R2 at *
    generalize l.reverse.take k = R1 at *
    generalize hx : l[j] = x at *
    simp -implicitDefEqProofs [g0, g4, g3, hjl, hx, chgD, csnD]
    repeat refine And.intro (by omega) ?_
    refine again hlt ⟨by simp [g0, chgD, csnD], ?_, by simp [hR2, ht, chgD, csnD]⟩
    simp only [put_at, kill, if_true]
    rw [e2]
  · obtain rfl : k = l.length := by omega
    have hng : (l.length : Int) - 1 - l.length = -1 := by omega
    rw [hng] at g4
    have ht : l.reverse.take l.length = l.reverse := List.take_of_length_le (by simp)
    rw [ht] at g3
    simp -implicitDefEqProofs [g0, g4, g3]

def UnI (M a b c : List Chg) (k : Nat) (τ : St) : Prop := τ 0 = .d (chgs a) ∧ τ 1 = .d (chgs b) ∧ τ 2 = .d (chgs c) ∧ τ 7 = .own false 26 (M.map chgD) ∧ τ 8 = .d (.int .i64 (k + 1 : Nat))
set_option maxHeartbeats 20000000 in
theorem law7 (a b c : List Chg) : Ctr Tryz.prog 7 [.d (chgs a), .d (chgs b), .d (chgs c)] (.d (.bool true)) := by
  refine fn_of_vwp (fun _ => false) (by kernel_rfl) Tryz.func7 (by kernel_rfl) rfl rfl (Nat.le_of_ble_eq_true rfl) (by kernel_rfl) rfl rfl ?_
  have c1 := light_fn a
  have c2 := light_fn b
  have c3 := light_fn c
  have aw := awake_fn
  by_cases h1 : lightB a = true
  case neg =>
    have h1' : lightB a = false := by simpa using h1
    rw [h1'] at c1
    simp only [chgs] at c1
    simp -implicitDefEqProofs [chgs]
    refine callK c1 ?_
    simp -implicitDefEqProofs
    refine callK aw ?_
    simp -implicitDefEqProofs
  rw [h1] at c1
  by_cases h2 : lightB b = true
  case neg =>
    have h2' : lightB b = false := by simpa using h2
    rw [h2'] at c2
    simp only [chgs] at c1 c2
    simp -implicitDefEqProofs [chgs]
    refine callK c1 ?_
    simp -implicitDefEqProofs
    refine callK c2 ?_
    simp -implicitDefEqProofs
    refine callK aw ?_
    simp -implicitDefEqProofs
  rw [h2] at c2
  by_cases h3 : lightB c = true
  case neg =>
    have h3' : lightB c = false := by simpa using h3
    rw [h3'] at c3
    simp only [chgs] at c1 c2 c3
    simp -implicitDefEqProofs [chgs]
    refine callK c1 ?_
    simp -implicitDefEqProofs
    refine callK c2 ?_
    simp -implicitDefEqProofs
    refine callK c3 ?_
    simp -implicitDefEqProofs
    refine callK aw ?_
    simp -implicitDefEqProofs
  rw [h3] at c3
  have fa := (light_fit h1).all
  have fb := (light_fit h2).all
  have fc := (light_fit h3).all
  have la := (light_all h1).1
  have lb := (light_all h2).1
  have lc := (light_all h3).1
  have lM := mergeL_len a b
  have lN := mergeL_len b c
  have lX := mergeL_len (mergeL a b) c
  have fM : ∀ x ∈ mergeL a b, FitC x := fun x hx => (mergeL_mem hx).elim (fa x) (fb x)
  have fN : ∀ x ∈ mergeL b c, FitC x := fun x hx => (mergeL_mem hx).elim (fb x) (fc x)
  have fR : ∀ x ∈ a.reverse, FitC x := fun x hx => fa x (by simpa using hx)
  have d1 := merge_fn a b fa fb (by omega)
  have d2 := merge_fn (mergeL a b) c fM fc (by omega)
  have d3 := merge_fn b a fb fa (by omega)
  have d4 := reversed_fn a (by omega)
  have d5 := merge_fn a.reverse b fR fb (by simp; omega)
  have d6 := merge_fn (mergeL a b) a fM fa (by omega)
  have d7 := merge_fn (mergeL a b) (mergeL a b) fM fM (by omega)
  have d8 := merge_fn b c fb fc (by omega)
  have d9 := merge_fn a (mergeL b c) fa fN (by omega)
  rw [show mergeL b a = mergeL a b from mergeL_ext fun r => or_comm] at d3
  rw [show mergeL a.reverse b = mergeL a b from mergeL_ext fun r => by simp] at d5
  rw [mergeL_keep (fun r hr => .inl hr)] at d6
  rw [mergeL_keep (fun r hr => mergeL_mem hr)] at d7
  rw [← mergeL_assoc] at d9
  have sM := sameC_fn (mergeL a b) (mergeL a b) (by omega) (by omega)
  have sX := sameC_fn (mergeL (mergeL a b) c) (mergeL (mergeL a b) c) (by omega) (by omega)
  rw [eqB_yes rfl] at sM sX
  have asc := (mergeL_spec a b).asc
  rw [List.pairwise_iff_getElem] at asc
  generalize mergeL (mergeL a b) c = X at *
  generalize mergeL a b = M at *
  generalize mergeL b c = N at *
  generalize a.reverse = V at *
  simp only [chgs] at c1 c2 c3 d1 d2 d3 d4 d5 d6 d7 d8 d9 sM sX
  simp -implicitDefEqProofs [chgs]
  refine callK c1 ?_
  simp -implicitDefEqProofs
  refine callK c2 ?_
  simp -implicitDefEqProofs
  refine callK c3 ?_
  simp -implicitDefEqProofs
  refine callK d1 ?_
  simp -implicitDefEqProofs
  refine loopN (M.length - 1) (UnI M a b c) ⟨by simp [chgs], by simp [chgs], by simp [chgs], by simp, by simp⟩ ?_
  rintro k τ hk ⟨g0, g1, g2, g7, g8⟩
  by_cases hlt : k + 1 < M.length
  · have hlt' : (k : Int) + 1 < M.length := by omega
    have hlt0 : k < M.length := by omega
    have hc := asc k (k + 1) hlt0 hlt (by omega)
    have e1 := ccmpR_fn M[k].1 M[k + 1].1
    generalize cmpC M[k].1 M[k + 1].1 = Z at *
    generalize hx : M[k] = x at *
    generalize hy : M[k + 1] = y at *
    have hng : ¬ (0 : Int) ≤ Z := by omega
    simp only [csnD] at e1
    simp -implicitDefEqProofs [g0, g1, g2, g7, g8, hlt, hlt', hlt0, hx, hy, chgD, csnD]
    repeat refine And.intro (by omega) ?_
    refine callP e1 ?_
    simp -implicitDefEqProofs [g0, g1, g2, g7, g8, hng]
    repeat refine And.intro (by omega) ?_
    exact again (by omega) ⟨by simp [g0], by simp [g1], by simp [g2], by simp [g7, chgD, csnD], by simp⟩
  · have hlt' : ¬ (k : Int) + 1 < M.length := by omega
    simp -implicitDefEqProofs [g0, g1, g2, g7, g8, hlt', chgs]
    refine callK d2 ?_
    simp -implicitDefEqProofs [g0, g1, g2, g7, g8, chgs]
    refine callK d3 ?_
    simp -implicitDefEqProofs [g0, g1, g2, g7, g8, chgs]
    refine callK sM ?_
    simp -implicitDefEqProofs [g0, g1, g2, g7, g8, chgs]
    refine callK d4 ?_
    simp -implicitDefEqProofs [g0, g1, g2, g7, g8, chgs]
    refine callK d5 ?_
    simp -implicitDefEqProofs [g0, g1, g2, g7, g8, chgs]
    refine callK sM ?_
    simp -implicitDefEqProofs [g0, g1, g2, g7, g8, chgs]
    refine callK d6 ?_
    simp -implicitDefEqProofs [g0, g1, g2, g7, g8, chgs]
    refine callK sM ?_
    simp -implicitDefEqProofs [g0, g1, g2, g7, g8, chgs]
    refine callK d7 ?_
    simp -implicitDefEqProofs [g0, g1, g2, g7, g8, chgs]
    refine callK sM ?_
    simp -implicitDefEqProofs [g0, g1, g2, g7, g8, chgs]
    refine callK d8 ?_
    simp -implicitDefEqProofs [g0, g1, g2, g7, g8, chgs]
    refine callK d9 ?_
    simp -implicitDefEqProofs [g0, g1, g2, g7, g8, chgs]
    refine callK sX ?_
    simp -implicitDefEqProofs [g0, g1, g2, g7, g8, chgs]
    refine callK aw ?_
    simp -implicitDefEqProofs
theorem ChangeUnion_ok (a b c : List Chg) (hb : D.lims 140737488351232 [chgs a, chgs b, chgs c]) : Ctr Tryz.prog 7 [.d (chgs a), .d (chgs b), .d (chgs c)] (.d (.bool true)) := law7 a b c
end Go.Proofs.Tz

/- The statements about change records: there and back. -/
set_option maxRecDepth 100000
set_option maxHeartbeats 8000000
set_option linter.unusedVariables false
set_option linter.unusedSimpArgs false
namespace Go.Proofs.Tz
open Go.Vw Go.RowKit Go.Proofs

theorem lineC_light {c : Chg} (hc : lightC c = true) : (lineC c).length ≤ 4000 := by
  simp only [lightC, Bool.and_eq_true, decide_eq_true_eq] at hc
  obtain ⟨⟨⟨f1, f2⟩, f3⟩, f4⟩ := hc
  obtain ⟨n, op, id, nm, at_, va⟩ := c
  simp only at f1 f2 f3 f4
  have hf := formatC_le n
  have hw := opW_len op
  have e1 := escS_len nm
  have e2 := escS_len at_
  have e3 := escS_len va
  have hl : lineC (n, op, id, nm, at_, va) = joinB 32 (lineWs (n, op, id, nm, at_, va)) := rfl
  rw [hl]
  simp only [lineWs]
  split
  · simp only [joinB, List.length_append, List.length_cons]; omega
  · split
    · simp only [joinB, List.length_append, List.length_cons]; omega
    · simp only [joinB, List.length_append, List.length_cons]; omega
theorem escS_ge (s : Str) : s.length ≤ (escS s).length := unesc_len _ (escS s) s (Nat.le_refl _) (unesc_esc s)
theorem fit_of_line {c : Chg} (h : chkC c = 0) (hl : (lineC c).length ≤ 6000) : FitC c := by
  have hu := (chkC_zero.1 h).used
  obtain ⟨n, op, id, nm, at_, va⟩ := c
  have e1 := escS_ge nm
  have e2 := escS_ge at_
  have e3 := escS_ge va
  have hl2 : lineC (n, op, id, nm, at_, va) = joinB 32 (lineWs (n, op, id, nm, at_, va)) := rfl
  rw [hl2] at hl
  simp only [lineWs] at hl
  simp only [unusedB] at hu
  by_cases h1 : namedK op = true
  · have h2 : valuedK op = false := by
      simp only [namedK, valuedK, Bool.or_eq_true, decide_eq_true_eq, Bool.or_eq_false_iff, decide_eq_false_iff_not] at h1 ⊢
      omega
    rw [if_pos h1] at hl
    simp only [h1, h2, Bool.not_true, Bool.not_false, Bool.false_and, Bool.true_and, Bool.false_or, Bool.or_eq_false_iff, decide_eq_false_iff_not, ne_eq, Classical.not_not] at hu
    obtain ⟨rfl, rfl⟩ := hu
    simp only [joinB, List.length_append, List.length_cons] at hl
    exact ⟨by simp only; omega, by simp only; omega, by simp, by simp⟩
  · rw [if_neg h1] at hl
    have h1' : namedK op = false := by simpa using h1
    by_cases h2 : valuedK op = true
    · rw [if_pos h2] at hl
      simp only [h1', h2, Bool.not_true, Bool.not_false, Bool.false_and, Bool.true_and, Bool.or_false, decide_eq_false_iff_not, ne_eq, Classical.not_not] at hu
      subst hu
      simp only [joinB, List.length_append, List.length_cons] at hl
      exact ⟨by simp only; omega, by simp, by simp only; omega, by simp only; omega⟩
    · have h2' : valuedK op = false := by simpa using h2
      rw [if_neg h2] at hl
      simp only [h1', h2', Bool.not_false, Bool.true_and, Bool.or_eq_false_iff, decide_eq_false_iff_not, ne_eq, Classical.not_not] at hu
      obtain ⟨rfl, rfl, rfl⟩ := hu
      simp only [joinB, List.length_append, List.length_cons] at hl
      exact ⟨by simp only; omega, by simp, by simp, by simp⟩
theorem pLines_mem {m : List Chg} {c : Chg} (h : c ∈ m) : (lineC c).length ≤ (pLines lineC m).length := by
  induction m with
  | nil => simp at h
  | cons x m ih =>
    rw [pLines_cons, List.length_append, List.length_cons]
    rcases List.mem_cons.1 h with rfl | h
    · omega
    · have := ih h; omega
theorem read_fit {s : Str} {x : List Chg} {k : Int} (h : readGo s [] = (x, k, 0)) (hs : s.length ≤ 6000) : FitCs x ∧ textC x = (s, 0) := by
  obtain ⟨m, h1, h2, h3, h4, h5⟩ := readGo_ok _ _ _ _ _ (Nat.le_refl _) (by simp) h
  rw [List.nil_append] at h1
  subst h1
  refine ⟨⟨by omega, fun c hc => fit_of_line (h4 c hc) ?_⟩, (backC2 h).1⟩
  have := pLines_mem hc
  rw [← h3] at this
  omega
theorem textC_light {l : List Chg} {t : Str} (h : lightB l = true) (ht : textC l = (t, 0)) : t.length ≤ 100000 := by
  obtain ⟨h1, h2⟩ := light_all h
  unfold textC at ht
  rw [if_neg (by omega)] at ht
  obtain ⟨_, h4⟩ := textGo_ok _ _ _ ht
  rw [List.nil_append] at h4
  have h5 := pLines_len (w := lineC) (n := 4000) (l := l) (fun r hr => lineC_light (h2 r hr))
  rw [h4]
  have h6 : l.length * 4001 ≤ 20 * 4001 := Nat.mul_le_mul_right _ h1
  omega
def BkI (l : List Chg) (s : Str) (k : Nat) (τ : St) : Prop := τ 0 = .d (.sl (l.map chgD)) ∧ τ 1 = .d (.str s) ∧ τ 5 = .d (.int .i64 k)
set_option maxHeartbeats 20000000 in
theorem law10 (l : List Chg) (s : Str) : Ctr Tryz.prog 10 [.d (chgs l), .d (.str s)] (.d (.bool true)) := by
  refine fn_of_vwp (fun _ => false) (by kernel_rfl) Tryz.func10 (by kernel_rfl) rfl rfl (Nat.le_of_ble_eq_true rfl) (by kernel_rfl) rfl rfl ?_
  have c1 := light_fn l
  have aw := awake_fn
  by_cases h1 : lightB l = true
  case neg =>
    have h1' : lightB l = false := by simpa using h1
    rw [h1'] at c1
    simp only [chgs] at c1
    simp -implicitDefEqProofs [chgs]
    refine callK c1 ?_
    simp -implicitDefEqProofs
    refine callK aw ?_
    simp -implicitDefEqProofs
  rw [h1] at c1
  by_cases h2 : (6000 : Int) < List.length s
  · simp only [chgs] at c1
    simp -implicitDefEqProofs [chgs]
    refine callK c1 ?_
    simp -implicitDefEqProofs [h2]
    refine callK aw ?_
    simp -implicitDefEqProofs
  have fl := light_fit h1
  have hll := light_all h1
  have d1 := text_fn l fl
  have d2 := read_fn s (by omega)
  have hx0 : ∀ x k, readGo s [] = (x, k, 0) → FitCs x ∧ textC x = (s, 0) := fun x k h => read_fit h (by omega)
  have ht : ∀ t, textC l = (t, 0) → List.length t < 900000 ∧ readGo t [] = (l, 0, 0) := fun t h => by
    refine ⟨?_, backC1 h⟩
    have h3 := textC_light (l := l) h1 h
    omega
  simp only [chgs] at c1
  simp -implicitDefEqProofs [chgs]
  refine callK c1 ?_
  simp -implicitDefEqProofs [h2]
  refine loopN l.length (BkI l s) ⟨by simp, by simp, by simp⟩ ?_
  clear c1
  rintro k τ hk ⟨g0, g1, g5⟩
  by_cases hlt : k < l.length
  · have hlt' : (k : Int) < l.length := by omega
    have e1 := line_fn l[k] (fl.all _ (List.getElem_mem hlt))
    have e2 := chkC_fn l[k] (fl.all _ (List.getElem_mem hlt))
    have hli := hll.2 _ (List.getElem_mem hlt)
    generalize hx : l[k] = c at *
    by_cases h0 : chkC c = 0
    · have e3 := parseCh_fn (lineC c) (by have := lineC_light hli; omega)
      rw [parseCT_line h0] at e3
      rw [lineCT_ok h0] at e1
      rw [h0] at e2
      generalize lineC c = LC at *
      simp only [chgD, csnD] at e1 e2 e3
      simp -implicitDefEqProofs [g0, g1, g5, hlt, hlt', hx, chgD, csnD]
      refine callK e1 ?_
      simp -implicitDefEqProofs [g0, g1, g5, hlt, hlt', hx, chgD, csnD]
      refine callK e2 ?_
      simp -implicitDefEqProofs [g0, g1, g5, hlt, hlt', hx, chgD, csnD]
      refine callK e3 ?_
      simp -implicitDefEqProofs [g0, g1, g5, hlt, hlt', hx, chgD, csnD, leafEq]
      repeat refine And.intro (by omega) ?_
      exact again hlt ⟨by simp [g0, chgD, csnD], by simp [g1], by simp⟩
    · rw [lineCT_bad h0] at e1
      generalize chkC c = E at *
      simp only [chgD, csnD] at e1 e2
      simp -implicitDefEqProofs [g0, g1, g5, hlt, hlt', hx, chgD, csnD]
      refine callK e1 ?_
      simp -implicitDefEqProofs [g0, g1, g5, hlt, hlt', hx, chgD, csnD]
      refine callK e2 ?_
      simp -implicitDefEqProofs [g0, g1, g5, hlt, hlt', hx, chgD, csnD, h0]
      repeat refine And.intro (by omega) ?_
      exact again hlt ⟨by simp [g0, chgD, csnD], by simp [g1], by simp⟩
  · have hlt' : ¬ (k : Int) < l.length := by omega
    clear hk
    generalize textC l = TT at *
    generalize readGo s [] = RR at *
    obtain ⟨T1, T2⟩ := TT
    obtain ⟨X, K, E3⟩ := RR
    simp only at d1 d2 hx0 ht
    by_cases hT : T2 = 0
    · subst hT
      obtain ⟨hT1, hT2⟩ := ht T1 rfl
      have d4 := read_fn T1 hT1
      rw [hT2] at d4
      have d5 := sameC_fn l l (by omega) (by omega)
      rw [eqB_yes rfl] at d5
      simp only [chgs] at d1 d4 d5
      by_cases hE : E3 = 0
      · subst hE
        obtain ⟨fX, tX⟩ := hx0 X K rfl
        have d3 := text_fn X fX
        rw [tX] at d3
        simp only [chgs] at d2 d3
        simp -implicitDefEqProofs [g0, g1, g5, hlt', chgs]
        refine callK d1 ?_
        simp -implicitDefEqProofs [g0, g1, g5, hlt', chgs]
        refine callK d4 ?_
        simp -implicitDefEqProofs [g0, g1, g5, hlt', chgs]
        refine callK d5 ?_
        simp -implicitDefEqProofs [g0, g1, g5, hlt', chgs]
        refine callK d2 ?_
        simp -implicitDefEqProofs [g0, g1, g5, hlt', chgs]
        refine callK d3 ?_
        simp -implicitDefEqProofs [g0, g1, g5, hlt', chgs]
        refine callK aw ?_
        simp -implicitDefEqProofs
      · simp only [chgs] at d2
        simp -implicitDefEqProofs [g0, g1, g5, hlt', chgs]
        refine callK d1 ?_
        simp -implicitDefEqProofs [g0, g1, g5, hlt', chgs]
        refine callK d4 ?_
        simp -implicitDefEqProofs [g0, g1, g5, hlt', chgs]
        refine callK d5 ?_
        simp -implicitDefEqProofs [g0, g1, g5, hlt', chgs]
        refine callK d2 ?_
        simp -implicitDefEqProofs [g0, g1, g5, hlt', hE, chgs]
        refine callK aw ?_
        simp -implicitDefEqProofs
    · simp only [chgs] at d1
      by_cases hE : E3 = 0
      · subst hE
        obtain ⟨fX, tX⟩ := hx0 X K rfl
        have d3 := text_fn X fX
        rw [tX] at d3
        simp only [chgs] at d2 d3
        simp -implicitDefEqProofs [g0, g1, g5, hlt', chgs]
        refine callK d1 ?_
        simp -implicitDefEqProofs [g0, g1, g5, hlt', hT, chgs]
        refine callK d2 ?_
        simp -implicitDefEqProofs [g0, g1, g5, hlt', chgs]
        refine callK d3 ?_
        simp -implicitDefEqProofs [g0, g1, g5, hlt', chgs]
        refine callK aw ?_
        simp -implicitDefEqProofs
      · simp only [chgs] at d2
        simp -implicitDefEqProofs [g0, g1, g5, hlt', chgs]
        refine callK d1 ?_
        simp -implicitDefEqProofs [g0, g1, g5, hlt', hT, chgs]
        refine callK d2 ?_
        simp -implicitDefEqProofs [g0, g1, g5, hlt', hE, chgs]
        refine callK aw ?_
        simp -implicitDefEqProofs
theorem ChangeBack_ok (l : List Chg) (s : Str) (hb : D.lims 140737488351232 [chgs l, .str s]) : Ctr Tryz.prog 10 [.d (chgs l), .d (.str s)] (.d (.bool true)) := law10 l s
end Go.Proofs.Tz
