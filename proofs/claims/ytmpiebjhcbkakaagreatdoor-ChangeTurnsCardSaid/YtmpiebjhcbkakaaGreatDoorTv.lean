/-
  What the functions that the statements about layer 16 (change) reach compute, part 4 of 4: contracts and plain laws, for lists and strings of bounded size (each theorem states its bound).
-/
import Derived.Test.YtmpiebjhcbkakaaGreatDoorTu
import Derived.Test.YtmpiebjhcbkakaaGreatDoorTs
import Derived.Test.YtmpiebjhcbkakaaGreatDoorWu
import Derived.MakeChecks
import Derived.Laws.CopyRow
import Derived.Shelf.Spec.SlicesInsert
import Derived.Lib.AppendZerosOnto

set_option linter.unusedSimpArgs false
set_option linter.unusedVariables false

/- The statements about change records: Checks, Merges, Edits, Texts. -/
set_option maxRecDepth 100000
set_option maxHeartbeats 8000000
set_option linter.unusedVariables false
set_option linter.unusedSimpArgs false
namespace Go.Proofs.Tz
open Go.Vw Go.RowKit Go.Proofs

end Go.Proofs.Tz

namespace Go.Proofs.Tz
open Go.Vw
set_option linter.unusedSimpArgs false

theorem fits_str {d : D} (h : Sh.Fits .str d) : ∃ s : Str, d = .str s := by
  simp only [Sh.Fits] at h
  obtain ⟨s, rfl, _⟩ := h
  exact ⟨s, rfl⟩
theorem fits_list {α : Type} {s : Sh} (g : α → D) (hs : ∀ d, Sh.Fits s d → ∃ a, d = g a) {d : D} (h : Sh.Fits (.sl s) d) : ∃ l : List α, d = .sl (l.map g) := by
  simp only [Sh.Fits] at h
  obtain ⟨ds, rfl, _, h⟩ := h
  have : ∀ ds : List D, (∀ x ∈ ds, Sh.Fits s x) → ∃ l : List α, ds = l.map g := by
    intro ds
    induction ds with
    | nil => intro _; exact ⟨[], rfl⟩
    | cons x ds ih =>
      intro h
      obtain ⟨a, rfl⟩ := hs x (h x (by simp))
      obtain ⟨l, rfl⟩ := ih fun y hy => h y (by simp [hy])
      exact ⟨a :: l, rfl⟩
  obtain ⟨l, rfl⟩ := this ds h
  exact ⟨l, rfl⟩
theorem fits_strs {d : D} (h : Sh.Fits (.sl .str) d) : ∃ l : List Str, d = strs l := fits_list _ (fun _ h => fits_str h) h
theorem fits_att {d : D} (h : Sh.Fits (.agg [.str, .sl .str]) d) : ∃ a : Att, d = att a := by
  simp only [Sh.Fits, Sh.FitsL] at h
  obtain ⟨ds, rfl, x, xs, rfl, ⟨s, rfl, _⟩, y, ys, rfl, hy, rfl⟩ := h
  obtain ⟨l, rfl⟩ := fits_strs (d := y) (by simp only [Sh.Fits]; exact hy)
  exact ⟨(s, l), rfl⟩
theorem fits_atts {d : D} (h : Sh.Fits (.sl (.agg [.str, .sl .str])) d) : ∃ l : List Att, d = atts l := fits_list _ (fun _ h => fits_att h) h

end Go.Proofs.Tz

/- Change records: from the arguments' shapes to the data; the statements at arguments of bounded size. -/
set_option maxRecDepth 100000
set_option linter.unusedVariables false
set_option linter.unusedSimpArgs false
namespace Go.Proofs.Tz
open Go.Vw Go.RowKit Go.Proofs

theorem fits_csn {d : D} (h : Sh.Fits (.agg [.int .i64, .int .i64, .int .i64]) d) : ∃ x : Csn, d = csnD x := by
  simp only [Sh.Fits, Sh.FitsL] at h
  obtain ⟨ds, rfl, x, xs, rfl, ⟨a, rfl, _⟩, y, ys, rfl, ⟨b, rfl, _⟩, z, zs, rfl, ⟨c, rfl, _⟩, rfl⟩ := h
  exact ⟨(a, b, c), rfl⟩
theorem fits_chg {d : D} (h : Sh.Fits (.agg [.agg [.int .i64, .int .i64, .int .i64], .int .i64, .str, .str, .str, .str]) d) : ∃ x : Chg, d = chgD x := by
  simp only [Sh.Fits, Sh.FitsL] at h
  obtain ⟨ds, rfl, n, ns, rfl, hn, o, os, rfl, ⟨ov, rfl, _⟩, i, is, rfl, ⟨iv, rfl, _⟩, m, ms, rfl, ⟨mv, rfl, _⟩, a, az, rfl, ⟨av, rfl, _⟩, v, vs, rfl, ⟨vv, rfl, _⟩, rfl⟩ := h
  obtain ⟨c, rfl⟩ := fits_csn (by simp only [Sh.Fits, Sh.FitsL]; exact hn)
  exact ⟨(c, ov, iv, mv, av, vv), rfl⟩
theorem fits_chgs {d : D} (h : Sh.Fits (.sl (.agg [.agg [.int .i64, .int .i64, .int .i64], .int .i64, .str, .str, .str, .str])) d) : ∃ x : List Chg, d = chgs x := by
  rw [Sh.Fits] at h
  obtain ⟨ds, rfl, _, hd⟩ := h
  have key : ∀ (ds : List D), (∀ x ∈ ds, Sh.Fits (.agg [.agg [.int .i64, .int .i64, .int .i64], .int .i64, .str, .str, .str, .str]) x) → ∃ l : List Chg, ds = l.map chgD := by
    intro ds
    induction ds with
    | nil => intro _; exact ⟨[], rfl⟩
    | cons d ds ih =>
      intro h
      obtain ⟨x, rfl⟩ := fits_chg (h d (by simp))
      obtain ⟨l, rfl⟩ := ih (fun y hy => h y (by simp [hy]))
      exact ⟨x :: l, rfl⟩
  obtain ⟨l, rfl⟩ := key ds hd
  exact ⟨l, rfl⟩
end Go.Proofs.Tz

/- The statements about change records: Union. -/
set_option maxRecDepth 100000
set_option maxHeartbeats 8000000
set_option linter.unusedVariables false
set_option linter.unusedSimpArgs false
namespace Go.Proofs.Tz
open Go.Vw Go.RowKit Go.Proofs

/-! ### merging, the plain law -/
theorem MergeS.ext {S S' R : List Chg} (h : MergeS S R) (hS : ∀ r, r ∈ S ↔ r ∈ S') : MergeS S' R :=
  ⟨h.asc, fun r => by rw [h.mem]; simp only [hS]⟩
theorem MergeS.sub {S R : List Chg} (h : MergeS S R) {r : Chg} (hr : r ∈ R) : r ∈ S := ((h.mem r).1 hr).1
theorem MergeS.over {S T R X : List Chg} (h : MergeS S R) (hX : MergeS (R ++ T) X) : MergeS (S ++ T) X := by
  refine ⟨hX.asc, fun x => ?_⟩
  rw [hX.mem]
  simp only [List.mem_append]
  constructor
  · rintro ⟨h1, h2, h3⟩
    refine ⟨h1.imp h.sub id, h2, fun r' hr' hc he => ?_⟩
    rcases hr' with hr' | hr'
    · obtain ⟨y, hy, hy1, hy2⟩ := h.has hr' hc
      exact List.le_trans (h3 y (.inl hy) (h.good hy) (by rw [hy1, he])) hy2
    · exact h3 r' (.inr hr') hc he
  · rintro ⟨h1, h2, h3⟩
    refine ⟨?_, h2, fun r' hr' hc he => h3 r' (hr'.imp h.sub id) hc he⟩
    rcases h1 with h1 | h1
    · obtain ⟨y, hy, hy1, hy2⟩ := h.has h1 h2
      have := h3 y (.inl (h.sub hy)) (h.good hy) hy1
      have e := lineC_inj h2 (h.good hy) (List.le_antisymm this hy2)
      rw [e]; exact .inl hy
    · exact .inr h1
theorem MergeS.keep {S T R : List Chg} (h : MergeS S R) (hT : ∀ r ∈ T, r ∈ S) : MergeS (R ++ T) R := by
  refine ⟨h.asc, fun r => ?_⟩
  simp only [List.mem_append]
  constructor
  · intro hr
    obtain ⟨a, b, c⟩ := (h.mem r).1 hr
    exact ⟨.inl hr, b, fun r' hr' hc he => c r' (hr'.elim h.sub (hT r')) hc he⟩
  · rintro ⟨h1, h2, h3⟩
    rcases h1 with h1 | h1
    · exact h1
    · obtain ⟨y, hy, hy1, hy2⟩ := h.has (hT r h1) h2
      have := h3 y (.inl hy) (h.good hy) hy1
      have e := lineC_inj h2 (h.good hy) (List.le_antisymm this hy2)
      rw [e]; exact hy
end Go.Proofs.Tz

/- The statements about change records: there and back. -/
set_option maxRecDepth 100000
set_option maxHeartbeats 8000000
set_option linter.unusedVariables false
set_option linter.unusedSimpArgs false
namespace Go.Proofs.Tz
open Go.Vw Go.RowKit Go.Proofs

end Go.Proofs.Tz

/- Vector of the reference. -/
set_option maxRecDepth 100000
set_option maxHeartbeats 8000000
set_option linter.unusedVariables false
set_option linter.unusedSimpArgs false
namespace Go.Proofs.Tz
open Go.Vw Go.RowKit Go.Proofs

def newer (c : Csn) : Option Csn → Bool
  | none => true
  | some x => decide (0 < cmpC c x)
def bestS (r : Int) (a : Option Csn) (c : Csn) : Option Csn := if validC c = true ∧ c.2.2 = r ∧ newer c a = true then some c else a
def bestT (l : List Chg) (r : Int) (k : Nat) : Option Csn := (l.take k).foldl (fun a c => bestS r a c.1) none
theorem bestT_succ {l : List Chg} {r : Int} {k : Nat} (h : k < l.length) : bestT l r (k + 1) = bestS r (bestT l r k) l[k].1 := by
  unfold bestT; rw [take_s h, List.foldl_append]; rfl
def vecK (l : List Chg) (n : Nat) : List Csn := (List.range n).filterMap fun (r : Nat) => bestT l r l.length
end Go.Proofs.Tz

/- slices.Insert of one number, in front of another. -/
set_option linter.unusedVariables false
set_option linter.unusedSimpArgs false
namespace Go.Proofs.Tz
open Go.Vw Go.RowKit Go.Proofs Go.Lib

/-- copy of elements of several cells. -/
theorem run_copy_rowM {P : Program} (w : World) (dT sT ty elem : TypeId) (sz g o dLen dCap : Nat) (a : Addr) (sLen sCap : Nat) (cur : Array Value) (t : TypeId) (cs : List Value)
    (hu : P.underlying dT = some (.slice elem)) (hs : (P.info? elem).map (·.size) = some sz)
    (hg : w.heap[g]? = some (.cells cur t (0, 0))) (hn : cs.length = Nat.min sLen dLen * sz)
    (hsrc : ∀ j v, cs[j]? = some v → w.cell? (a.add j) = some v) (hfit : o + cs.length ≤ cur.size) (h1 : ∀ v ∈ cs, v.oneCell' = true) :
    (Builtin.copy_ #[dT, sT] ty #[.slice (some ⟨g, o, none⟩) dLen dCap, .slice (some a) sLen sCap]).run P w =
      .ok (goInt (Nat.min sLen dLen)) (w.setRow g (cur.toList.take o ++ cs ++ cur.toList.drop (o + cs.length)).toArray) := by
  have hl := run_loadCells_list (P := P) w a cs hsrc
  have hst := run_storeCells_at P g o t cs 0 cur w hg (by simpa using hfit) h1
  cases hq : P.info? elem with
  | none => simp [hq] at hs
  | some i =>
    have hi : i.size = sz := by simpa [hq] using hs
    simp [Builtin.copy_, run_underlying hu, Builtin.lenOf, Builtin.firstCells, sizeOf, typeInfo, hq, hi, ← hn, hl, hst]

theorem zc_size (z : Value) (m k : Nat) (h : z.cells.size = k) : (Builtin.zeroCells z.cells m).size = m * k := by simp [Builtin.zeroCells, h]
theorem setRow_alloc (w : World) (C C' : Array Value) (t : TypeId) : (w.alloc (.cells C t)).setRow w.heap.size C' = w.alloc (.cells C' t) := by
  unfold World.setRow World.alloc
  congr 1
  apply Array.ext
  · simp
  · intro k h1 h2
    simp only [Array.getElem_modify, Array.getElem_push]
    split
    · rename_i hk; subst hk; simp
    · split
      · rfl
      · exfalso; simp at h2; omega

set_option maxHeartbeats 8000000 in
set_option maxRecDepth 1000000 in
theorem ins_grow (w : World) (b c n i vb vc : Nat) (cs vs : List Value) (hi : i < n) (hnc : n ≤ c) (hroom : c < n + 1) (hn : n < 1000) (hcl : cs.length = n * 3) (hvl : vs.length = 3)
    (hcs : ∀ j v, cs[j]? = some v → w.cell? ⟨b, j, none⟩ = some v) (hvs : ∀ j v, vs[j]? = some v → w.cell? ⟨vb, j, none⟩ = some v) (h1c : ∀ v ∈ cs, v.oneCell' = true) (h1v : ∀ v ∈ vs, v.oneCell' = true) (hb : b < w.heap.size) (hvb : vb < w.heap.size) :
    Calls Tryz.prog 76 #[.slice (some ⟨b, 0, none⟩) n c, .int .i64 i, .slice (some ⟨vb, 0, none⟩) 1 vc] w fun e w' => ∃ G C d, e = .returned (.slice (some ⟨w.heap.size, 0, none⟩) (n + 1) G) ∧ w' = { (w.alloc (.cells C 23)) with drawn := d } ∧ w.drawn ≤ d ∧
      C.toList.take ((n + 1) * 3) = cs.take (i * 3) ++ vs ++ cs.drop (i * 3) ∧ n + 1 ≤ G ∧ G ≤ maxLen ∧ G * 3 ≤ C.size := by
  obtain ⟨i0, z, f1, f2, f3, f4, f5, f6⟩ := esz_parts Tryz.ez_23
  have hsz : (Tryz.prog.info? 23).map (·.size) = some 3 := by rw [f1]; simp [f3]
  have hz1 : ¬ ((i : Int) = (n : Int)) := by omega
  have hz3 : (c : Int) < (n : Int) + 1 := by omega
  have hkk : (n : Int) + 1 - (i : Int) = ((n + 1 - i : Nat) : Int) := by omega
  have hik : i + (n + 1 - i) = n + 1 := by omega
  have hold : (Builtin.firstCells i0.size i (.slice (some ⟨b, 0, none⟩) i c)).run Tryz.prog w.drew = .ok (cs.take (i * 3)).toArray w.drew := by
    rw [f3]
    have h := run_loadCells_list (P := Tryz.prog) w.drew ⟨b, 0, none⟩ (cs.take (i * 3)) (fun j v hj => by
      rw [Addr.add_lit, Nat.zero_add]
      rw [List.getElem?_take] at hj
      split at hj
      · exact hcs j v hj
      · cases hj)
    rw [List.length_take, Nat.min_eq_left (by omega)] at h
    simpa [Builtin.firstCells] using h
  have hrz : ∀ ty, (Builtin.append_ #[39, 3] ty #[.slice (some ⟨b, 0, none⟩) i c, .int .i64 ((n : Int) + 1 - (i : Int))]).run Tryz.prog w =
      .ok (.slice (some ⟨w.heap.size, 0, none⟩) (n + 1) (grownCap w (n + 1) c 23)) (w.drew.alloc (.cells ((cs.take (i * 3)).toArray ++ Builtin.zeroCells z.cells (n + 1 - i) ++ Builtin.zeroCells z.cells (grownCap w (n + 1) c 23 - (n + 1))) 23)) := fun ty => by
    have h := Lib.run_append_grow_zeros (P := Tryz.prog) w 39 3 ty 23 i0 z .i64 .i64 Tryz.underlying39 Tryz.underlying3 f1 f2 (some ⟨b, 0, none⟩) i c (cs.take (i * 3)) hold (n + 1 - i) (by omega) (by omega) (by omega) (by omega) (by rw [f4]; omega) (by rw [f4, hik]; exact growslice_fits hroom (by omega))
    rw [hik] at h
    rw [hkk]
    exact h
  have hGn := grownCap_ge w (n + 1) c 23
  have hGm := grownCap_le_maxLen w (n + 1) c 23 (by unfold maxLen; omega)
  obtain ⟨G, hG⟩ : ∃ G, G = grownCap w (n + 1) c 23 := ⟨_, rfl⟩
  obtain ⟨ROW, hROW⟩ : ∃ ROW : Array Value, ROW = (cs.take (i * 3)).toArray ++ Builtin.zeroCells z.cells (n + 1 - i) ++ Builtin.zeroCells z.cells (G - (n + 1)) := ⟨_, rfl⟩
  rw [← hG] at hrz hGn hGm
  rw [← hROW] at hrz
  have hRl : ROW.size = G * 3 := by
    rw [hROW, Array.size_append, Array.size_append, zc_size _ _ _ f5, zc_size _ _ _ f5]
    have : (cs.take (i * 3)).toArray.size = i * 3 := by simp; omega
    rw [this]; omega
  have hRt : ROW.toList.take (i * 3) = cs.take (i * 3) := by
    have e : ROW.toList = cs.take (i * 3) ++ ((Builtin.zeroCells z.cells (n + 1 - i)).toList ++ (Builtin.zeroCells z.cells (G - (n + 1))).toList) := by
      rw [hROW, Array.toList_append, Array.toList_append, List.append_assoc]
    have hl : (cs.take (i * 3)).length = i * 3 := by rw [List.length_take]; omega
    rw [e, List.take_append_of_le_length (by omega), List.take_of_length_le (by omega)]
  obtain ⟨W1, hW1⟩ : ∃ W1, W1 = w.drew.alloc (.cells ROW 23) := ⟨_, rfl⟩
  obtain ⟨R2, hR2⟩ : ∃ R2 : Array Value, R2 = (ROW.toList.take (i * 3) ++ vs ++ ROW.toList.drop (i * 3 + vs.length)).toArray := ⟨_, rfl⟩
  obtain ⟨R3, hR3⟩ : ∃ R3 : Array Value, R3 = (R2.toList.take ((i + 1) * 3) ++ cs.drop (i * 3) ++ R2.toList.drop ((i + 1) * 3 + (cs.drop (i * 3)).length)).toArray := ⟨_, rfl⟩
  have hR2l : R2.size = G * 3 := by rw [hR2]; simp [hvl]; omega
  have hdl : (cs.drop (i * 3)).length = (n - i) * 3 := by rw [List.length_drop, hcl]; omega
  have hR3l : R3.size = G * 3 := by rw [hR3]; simp [hdl]; omega
  have hfin : R3.toList.take ((n + 1) * 3) = cs.take (i * 3) ++ vs ++ cs.drop (i * 3) := by
    have e1 : R2.toList.take ((i + 1) * 3) = cs.take (i * 3) ++ vs := by
      rw [hR2]
      simp only []
      rw [← hRt]
      rw [List.take_append_of_le_length (by simp [hvl]; omega), List.take_of_length_le (by simp [hvl]; omega)]
    rw [hR3]
    simp only []
    rw [List.take_append_of_le_length (by simp [hdl, hR2l]; omega), List.take_of_length_le (by simp [hdl, hR2l]; omega), e1]
  have hcpA : ∀ (d : Nat) ty dc, (Builtin.copy_ #[39, 39] ty #[.slice (some ⟨w.heap.size, i * 3, none⟩) (n + 1 - i) dc, .slice (some ⟨vb, 0, none⟩) 1 vc]).run Tryz.prog { (w.alloc (.cells ROW 23)) with drawn := d } = .ok (goInt 1) { (w.alloc (.cells R2 23)) with drawn := d } := fun d ty dc => by
    have h := run_copy_rowM (P := Tryz.prog) { (w.alloc (.cells ROW 23)) with drawn := d } 39 39 ty 23 3 w.heap.size (i * 3) (n + 1 - i) dc ⟨vb, 0, none⟩ 1 vc ROW 23 vs Tryz.underlying39 hsz (by show (w.heap.push (.cells ROW 23))[w.heap.size]? = _; rw [Array.getElem?_push, if_pos rfl]) (by rw [hvl]; simp only [Nat.min_def]; split <;> omega)
      (fun j v hj => by rw [Addr.add_lit, Nat.zero_add]; exact (World.cell?_alloc_past (w := w) _ vb j hvb).trans (hvs j v hj)) (by rw [hvl, hRl]; omega) h1v
    have hm : Nat.min 1 (n + 1 - i) = 1 := by simp only [Nat.min_def]; split <;> omega
    rw [hm, ← hR2] at h
    rw [h]
    have := setRow_alloc { w with drawn := d } ROW R2 23
    exact congrArg (Result.ok (goInt 1)) this
  have hcpB : ∀ (d : Nat) ty dc sc, (Builtin.copy_ #[39, 39] ty #[.slice (some ⟨w.heap.size, (i + 1) * 3, none⟩) (n + 1 - (i + 1)) dc, .slice (some ⟨b, i * 3, none⟩) (n - i) sc]).run Tryz.prog { (w.alloc (.cells R2 23)) with drawn := d } = .ok (goInt ((n - i : Nat) : Int)) { (w.alloc (.cells R3 23)) with drawn := d } := fun d ty dc sc => by
    have h := run_copy_rowM (P := Tryz.prog) { (w.alloc (.cells R2 23)) with drawn := d } 39 39 ty 23 3 w.heap.size ((i + 1) * 3) (n + 1 - (i + 1)) dc ⟨b, i * 3, none⟩ (n - i) sc R2 23 (cs.drop (i * 3)) Tryz.underlying39 hsz (by show (w.heap.push (.cells R2 23))[w.heap.size]? = _; rw [Array.getElem?_push, if_pos rfl]) (by rw [hdl]; simp only [Nat.min_def]; split <;> omega)
      (fun j v hj => by rw [Addr.add_lit]; exact (World.cell?_alloc_past (w := w) _ b _ hb).trans (hcs (i * 3 + j) v (by rwa [List.getElem?_drop] at hj))) (by rw [hdl, hR2l]; omega) (fun v hv => h1c v (List.mem_of_mem_drop hv))
    have hm : Nat.min (n - i) (n + 1 - (i + 1)) = n - i := by simp only [Nat.min_def]; split <;> omega
    rw [hm, ← hR3] at h
    rw [h]
    have := setRow_alloc { w with drawn := d } R2 R3 23
    exact congrArg (Result.ok (goInt ((n - i : Nat) : Int))) this
  have hw1 : IntKind.i64.wrap ((i : Int) + 1) = (i : Int) + 1 := by rw [IntKind.wrap_i64]; omega
  have hw2 : IntKind.i64.wrap ((n : Int) + 1) = (n : Int) + 1 := by rw [IntKind.wrap_i64]; omega
  have hw3 : IntKind.i64.wrap ((n : Int) + 1 - i) = (n : Int) + 1 - i := by rw [IntKind.wrap_i64]; omega
  have hb1 : (0 : Int) ≤ (i : Int) + 1 := by omega
  have hin : i ≤ n := by omega
  have htn : ((i : Int) + 1).toNat = i + 1 := by omega
  have hGi : ¬ (G = i) := by omega
  have hGim : ¬ (G = i + 1) := by omega
  have hci : ¬ (c = i) := by omega
  have hb3 : (i : Int) ≤ (n : Int) := by omega
  have hb4 : (i : Int) + 1 ≤ (n : Int) + 1 := by omega
  have mixed : Tryz.prog.follows .mixedOrders = true := by kernel_rfl
  have hR3s : G * 3 ≤ R3.size := by omega
  clear hkk hik hold hROW hG hRl hRt hR2 hR3 hR2l hR3l
  have hrz2 := hrz
  subst hW1
  have hcpA' : ∀ ty dc, (Builtin.copy_ #[39, 39] ty #[.slice (some ⟨w.heap.size, i * 3, none⟩) (n + 1 - i) dc, .slice (some ⟨vb, 0, none⟩) 1 vc]).run Tryz.prog (w.alloc (.cells ROW 23)).drew = .ok (goInt 1) (w.alloc (.cells R2 23)).drew := fun ty dc => hcpA (w.drawn + 1) ty dc
  have hcpB' : ∀ ty dc sc, (Builtin.copy_ #[39, 39] ty #[.slice (some ⟨w.heap.size, (i + 1) * 3, none⟩) (n + 1 - (i + 1)) dc, .slice (some ⟨b, i * 3, none⟩) (n - i) sc]).run Tryz.prog (w.alloc (.cells R2 23)).drew.drew = .ok (goInt ((n - i : Nat) : Int)) (w.alloc (.cells R3 23)).drew.drew := fun ty dc sc => hcpB (w.drawn + 1 + 1) ty dc sc
  go_enter Tryz.func76, Tryz.ntmps76
  go_wp2_with (first
    | (at_builtin; refine Lib.wpList_append_run _ rfl _ _ _ _ rfl _ _ rfl rfl _ _ (hrz _) ?_)
    | (at_builtin; refine wpList_copy_runI _ rfl _ _ 39 39 rfl _ _ rfl rfl (hcpA' _ _) ?_))
  go_region_law_o (refine step_copy_runI rfl _ _ 39 39 rfl (.slice (some ⟨w.heap.size, (i + 1) * 3, none⟩) (n + 1 - (i + 1)) (G - (i + 1))) (.slice (some ⟨b, i * 3, none⟩) (n - i) (c - i)) (by simp [Act.eval, Act.put]) (by simp [Act.eval, Act.put]) (hcpB' 3 (G - (i + 1)) (c - i)) ?_)
  go_wp2
  go_ret
  exact ⟨G, R3, w.drawn + 1 + 1, rfl, rfl, by omega, hfin, hGn, hGm, hR3s⟩
end Go.Proofs.Tz

/- slices.Insert of one number, in front of another, where there is room. -/
set_option linter.unusedVariables false
set_option linter.unusedSimpArgs false
namespace Go.Proofs.Tz
open Go.Vw Go.RowKit Go.Proofs Go.Lib

set_option maxHeartbeats 8000000 in
set_option maxRecDepth 1000000 in
theorem ins_shift (w : World) (b c n i vb vc : Nat) (cur cur2 : Array Value) (cs vs : List Value) (hi : i < n) (hroom : n + 1 ≤ c) (hn : n < 1000) (hcl : cs.length = n * 3) (hvl : vs.length = 3) (hc : c ≤ 9223372036854775807)
    (hh : w.heap[b]? = some (.cells cur 23 (0, 0))) (hh2 : w.heap[vb]? = some (.cells cur2 23 (0, 0))) (hne : vb ≠ b) (hsz1 : c * 3 ≤ cur.size) (hcs : cur.toList.take (n * 3) = cs) (hvs : cur2.toList.take 3 = vs)
    (h1c : ∀ v ∈ cs, v.oneCell' = true) (h1v : ∀ v ∈ vs, v.oneCell' = true) :
    Calls Tryz.prog 76 #[.slice (some ⟨b, 0, none⟩) n c, .int .i64 i, .slice (some ⟨vb, 0, none⟩) 1 vc] w fun e w' => ∃ C d, e = .returned (.slice (some ⟨b, 0, none⟩) (n + 1) c) ∧ w' = { (w.setRow b C) with drawn := d } ∧ w.drawn ≤ d ∧
      C.toList.take ((n + 1) * 3) = cs.take (i * 3) ++ vs ++ cs.drop (i * 3) ∧ C.size = cur.size := by
  obtain ⟨i0, z, f1, f2, f3, f4, f5, f6⟩ := esz_parts Tryz.ez_23
  have hsz : (Tryz.prog.info? 23).map (·.size) = some 3 := by rw [f1]; simp [f3]
  have hz1 : ¬ ((i : Int) = (n : Int)) := by omega
  have hz3 : ¬ ((c : Int) < (n : Int) + 1) := by omega
  have hdl : (cs.drop (i * 3)).length = (n - i) * 3 := by rw [List.length_drop, hcl]; omega
  obtain ⟨R2, hR2⟩ : ∃ R2 : Array Value, R2 = (cur.toList.take ((i + 1) * 3) ++ cs.drop (i * 3) ++ cur.toList.drop ((i + 1) * 3 + (cs.drop (i * 3)).length)).toArray := ⟨_, rfl⟩
  obtain ⟨R3, hR3⟩ : ∃ R3 : Array Value, R3 = (R2.toList.take (i * 3) ++ vs ++ R2.toList.drop (i * 3 + vs.length)).toArray := ⟨_, rfl⟩
  have hR2l : R2.size = cur.size := by rw [hR2]; simp [hdl]; omega
  have hR3l : R3.size = cur.size := by rw [hR3]; simp [hvl]; omega
  have hcc : cur.toList.length = cur.size := Array.length_toList
  have hfin : R3.toList.take ((n + 1) * 3) = cs.take (i * 3) ++ vs ++ cs.drop (i * 3) := by
    have e1 : R2.toList.take (i * 3) = cs.take (i * 3) := by
      rw [hR2]
      simp only []
      rw [List.append_assoc, List.take_append_of_le_length (by simp; omega), List.take_take, ← hcs, List.take_take]
      congr 1; omega
    have e2 : R2.toList.drop (i * 3 + vs.length) = cs.drop (i * 3) ++ cur.toList.drop ((i + 1) * 3 + (cs.drop (i * 3)).length) := by
      have hl : (cur.toList.take ((i + 1) * 3)).length = i * 3 + vs.length := by rw [List.length_take, hvl, hcc]; omega
      rw [hR2]
      simp only []
      rw [List.append_assoc, ← hl, List.drop_left]
    rw [hR3]
    simp only []
    rw [e1, e2]
    have hl2 : (cs.take (i * 3) ++ vs ++ cs.drop (i * 3)).length = (n + 1) * 3 := by simp only [List.length_append, List.length_take, hdl, hvl, hcl]; omega
    rw [← List.append_assoc, ← hl2, List.take_left]
  have hcell : ∀ k v, cs[k]? = some v → w.cell? ⟨b, k, none⟩ = some v := fun k v hk => by
    rw [← hcs, List.getElem?_take] at hk
    split at hk
    · simp only [World.cell?, hh]; simpa using hk
    · cases hk
  have hcell2 : ∀ k v, vs[k]? = some v → w.cell? ⟨vb, k, none⟩ = some v := fun k v hk => by
    rw [← hvs, List.getElem?_take] at hk
    split at hk
    · simp only [World.cell?, hh2]; simpa using hk
    · cases hk
  have hcpA : ∀ ty dc sc, (Builtin.copy_ #[39, 39] ty #[.slice (some ⟨b, (i + 1) * 3, none⟩) (n + 1 - (i + 1)) dc, .slice (some ⟨b, i * 3, none⟩) (n + 1 - i) sc]).run Tryz.prog w.drew = .ok (goInt ((n - i : Nat) : Int)) (w.setRow b R2).drew := fun ty dc sc => by
    have h := run_copy_rowM (P := Tryz.prog) w.drew 39 39 ty 23 3 b ((i + 1) * 3) (n + 1 - (i + 1)) dc ⟨b, i * 3, none⟩ (n + 1 - i) sc cur 23 (cs.drop (i * 3)) Tryz.underlying39 hsz hh (by rw [hdl]; simp only [Nat.min_def]; split <;> omega)
      (fun j v hj => by rw [Addr.add_lit]; exact hcell (i * 3 + j) v (by rwa [List.getElem?_drop] at hj)) (by rw [hdl]; omega) (fun v hv => h1c v (List.mem_of_mem_drop hv))
    have hm : Nat.min (n + 1 - i) (n + 1 - (i + 1)) = n - i := by simp only [Nat.min_def]; split <;> omega
    rw [hm, ← hR2] at h
    exact h
  have hlt : b < w.heap.size := (Array.getElem?_eq_some_iff.1 hh).1
  have hh3 : (w.setRow b R2).heap[b]? = some (.cells R2 23 (0, 0)) := setRow_heap w b cur R2 23 (0, 0) hh
  have hh4 : (w.setRow b R2).heap[vb]? = some (.cells cur2 23 (0, 0)) := by
    show (w.heap.modify b _)[vb]? = _
    rw [Array.getElem?_modify, if_neg (by omega)]; exact hh2
  have hcpB : ∀ ty dc, (Builtin.copy_ #[39, 39] ty #[.slice (some ⟨b, i * 3, none⟩) (n + 1 - i) dc, .slice (some ⟨vb, 0, none⟩) 1 vc]).run Tryz.prog (w.setRow b R2).drew = .ok (goInt 1) (w.setRow b R3).drew := fun ty dc => by
    have h := run_copy_rowM (P := Tryz.prog) (w.setRow b R2).drew 39 39 ty 23 3 b (i * 3) (n + 1 - i) dc ⟨vb, 0, none⟩ 1 vc R2 23 vs Tryz.underlying39 hsz hh3 (by rw [hvl]; simp only [Nat.min_def]; split <;> omega)
      (fun j v hj => by
        rw [Addr.add_lit, Nat.zero_add]
        show (w.setRow b R2).cell? _ = _
        have := hcell2 j v hj
        simp only [World.cell?, hh4]; simpa only [World.cell?, hh2] using this) (by rw [hvl, hR2l]; omega) h1v
    have hm : Nat.min 1 (n + 1 - i) = 1 := by simp only [Nat.min_def]; split <;> omega
    rw [hm, ← hR3] at h
    rw [h]
    have : ((w.setRow b R2).drew).setRow b R3 = (w.setRow b R3).drew := by
      show ((w.setRow b R2).setRow b R3).drew = _
      rw [setRow_setRow]
    exact congrArg (Result.ok (goInt ((1 : Nat) : Int))) this
  have hov : ∀ lb cb, (callFunc 125 #[.slice (some ⟨vb, 0, none⟩) 1 vc, .slice (some ⟨b, (i + 1) * 3, none⟩) lb cb]).run Tryz.prog w = .ok (.value (.bool false)) w := fun lb cb => by
    rw [run_callFunc_extern Tryz.func125 (by kernel_rfl) (by kernel_rfl) (by kernel_rfl) (e := Extern.SlicesOverlaps.overlaps #[39, 39] #[4]) (by kernel_rfl),
      Lib.run_overlaps_apart w 39 4 23 Tryz.underlying39 3 (fun w => by simp [sizeOf, typeInfo, f1, f3]) ⟨vb, 0, none⟩ ⟨b, (i + 1) * 3, none⟩ 1 vc lb cb hne 23 23 cur2.size cur.size (by simp [World.shape?, hh2]) (by simp [World.shape?, hh]) (by omega) (by simp [World.frozen?, hh2]) (by simp [World.frozen?, hh2])]
    rfl
  have hw1 : IntKind.i64.wrap ((i : Int) + 1) = (i : Int) + 1 := by rw [IntKind.wrap_i64]; omega
  have hw2 : IntKind.i64.wrap ((n : Int) + 1) = (n : Int) + 1 := by rw [IntKind.wrap_i64]; omega
  have hb1 : (0 : Int) ≤ (i : Int) + 1 := by omega
  have hb0 : (0 : Int) ≤ (n : Int) + 1 := by omega
  have hin : i ≤ n := by omega
  have htn : ((i : Int) + 1).toNat = i + 1 := by omega
  have htn2 : ((n : Int) + 1).toNat = n + 1 := by omega
  have hci : ¬ (c = i) := by omega
  have hci1 : ¬ (c = i + 1) := by omega
  have hb3 : (i : Int) ≤ (n : Int) := by omega
  have hb4 : (i : Int) + 1 ≤ (n : Int) + 1 := by omega
  have hb5 : (i : Int) ≤ (n : Int) + 1 := by omega
  have hb6 : (n : Int) + 1 ≤ (c : Int) := by omega
  have mixed : Tryz.prog.follows .mixedOrders = true := by kernel_rfl
  clear hR2 hR3 hR2l hcc hdl
  go_enter Tryz.func76, Tryz.ntmps76
  go_wp2_with (simp only [hov])
  go_region_law_o (refine step_copy_runI rfl _ _ 39 39 rfl (.slice (some ⟨b, (i + 1) * 3, none⟩) (n + 1 - (i + 1)) (c - (i + 1))) (.slice (some ⟨b, i * 3, none⟩) (n + 1 - i) (c - i)) (by simp [Act.eval, Act.put]) (by simp [Act.eval, Act.put]) (hcpA 3 (c - (i + 1)) (c - i)) ?_)
  go_wp2_with (at_builtin; refine wpList_copy_runI _ rfl _ _ 39 39 rfl _ _ rfl rfl (hcpB _ _) ?_)
  go_ret
  exact ⟨R3, w.drawn + 1, rfl, rfl, by omega, hfin, hR3l⟩
end Go.Proofs.Tz

/- slices.Insert's contract. -/
set_option linter.unusedVariables false
set_option linter.unusedSimpArgs false
namespace Go.Proofs.Tz
open Go.Vw Go.RowKit Go.Proofs Go.Lib

theorem take_flat {k : Nat} : ∀ {css : List (List Value)}, (∀ c ∈ css, c.length = k) → ∀ i, (css.take i).flatten = css.flatten.take (i * k)
  | [], _, i => by simp
  | c :: css, h, 0 => by simp
  | c :: css, h, i + 1 => by
    have h1 := h c (by simp)
    have e1 : c.take ((i + 1) * k) = c := List.take_of_length_le (by rw [h1, Nat.succ_mul]; omega)
    have e2 : (i + 1) * k - k = i * k := by rw [Nat.succ_mul]; omega
    rw [List.take_succ_cons, List.flatten_cons, List.flatten_cons, take_flat (fun x hx => h x (by simp [hx])) i, List.take_append, e1, h1, e2]
theorem drop_flat {k : Nat} : ∀ {css : List (List Value)}, (∀ c ∈ css, c.length = k) → ∀ i, (css.drop i).flatten = css.flatten.drop (i * k)
  | [], _, i => by simp
  | c :: css, h, 0 => by simp
  | c :: css, h, i + 1 => by
    have h1 := h c (by simp)
    have e1 : c.drop ((i + 1) * k) = [] := List.drop_of_length_le (by rw [h1, Nat.succ_mul]; omega)
    have e2 : (i + 1) * k - k = i * k := by rw [Nat.succ_mul]; omega
    rw [List.drop_succ_cons, List.flatten_cons, drop_flat (fun x hx => h x (by simp [hx])) i, List.drop_append, e1, h1, e2, List.nil_append]
theorem info_23 : (Tryz.prog.info? (ety 23)).map (·.size) = some 3 := by kernel_rfl

set_option maxHeartbeats 2000000 in
theorem insertV_fn (l : List Csn) (i : Nat) (x : Csn) (hi : i < l.length) (hl : l.length < 1000) : Ctr2 Tryz.prog 76 23 (l.map csnD) [.d (.int .i64 i)] 23 [csnD x] (.own true 23 ((l.take i ++ x :: l.drop i).map csnD)) := by
  refine ⟨enters_of Tryz.func76 (by kernel_rfl) rfl, fun w L og og2 v v2 vals hlok hgl h1 h2 hog hog2 hne hlt hrc => ?_⟩
  simp only [RCs] at hrc
  obtain ⟨v3, us, rfl, h3, rfl⟩ := hrc
  obtain rfl : v3 = .int .i64 i := RepV.int_inv h3
  obtain ⟨css, sz, a1, a2, a3, a4, a5⟩ := h1
  rw [info_23] at a1
  obtain rfl : 3 = sz := Option.some.inj a1
  obtain ⟨dss, sz, b1, b2, b3, b4, b5⟩ := h2
  rw [info_23] at b1
  obtain rfl : 3 = sz := Option.some.inj b1
  have hcount := a2.count
  have hcount2 := b2.count
  simp only [List.length_map] at hcount a4 a5
  simp only [List.length_cons, List.length_nil, Nat.zero_add] at hcount2 b4 b5
  obtain ⟨c1, c2⟩ := a4
  obtain ⟨d1, d2⟩ := b4
  rcases c2 with ⟨_, hn⟩ | ⟨b, c, cur, rfl, hh, hnc, hcm, hsz1, htk⟩
  · omega
  rcases d2 with ⟨_, hn⟩ | ⟨vb, vc, cur2, rfl, hh2, hnc2, hcm2, hsz2, htk2⟩
  · omega
  rw [ety_lt (by decide), mk_lt (by decide)] at hh hh2
  obtain rfl : some b = og := hog
  obtain rfl : some vb = og2 := hog2
  have hbv : vb ≠ b := fun e => hne b rfl (by rw [e])
  have hb := hlt b (.inl rfl)
  have hvb := hlt vb (.inr rfl)
  have hLb : ∀ q, ¬ L b q := fun q hq => by have := ((a5 b rfl).2 q).1 hq; simp at this
  have hone := RepL.ones _ _ a2
  have hone2 := RepL.ones _ _ b2
  have hcat : RepL w L ((l.take i ++ x :: l.drop i).map csnD) (css.take i ++ dss ++ css.drop i) := by
    have h4 := (a2.take i).append (b2.append (a2.drop i))
    rw [List.append_assoc]
    simpa [List.map_append, List.map_take, List.map_drop] using h4
  have hall : ∀ c ∈ css.take i ++ dss ++ css.drop i, c.length = 3 := fun c hc => by
    rcases List.mem_append.1 hc with hc | hc
    · rcases List.mem_append.1 hc with hc | hc
      · exact a3 c (List.mem_of_mem_take hc)
      · exact b3 c hc
    · exact a3 c (List.mem_of_mem_drop hc)
  have hflat : (css.take i ++ dss ++ css.drop i).flatten = css.flatten.take (i * 3) ++ dss.flatten ++ css.flatten.drop (i * 3) := by
    rw [List.flatten_append, List.flatten_append, take_flat a3, drop_flat a3]
  have hlen : ((l.take i ++ x :: l.drop i).map csnD).length = l.length + 1 := by simp; omega
  have hfl : (css.take i ++ dss ++ css.drop i).flatten.length = (l.length + 1) * 3 := by
    rw [hflat]; simp only [List.length_append, List.length_take, List.length_drop, c1, d1]; omega
  by_cases hroom : l.length + 1 ≤ c
  · refine (ins_shift w b c l.length i vb vc cur cur2 css.flatten dss.flatten hi hroom (by omega) c1 (by simpa using d1) (by unfold maxLen at hcm; omega) hh hh2 hbv hsz1 htk (by simpa using htk2) hone hone2).mono ?_
    rintro e w' ⟨C, d, rfl, rfl, hd, hC, hCs⟩
    have hold : ∀ k, k ≠ b → (w.setRow b C).heap[k]? = w.heap[k]? := fun k hk => by
      show (w.heap.modify b _)[k]? = _
      rw [Array.getElem?_modify, if_neg (by omega)]
    have hhC : (w.setRow b C).heap[b]? = some (.cells C 23 (0, 0)) := setRow_heap w b cur C 23 (0, 0) hh
    have hszh : (w.setRow b C).heap.size = w.heap.size := by
      show (w.heap.modify b _).size = _
      simp
    have hext : Ext w L { (w.setRow b C) with drawn := d } L := fun k q hq => ⟨hq, fun u hu => by
      have hk : k ≠ b := fun e => hLb q (e ▸ hq)
      simp only [World.cell?] at hu ⊢
      rw [hold k hk]
      exact hu⟩
    refine ⟨_, L, some b, rfl, ⟨rfl, rfl, rfl, by rw [show ({ (w.setRow b C) with drawn := d } : World).heap.size = w.heap.size from hszh]; exact Nat.le_refl _, fun k hk hn => hold k (fun e => hn (.inl (by rw [e]))), hd⟩,
      fun k q hq => by rw [show ({ (w.setRow b C) with drawn := d } : World).heap.size = w.heap.size from hszh]; exact hlok k q hq, fun _ _ _ _ => Iff.rfl, fun g hg => ?_, ⟨css.take i ++ dss ++ css.drop i, 3, info_23, RepL.mono hext _ _ hcat, hall, ⟨by rw [hfl, hlen], .inr ⟨b, c, C, by rw [hlen], by rw [ety_lt (by decide), mk_lt (by decide)]; exact hhC, by rw [hlen]; exact hroom, hcm, by omega, by rw [hlen, hC, hflat]⟩⟩, fun g hg => ?_⟩⟩
    · obtain rfl := Option.some.inj hg
      exact ⟨by rw [show ({ (w.setRow b C) with drawn := d } : World).heap.size = w.heap.size from hszh]; exact hb, .inr (.inl rfl)⟩
    · obtain rfl : b = g := by simpa [Value.ownBlock] using hg
      exact ⟨rfl, fun o => ⟨fun h => absurd h (hLb o), fun h => by simp at h⟩⟩
  · refine (ins_grow w b c l.length i vb vc css.flatten dss.flatten hi hnc (by omega) (by omega) c1 (by simpa using d1) (fun k u hk => ?_) (fun k u hk => ?_) hone hone2 hb hvb).mono ?_
    · rw [← htk, List.getElem?_take] at hk
      split at hk
      · simp only [World.cell?, hh]; simpa using hk
      · cases hk
    · rw [← htk2, List.getElem?_take] at hk
      split at hk
      · simp only [World.cell?, hh2]; simpa using hk
      · cases hk
    rintro e w' ⟨G, C, d, rfl, rfl, hd, hC, hG1, hG2, hG3⟩
    have hszh : (w.alloc (.cells C 23)).heap.size = w.heap.size + 1 := size_alloc _ _
    have hold : ∀ k, k < w.heap.size → (w.alloc (.cells C 23)).heap[k]? = w.heap[k]? := fun k hk => Lib.alloc_old w _ k hk
    have hgk : (w.alloc (.cells C 23)).heap[w.heap.size]? = some (.cells C 23 (0, 0)) := by
      show (w.heap.push (.cells C 23))[w.heap.size]? = _
      rw [Array.getElem?_push, if_pos rfl]
    have hfree : ∀ q, ¬ L w.heap.size q := fun q hq => by have := hlok _ q hq; omega
    have hext : Ext w L { (w.alloc (.cells C 23)) with drawn := d } L := fun k q hq => ⟨hq, fun u hu => by
      have hk := hlok k q hq
      simp only [World.cell?] at hu ⊢
      rw [hold k hk]
      exact hu⟩
    have hs2 : ({ (w.alloc (.cells C 23)) with drawn := d } : World).heap.size = w.heap.size + 1 := hszh
    refine ⟨_, L, some w.heap.size, rfl, ⟨rfl, rfl, rfl, by rw [hs2]; omega, fun k hk hn => hold k hk, hd⟩,
      fun k q hq => by rw [hs2]; have := hlok k q hq; omega, fun _ _ _ _ => Iff.rfl, fun g hg => ?_, ⟨css.take i ++ dss ++ css.drop i, 3, info_23, RepL.mono hext _ _ hcat, hall, ⟨by rw [hfl, hlen], .inr ⟨w.heap.size, G, C, by rw [hlen], by rw [ety_lt (by decide), mk_lt (by decide)]; exact hgk, by rw [hlen]; exact hG1, hG2, hG3, by rw [hlen, hC, hflat]⟩⟩, fun g hg => ?_⟩⟩
    · obtain rfl := Option.some.inj hg
      exact ⟨by rw [hs2]; omega, .inl (Nat.le_refl _)⟩
    · obtain rfl : w.heap.size = g := by simpa [Value.ownBlock] using hg
      exact ⟨rfl, fun o => ⟨fun h => absurd h (hfree o), fun h => by simp at h⟩⟩
end Go.Proofs.Tz

/- change.Vector. -/
set_option maxRecDepth 100000
set_option maxHeartbeats 8000000
set_option linter.unusedVariables false
set_option linter.unusedSimpArgs false
namespace Go.Proofs.Tz
open Go.Vw Go.RowKit Go.Proofs

def vecIns (c : Csn) : List Csn → List Csn
  | [] => [c]
  | x :: V => if c.2.2 ≤ x.2.2 then (if c.2.2 < x.2.2 then c :: x :: V else if cmpC x c < 0 then c :: V else x :: V) else x :: vecIns c V
def vecB (c x : Csn) : Bool := decide (c.2.2 ≤ x.2.2)
theorem vecIns_idx (c : Csn) : ∀ (V : List Csn) (s : Nat), (idxG (vecB c) s V = -1 ∧ vecIns c V = V ++ [c]) ∨
    ∃ (k : Nat) (h : k < V.length), idxG (vecB c) s V = ((s + k : Nat) : Int) ∧ vecIns c V = if c.2.2 < V[k].2.2 then V.take k ++ c :: V.drop k else if cmpC V[k] c < 0 then V.set k c else V
  | [], s => .inl ⟨rfl, rfl⟩
  | x :: V, s => by
    by_cases h : c.2.2 ≤ x.2.2
    · right
      refine ⟨0, by simp, by simp [idxG, vecB, h], ?_⟩
      rw [vecIns, if_pos h]
      simp
    · have h' : vecB c x = false := by simp [vecB]; omega
      rcases vecIns_idx c V (s + 1) with ⟨h1, h2⟩ | ⟨k, hk, h1, h2⟩
      · left
        refine ⟨by rw [idxG, h']; simpa using h1, by rw [vecIns, if_neg h, h2]; rfl⟩
      · right
        refine ⟨k + 1, by simpa using hk, by rw [idxG, h']; simp only [Bool.false_eq_true, if_false]; rw [h1]; congr 1; omega, ?_⟩
        rw [vecIns, if_neg h, h2]
        simp only [List.getElem_cons_succ, List.take_succ_cons, List.drop_succ_cons, List.set_cons_succ]
        by_cases q1 : c.2.2 < V[k].2.2
        · simp only [q1, if_true, List.cons_append]
        · by_cases q2 : cmpC V[k] c < 0
          · simp only [q1, q2, if_true, if_false]
          · simp only [q1, q2, if_false]
theorem vecIns_len (c : Csn) : ∀ V : List Csn, (vecIns c V).length ≤ V.length + 1
  | [] => by simp [vecIns]
  | x :: V => by
    have := vecIns_len c V
    unfold vecIns
    (repeat' split) <;> simp <;> omega
def vecS2 (V : List Csn) (c : Csn) : List Csn := if validC c = true then vecIns c V else V
def vecG (l : List Chg) (k : Nat) : List Csn := (l.take k).foldl (fun V c => vecS2 V c.1) []
theorem vecG_succ {l : List Chg} {k : Nat} (h : k < l.length) : vecG l (k + 1) = vecS2 (vecG l k) l[k].1 := by
  unfold vecG; rw [take_s h, List.foldl_append]; rfl
theorem vecS2_len (V : List Csn) (c : Csn) : (vecS2 V c).length ≤ V.length + 1 := by
  unfold vecS2; split
  · exact vecIns_len c V
  · omega
def VgI (l : List Chg) (k : Nat) (τ : St) : Prop := τ 7 = .d (.sl (l.map chgD)) ∧ τ 8 = .d (.int .i64 l.length) ∧ τ 9 = .d (.int .i64 k) ∧ τ 3 = .own true 23 ((vecG l k).map csnD) ∧ (vecG l k).length ≤ k
set_option maxHeartbeats 20000000 in
theorem vec_fn (l : List Chg) (hl : l.length < 900) : Ctr Tryz.prog 25 [.d (chgs l)] (.own true 23 ((vecG l l.length).map csnD)) := by
  refine fn_of_vwp (fun i => i == 2 || i == 3 || i == 27 || i == 42 || i == 43 || i == 2000019 || i == 12000043) (by kernel_rfl) Tryz.func25 (by kernel_rfl) rfl rfl (Nat.le_of_ble_eq_true rfl) (by kernel_rfl) rfl rfl ?_
  simp -implicitDefEqProofs [chgs]
  refine loopN l.length (VgI l) ⟨by simp, by simp, by simp, by simp [vecG], by simp [vecG]⟩ ?_
  rintro k τ hk ⟨g7, g8, g9, g3, hV⟩
  by_cases hlt : k < l.length
  case neg =>
    have hlt' : ¬ (k : Int) < l.length := by omega
    obtain rfl : k = l.length := by omega
    simp -implicitDefEqProofs [g7, g8, g9, g3, hlt']
  have hlt' : (k : Int) < l.length := by omega
  have hs := vecG_succ hlt
  have hsl := vecS2_len (vecG l k) l[k].1
  have c1 := cvalid_fn l[k].1
  rw [← hs] at hsl
  generalize hV2 : vecG l (k + 1) = V2 at *
  generalize vecG l k = V at *
  generalize hx : l[k] = c at *
  by_cases hv : validC c.1 = true
  case neg =>
    have hv' : validC c.1 = false := by simpa using hv
    rw [vecS2, if_neg hv] at hs
    rw [hv'] at c1
    simp only [csnD] at c1
    simp -implicitDefEqProofs [g7, g8, g9, g3, hlt, hlt', hx, chgD, csnD]
    refine callK c1 ?_
    simp -implicitDefEqProofs [g7, g8, g9, g3]
    repeat refine And.intro (by omega) ?_
    exact again hlt ⟨by simp [g7, chgD, csnD], by simp [g8], by simp, by simp [g3, hV2, hs, csnD], by rw [hV2]; omega⟩
  rw [hv] at c1
  rw [vecS2, if_pos hv] at hs
  have c2 := indexC_fn 75 [.ref (chgD c)] rfl (vecB c.1) V (by omega) (fun a _ => vecQ_fn a c)
  rcases vecIns_idx c.1 V 0 with ⟨h1, h2⟩ | ⟨j, hj, h1, h2⟩
  · rw [h1] at c2
    rw [h2] at hs
    simp only [csnD] at c1
    simp only [chgD, csnD, csns] at c2
    simp -implicitDefEqProofs [g7, g8, g9, g3, hlt, hlt', hx, chgD, csnD]
    refine callK c1 ?_
    simp -implicitDefEqProofs [g7, g8, g9, g3, csnD]
    refine lendK c2 rfl ?_
    simp -implicitDefEqProofs [g7, g8, g9, g3, chgD, csnD]
    repeat refine And.intro (by omega) ?_
    exact again hlt ⟨by simp [g7, chgD, csnD], by simp [g8], by simp, by simp [g3, hV2, hs, csnD], by rw [hV2]; omega⟩
  rw [Nat.zero_add] at h1
  rw [h1] at c2
  have hj' : ¬ ((j : Int) < 0) := by omega
  have hjj : V[j]? = some V[j] := List.getElem?_eq_getElem hj
  have c3 := insertV_fn V j c.1 hj (by omega)
  have c4 := ccmp_fn V[j] c.1
  by_cases q1 : c.1.2.2 < V[j].2.2
  · rw [if_pos q1] at h2
    rw [h2] at hs
    generalize hy : V[j] = y at *
    simp only [csnD] at c1
    simp only [chgD, csnD, csns] at c2
    simp only [csnD] at c3
    simp -implicitDefEqProofs [g7, g8, g9, g3, hlt, hlt', hx, chgD, csnD]
    refine callK c1 ?_
    simp -implicitDefEqProofs [g7, g8, g9, g3, csnD]
    refine lendK c2 rfl ?_
    simp -implicitDefEqProofs [g7, g8, g9, g3, chgD, csnD, hj', hj, hjj, hy, q1]
    refine in2K c3 (by decide) ?_
    simp -implicitDefEqProofs [g7, g8, g9, g3]
    repeat refine And.intro (by omega) ?_
    exact again hlt ⟨by simp [g7, chgD, csnD], by simp [g8], by simp, by simp [hV2, hs, csnD], by rw [hV2]; omega⟩
  rw [if_neg q1] at h2
  by_cases q2 : cmpC V[j] c.1 < 0
  · rw [if_pos q2] at h2
    rw [h2] at hs
    generalize hy : V[j] = y at *
    generalize cmpC y c.1 = N at *
    simp only [csnD] at c1 c4
    simp only [chgD, csnD, csns] at c2
    simp -implicitDefEqProofs [g7, g8, g9, g3, hlt, hlt', hx, chgD, csnD]
    refine callK c1 ?_
    simp -implicitDefEqProofs [g7, g8, g9, g3, csnD]
    refine lendK c2 rfl ?_
    simp -implicitDefEqProofs [g7, g8, g9, g3, chgD, csnD, hj', hj, hjj, hy, q1]
    refine callP c4 ?_
    simp -implicitDefEqProofs [g7, g8, g9, g3, chgD, csnD, hj', hj, hjj, hy, q1, q2]
    repeat refine And.intro (by omega) ?_
    exact again hlt ⟨by simp [g7, chgD, csnD], by simp [g8], by simp, by simp [g3, hV2, hs, csnD, List.map_set], by rw [hV2]; omega⟩
  · rw [if_neg q2] at h2
    rw [h2] at hs
    generalize hy : V[j] = y at *
    generalize cmpC y c.1 = N at *
    simp only [csnD] at c1 c4
    simp only [chgD, csnD, csns] at c2
    simp -implicitDefEqProofs [g7, g8, g9, g3, hlt, hlt', hx, chgD, csnD]
    refine callK c1 ?_
    simp -implicitDefEqProofs [g7, g8, g9, g3, csnD]
    refine lendK c2 rfl ?_
    simp -implicitDefEqProofs [g7, g8, g9, g3, chgD, csnD, hj', hj, hjj, hy, q1]
    refine callP c4 ?_
    simp -implicitDefEqProofs [g7, g8, g9, g3, chgD, csnD, hj', hj, hjj, hy, q1, q2]
    repeat refine And.intro (by omega) ?_
    exact again hlt ⟨by simp [g7, chgD, csnD], by simp [g8], by simp, by simp [g3, hV2, hs, csnD], by rw [hV2]; omega⟩
end Go.Proofs.Tz

/- Vector: the plain law. -/
set_option linter.unusedVariables false
set_option linter.unusedSimpArgs false
namespace Go.Proofs.Tz
open Go.Vw Go.RowKit Go.Proofs

theorem fm_congr {f g : Nat → Option Csn} : ∀ {R : List Nat}, (∀ y ∈ R, f y = g y) → R.filterMap f = R.filterMap g
  | [], _ => rfl
  | r :: R, h => by
    rw [List.filterMap_cons, List.filterMap_cons, h r (by simp), fm_congr (fun y hy => h y (by simp [hy]))]
theorem ins_head {c : Csn} : ∀ {V : List Csn}, (∀ x ∈ V, c.2.2 < x.2.2) → vecIns c V = c :: V
  | [], _ => rfl
  | x :: V, h => by
    have h1 := h x (by simp)
    rw [vecIns, if_pos (by omega), if_pos h1]
theorem ins_fm {c : Csn} {ρ : Nat} (hc : c.2.2 = ρ) {f f' : Nat → Option Csn} (hf : ∀ r x, f r = some x → x.2.2 = (r : Int)) (hf' : ∀ r, r ≠ ρ → f' r = f r) (h0 : f ρ = none → f' ρ = some c) (h1 : ∀ x, f ρ = some x → f' ρ = some (if cmpC x c < 0 then c else x)) :
    ∀ {R : List Nat}, R.Pairwise (· < ·) → ρ ∈ R → vecIns c (R.filterMap f) = R.filterMap f'
  | [], _, h => by simp at h
  | r :: R, hp, hm => by
    obtain ⟨p1, p2⟩ := List.pairwise_cons.1 hp
    by_cases hr : r = ρ
    · subst hr
      have hrest : R.filterMap f' = R.filterMap f := fm_congr fun y hy => hf' y (by have := p1 y hy; omega)
      have hgt : ∀ x ∈ R.filterMap f, c.2.2 < x.2.2 := fun x hx => by
        obtain ⟨y, hy, hyx⟩ := List.mem_filterMap.1 hx
        have := p1 y hy
        rw [hc, hf y x hyx]; omega
      cases hfr : f r with
      | none =>
        rw [List.filterMap_cons, hfr, List.filterMap_cons, h0 hfr]
        simp only
        rw [ins_head hgt, hrest]
      | some x =>
        have hx := hf r x hfr
        rw [List.filterMap_cons, hfr, List.filterMap_cons, h1 x hfr]
        simp only
        rw [vecIns, if_pos (by omega), if_neg (by omega), hrest]
        split <;> rfl
    · have hm' : ρ ∈ R := by
        rcases List.mem_cons.1 hm with e | e
        · exact absurd e.symm hr
        · exact e
      have hlt := p1 ρ hm'
      have ih := ins_fm hc hf hf' h0 h1 p2 hm'
      cases hfr : f r with
      | none =>
        rw [List.filterMap_cons, hfr, List.filterMap_cons, hf' r hr, hfr]
        exact ih
      | some x =>
        have hx := hf r x hfr
        rw [List.filterMap_cons, hfr, List.filterMap_cons, hf' r hr, hfr]
        simp only
        rw [vecIns, if_neg (by omega), ih]
theorem bestT_spec (l : List Chg) (r : Int) : ∀ k, (∀ x, bestT l r k = some x → validC x = true ∧ x.2.2 = r) ∧ ∀ c ∈ l.take k, validC c.1 = true → c.1.2.2 = r → ∃ x, bestT l r k = some x ∧ 0 ≤ cmpC x c.1
  | 0 => by simp [bestT]
  | k + 1 => by
    obtain ⟨i1, i2⟩ := bestT_spec l r k
    by_cases h : k < l.length
    · rw [bestT_succ h, take_s h]
      generalize l[k] = d
      generalize bestT l r k = B at *
      constructor
      · intro x hx
        unfold bestS at hx
        split at hx
        · rename_i q
          obtain rfl := Option.some.inj hx
          exact ⟨q.1, q.2.1⟩
        · exact i1 x hx
      · intro c hc hv hr
        have hback : ∀ x, B = some x → 0 ≤ cmpC x c.1 → ∃ y, bestS r B d.1 = some y ∧ 0 ≤ cmpC y c.1 := fun x hx h0 => by
          unfold bestS
          split
          · rename_i q
            refine ⟨_, rfl, ?_⟩
            have hn := q.2.2
            rw [hx] at hn
            simp only [newer, decide_eq_true_eq] at hn
            have a1 := cmpC_anti d.1 x
            have a2 := cmpC_anti x c.1
            have a3 := cmpC_anti d.1 c.1
            by_cases e : cmpC x c.1 = 0
            · rw [cmpC_zero] at e; rw [← e]; omega
            · have := cmpC_trans (a := c.1) (b := x) (c := d.1) (by omega) (by omega)
              omega
          · exact ⟨x, hx, h0⟩
        rcases List.mem_append.1 hc with hc | hc
        · obtain ⟨x, hx, h0⟩ := i2 c hc hv hr
          exact hback x hx h0
        · rw [List.mem_singleton.1 hc] at hv hr hback ⊢
          cases hB : B with
          | none =>
            refine ⟨d.1, ?_, by rw [cmpC_self]; omega⟩
            unfold bestS
            rw [if_pos ⟨hv, hr, rfl⟩]
          | some x =>
            by_cases hn : 0 < cmpC d.1 x
            · refine ⟨d.1, ?_, by rw [cmpC_self]; omega⟩
              unfold bestS
              rw [if_pos ⟨hv, hr, by simp [newer, hn]⟩]
            · refine ⟨x, ?_, ?_⟩
              · unfold bestS
                rw [if_neg (fun q => hn (by simpa [newer] using q.2.2))]
              · have := cmpC_anti d.1 x; omega
    · have e : bestT l r (k + 1) = bestT l r k := by unfold bestT; rw [List.take_of_length_le (by omega), List.take_of_length_le (by omega)]
      have e2 : l.take (k + 1) = l.take k := by rw [List.take_of_length_le (by omega), List.take_of_length_le (by omega)]
      rw [e, e2]; exact ⟨i1, i2⟩
theorem vecG_eq (l : List Chg) : ∀ k, vecG l k = (List.range 8).filterMap fun r : Nat => bestT l r k
  | 0 => by
    have : ∀ r ∈ List.range 8, bestT l ((r : Nat) : Int) 0 = (fun _ : Nat => (none : Option Csn)) r := fun r _ => by simp [bestT]
    rw [fm_congr this]; simp [vecG]
  | k + 1 => by
    have ih := vecG_eq l k
    by_cases h : k < l.length
    · rw [vecG_succ h, ih]
      unfold vecS2
      by_cases hv : validC l[k].1 = true
      · rw [if_pos hv]
        have hrng : 0 ≤ l[k].1.2.2 ∧ l[k].1.2.2 < 8 := by
          simp only [validC, Bool.and_eq_true, decide_eq_true_eq] at hv; omega
        obtain ⟨ρ, hρ⟩ := Int.eq_ofNat_of_zero_le hrng.1
        refine ins_fm (ρ := ρ) (by simpa using hρ) (fun r x hx => ((bestT_spec l r k).1 x hx).2) (fun r hr => ?_) (fun h0 => ?_) (fun x hx => ?_) (by simpa using List.pairwise_lt_range) (by rw [List.mem_range]; omega)
        · rw [bestT_succ h, bestS, if_neg (fun q => hr (by have := q.2.1; rw [hρ] at this; omega))]
        · rw [bestT_succ h, bestS, if_pos ⟨hv, by simpa using hρ, by rw [h0]; rfl⟩]
        · rw [bestT_succ h, bestS, hx]
          have a1 := cmpC_anti x l[k].1
          by_cases hn : cmpC x l[k].1 < 0
          · rw [if_pos ⟨hv, by simpa using hρ, by simp only [newer, decide_eq_true_eq]; omega⟩, if_pos hn]
          · rw [if_neg (fun q => hn (by have := q.2.2; simp only [newer, decide_eq_true_eq] at this; omega)), if_neg hn]
      · rw [if_neg hv]
        refine fm_congr fun r _ => ?_
        rw [bestT_succ h, bestS, if_neg (fun q => hv q.1)]
    · have e : vecG l (k + 1) = vecG l k := by unfold vecG; rw [List.take_of_length_le (by omega), List.take_of_length_le (by omega)]
      rw [e, ih]
      refine fm_congr fun r _ => ?_
      unfold bestT; rw [List.take_of_length_le (by omega), List.take_of_length_le (by omega)]
theorem vec_law (l : List Chg) : vecG l l.length = vecK l 8 := vecG_eq l l.length
theorem vecK_asc (l : List Chg) : (vecK l 8).Pairwise fun x y => x.2.2 < y.2.2 := by
  unfold vecK
  rw [List.pairwise_filterMap]
  refine List.Pairwise.imp ?_ (List.pairwise_lt_range (n := 8))
  intro a b hab x hx y hy
  have h1 := ((bestT_spec l a l.length).1 x hx).2
  have h2 := ((bestT_spec l b l.length).1 y hy).2
  omega
theorem vecK_valid (l : List Chg) : ∀ x ∈ vecK l 8, validC x = true := fun x hx => by
  obtain ⟨r, _, h⟩ := List.mem_filterMap.1 hx
  exact ((bestT_spec l r l.length).1 x h).1
theorem vchk_asc {v : List Csn} (h1 : v.Pairwise fun x y => x.2.2 < y.2.2) (h2 : ∀ x ∈ v, validC x = true) : vchk v = 0 := by
  unfold vchk
  rw [firstNZ_zero]
  intro i _ hi
  rw [Nat.zero_add] at hi
  rw [List.pairwise_iff_getElem] at h1
  unfold vStep
  rw [List.getElem?_eq_getElem hi]
  simp only
  rw [if_neg (by rw [h2 _ (List.getElem_mem hi)]; simp)]
  have hany : ((v.take i).any fun x => decide (x.2.2 = v[i].2.2)) = false := by
    rw [List.any_eq_false]
    intro x hx
    obtain ⟨j, hj, rfl⟩ := List.mem_take_iff_getElem.1 hx
    have := h1 j i (by omega) hi (by omega)
    simp; omega
  rw [hany]
  simp only [Bool.false_eq_true, if_false]
  rw [if_neg]
  rintro ⟨q1, q2⟩
  have hj : i - 1 < v.length := by omega
  rw [List.getD_eq_getElem?_getD, List.getElem?_eq_getElem hj, Option.getD_some] at q2
  have := h1 (i - 1) i hj hi (by omega)
  omega
theorem since_vec {l : List Chg} (h : ∀ c ∈ l, validC c.1 = true) : sinceL l (vecK l 8) = [] := by
  unfold sinceL
  rw [List.filter_eq_nil_iff]
  intro c hc
  have hv := h c hc
  have hrng : 0 ≤ c.1.2.2 ∧ c.1.2.2 < 8 := by
    have := hv
    simp only [validC, Bool.and_eq_true, decide_eq_true_eq] at this; omega
  obtain ⟨ρ, hρ⟩ := Int.eq_ofNat_of_zero_le hrng.1
  have hρ' : c.1.2.2 = (ρ : Int) := by simpa using hρ
  obtain ⟨x, hx, h0⟩ := (bestT_spec l ρ l.length).2 c (by rw [List.take_length]; exact hc) hv hρ'
  have hxr := ((bestT_spec l ρ l.length).1 x hx).2
  have hmem : x ∈ vecK l 8 := List.mem_filterMap.2 ⟨ρ, by rw [List.mem_range]; omega, hx⟩
  have hcov : coversB (vecK l 8) c.1 = true := by
    unfold coversB vectC
    rw [if_pos (vchk_asc (vecK_asc l) (vecK_valid l)), hv, Bool.true_and, List.any_eq_true]
    exact ⟨x, hmem, by simp only [covQ, Bool.and_eq_true, decide_eq_true_eq]; exact ⟨by rw [hxr, hρ'], h0⟩⟩
  simp [hcov]
end Go.Proofs.Tz

/- The statements about change records: Vectors. -/
set_option maxRecDepth 100000
set_option maxHeartbeats 8000000
set_option linter.unusedVariables false
set_option linter.unusedSimpArgs false
namespace Go.Proofs.Tz
open Go.Vw Go.RowKit Go.Proofs

theorem vecK_len (l : List Chg) : (vecK l 8).length ≤ 8 := by
  unfold vecK; refine Nat.le_trans (List.length_filterMap_le _ _) (by simp)
end Go.Proofs.Tz

/- The statements about change records: a list of attributes without one value. -/
set_option maxRecDepth 100000
set_option maxHeartbeats 8000000
set_option linter.unusedVariables false
set_option linter.unusedSimpArgs false
namespace Go.Proofs.Tz
open Go.Vw Go.RowKit Go.Proofs

/-- An own slice that is returned may count as data. -/
theorem Ctr.asData {P : Program} {f : FuncId} {args : List AV} {e : TypeId} {l : List D} (h : Ctr P f args (.own true e l)) : Ctr P f args (.d (.sl l)) := by
  refine ⟨h.1, fun w L og vals hlok hgl hog hv => (h.2 w L og vals hlok hgl hog hv).mono ?_⟩
  rintro x w' ⟨v, L', og', rfl, hgr, hlok', hold', hog', hrc⟩
  obtain ⟨L2, hrc2, hlok2, hold2, hext2⟩ := hrc.demote false hlok' (fun g hg => (hog' g hg).1)
  refine ⟨v, L2, none, rfl, hgr, hlok2, fun c q hc hne => ?_, (fun g hg => by cases hg), OwnR.at_ (P := P) hrc2⟩
  refine (hold2 c q (fun e => ?_)).trans (hold' c q hc hne)
  rcases (hog' c e.symm).2 with h1 | h1
  · omega
  · exact hne h1
def keepV (m n v : Str) (vs : List Str) : List Str := vs.filter fun u => !(decide (m = n) && decide (u = v))
def dropL (l : List Att) (n v : Str) : List Att := l.map fun t => (t.1, keepV t.1 n v t.2)
def dropK (l : List Att) (n v : Str) (k : Nat) : List Att := dropL (l.take k) n v
theorem keepV_snoc {m n v : Str} {vs : List Str} {j : Nat} (h : j < vs.length) : keepV m n v (vs.take (j + 1)) = keepV m n v (vs.take j) ++ (if m = n ∧ vs[j] = v then [] else [vs[j]]) := by
  unfold keepV; rw [take_s h, List.filter_append]
  by_cases h1 : m = n <;> by_cases h2 : vs[j] = v <;> simp [h1, h2]
theorem keepV_len (m n v : Str) (vs : List Str) : (keepV m n v vs).length ≤ vs.length := List.length_filter_le _ _
theorem dropK_succ {l : List Att} {n v : Str} {k : Nat} (h : k < l.length) : dropK l n v (k + 1) = dropK l n v k ++ [(l[k].1, keepV l[k].1 n v l[k].2)] := by
  unfold dropK dropL; rw [take_s h, List.map_append]; rfl
theorem dropK_len (l : List Att) (n v : Str) (k : Nat) : (dropK l n v k).length ≤ l.length := by simp [dropK, dropL]; omega
def Hold (out : List Str) (u : Value) (τ : St) : Prop := (u = .slice none 0 0 ∧ out = [] ∧ τ 1000000 = .undef) ∨ τ 1000000 = .hs u 9 (out.map .str)
def CuI (l : List Att) (n v : Str) (k : Nat) (τ : St) : Prop := τ 0 = .d (.sl (l.map att)) ∧ τ 1 = .d (.str n) ∧ τ 2 = .d (.str v) ∧ τ 8 = .d (.int .i64 k) ∧ τ 7 = .own true 56 ((dropK l n v k).map att) ∧ τ 1000000 = .undef
def CuJ (l : List Att) (n v : Str) (k : Nat) (m : Str) (vs : List Str) (A : List Att) (j : Nat) (τ : St) : Prop := τ 0 = .d (.sl (l.map att)) ∧ τ 1 = .d (.str n) ∧ τ 2 = .d (.str v) ∧ τ 8 = .d (.int .i64 k) ∧ τ 7 = .own true 56 (A.map att) ∧ τ 10 = .d (.int .i64 j) ∧
  ∃ u, τ 9 = .box (.agg [.str m, .raw u]) ∧ Hold (keepV m n v (vs.take j)) u τ
set_option maxHeartbeats 20000000 in
theorem cutA_fn (l : List Att) (n v : Str) (hl : l.length < 100000) (hv : ∀ t ∈ l, t.2.length < 100000) (hf : Fit2 (dropL l n v)) : Ctr Tryz.prog 34 [.d (atts l), .d (.str n), .d (.str v)] (.d (atts (sortedL (dropL l n v)))) := by
  refine fn_of_vwp (fun i => i == 7 || i == 68 || i == 1000022 || i == 13000066 || i == 6000069) (by kernel_rfl) Tryz.func34 (by kernel_rfl) rfl rfl (Nat.le_of_ble_eq_true rfl) (by kernel_rfl) rfl rfl ?_
  have c1 := Ctr.asData (sorted_fn _ hf)
  have hall : dropL l n v = dropK l n v l.length := by unfold dropK; rw [List.take_length]
  rw [hall] at c1 ⊢
  simp -implicitDefEqProofs [atts]
  refine loopN l.length (CuI l n v) ⟨by simp, by simp, by simp, by simp, by simp [dropK, dropL], by simp⟩ ?_
  rintro k τ hk ⟨g0, g1, g2, g8, g7, gU⟩
  have hdl := dropK_len l n v k
  by_cases hlt : k < l.length
  case neg =>
    have hlt' : ¬ (k : Int) < l.length := by omega
    obtain rfl : k = l.length := by omega
    simp only [atts] at c1
    generalize dropK l n v l.length = A at *
    simp -implicitDefEqProofs [g0, g1, g2, g8, g7, hlt']
    refine callK c1 ?_
    simp -implicitDefEqProofs
  have hlt' : (k : Int) < l.length := by omega
  have hs := dropK_succ (n := n) (v := v) hlt
  have hvl := hv _ (List.getElem_mem hlt)
  clear c1 hall
  generalize hA2 : dropK l n v (k + 1) = A2 at *
  generalize dropK l n v k = A at *
  generalize hx : l[k] = x at *
  obtain ⟨m, vs⟩ := x
  simp only at hs hvl
  simp -implicitDefEqProofs [g0, g1, g2, g8, g7, hlt, hlt', hx, att, strs, sd42]
  refine loopN vs.length (CuJ l n v k m vs A) ?_ ?_
  · exact ⟨by simp [g0, att, strs], by simp [g1], by simp [g2], by simp [g8], by simp [g7, att, strs], by simp, .slice none 0 0, by simp, .inl ⟨rfl, by simp [keepV], by simp [gU]⟩⟩
  clear g0 g1 g2 g8 g7 gU τ
  rintro j τ hj ⟨g0, g1, g2, g8, g7, g10, u, g9, gH⟩
  by_cases hjt : j < vs.length
  case neg =>
    have hjt' : ¬ (j : Int) < vs.length := by omega
    rw [List.take_of_length_le (by omega)] at gH
    rcases gH with ⟨rfl, ho, gU⟩ | gU
    · rw [ho] at hs
      simp -implicitDefEqProofs [g0, g1, g2, g8, g7, g10, g9, hlt, hlt', hx, hjt', att, strs]
      repeat refine And.intro (by omega) ?_
      refine frzL (y' := .agg [.str m, .sl []]) [] (by simp) (by simp) (.agg (.cons (.same _) (.cons .nil .nil))) ?_
      simp -implicitDefEqProofs [g0, g1, g2, g8, g7, g10, g9]
      repeat refine And.intro (by omega) ?_
      exact again hlt ⟨by simp [g0, att, strs], by simp [g1], by simp [g2], by simp, by simp [hA2, hs, att, strs], by simp [gU]⟩
    · generalize keepV m n v vs = out at *
      simp -implicitDefEqProofs [g0, g1, g2, g8, g7, g10, g9, hlt, hlt', hx, hjt', att, strs]
      repeat refine And.intro (by omega) ?_
      refine frzL (y' := .agg [.str m, .sl (out.map .str)]) [1000000] (by simp [gU, isH]) (by simp) (.agg (.cons (.same _) (.cons (.sl (e := 9) (by simp [gU])) .nil))) ?_
      simp -implicitDefEqProofs [g0, g1, g2, g8, g7, g10, g9]
      repeat refine And.intro (by omega) ?_
      exact again hlt ⟨by simp [g0, att, strs], by simp [g1], by simp [g2], by simp, by simp [hA2, hs, att, strs], by simp⟩
  have hjt' : (j : Int) < vs.length := by omega
  have hsn := keepV_snoc (m := m) (n := n) (v := v) hjt
  have hkl := keepV_len m n v (vs.take j)
  have hkl2 : (vs.take j).length < 100000 := by simp; omega
  generalize hT2 : keepV m n v (vs.take (j + 1)) = T2 at *
  generalize keepV m n v (vs.take j) = T at *
  generalize hw : vs[j] = w at *
  by_cases h1 : m = n
  · subst h1
    by_cases h2 : w = v
    · rw [if_pos ⟨rfl, h2⟩, List.append_nil] at hsn
      simp -implicitDefEqProofs [g0, g1, g2, g8, g7, g10, g9, hlt, hlt', hx, hjt, hjt', hw, att, strs, h2]
      repeat refine And.intro (by omega) ?_
      exact again hjt ⟨by simp [g0, att, strs], by simp [g1], by simp [g2], by simp [g8], by simp [g7, att, strs], by simp, u, by simp [g9], by rw [hT2, hsn]; exact gH.imp (fun h => ⟨h.1, h.2.1, by simp [h.2.2]⟩) (fun h => by simp [h])⟩
    · rw [if_neg (fun q => h2 q.2)] at hsn
      rcases gH with ⟨rfl, rfl, gU⟩ | gU
      · simp -implicitDefEqProofs [g0, g1, g2, g8, g7, g10, g9, hlt, hlt', hx, hjt, hjt', hw, att, strs, h2]
        refine appK0 1000000 (by simp [gU]) (by simp) (by simp) (by simp) (fun A' c => ?_)
        simp -implicitDefEqProofs [g0, g1, g2, g8, g7, g10, g9]
        repeat refine And.intro (by omega) ?_
        exact again hjt ⟨by simp [g0, att, strs], by simp [g1], by simp [g2], by simp [g8], by simp [g7, att, strs], by simp, _, by simp [g9]; rfl, .inr (by rw [hT2, hsn]; simp)⟩
      · simp -implicitDefEqProofs [g0, g1, g2, g8, g7, g10, g9, hlt, hlt', hx, hjt, hjt', hw, att, strs, h2]
        refine appK 1000000 (e := 9) (l := T.map .str) (by simp [gU]) (by simp) (by simp; omega) (by simp; omega) (fun A' c => ?_)
        simp -implicitDefEqProofs [g0, g1, g2, g8, g7, g10, g9]
        repeat refine And.intro (by omega) ?_
        exact again hjt ⟨by simp [g0, att, strs], by simp [g1], by simp [g2], by simp [g8], by simp [g7, att, strs], by simp, _, by simp [g9]; rfl, .inr (by rw [hT2, hsn]; simp)⟩
  · rw [if_neg (fun q => h1 q.1)] at hsn
    rcases gH with ⟨rfl, rfl, gU⟩ | gU
    · simp -implicitDefEqProofs [g0, g1, g2, g8, g7, g10, g9, hlt, hlt', hx, hjt, hjt', hw, att, strs, h1]
      refine appK0 1000000 (by simp [gU]) (by simp) (by simp) (by simp) (fun A' c => ?_)
      simp -implicitDefEqProofs [g0, g1, g2, g8, g7, g10, g9]
      repeat refine And.intro (by omega) ?_
      exact again hjt ⟨by simp [g0, att, strs], by simp [g1], by simp [g2], by simp [g8], by simp [g7, att, strs], by simp, _, by simp [g9]; rfl, .inr (by rw [hT2, hsn]; simp)⟩
    · simp -implicitDefEqProofs [g0, g1, g2, g8, g7, g10, g9, hlt, hlt', hx, hjt, hjt', hw, att, strs, h1]
      refine appK 1000000 (e := 9) (l := T.map .str) (by simp [gU]) (by simp) (by simp; omega) (by simp; omega) (fun A' c => ?_)
      simp -implicitDefEqProofs [g0, g1, g2, g8, g7, g10, g9]
      repeat refine And.intro (by omega) ?_
      exact again hjt ⟨by simp [g0, att, strs], by simp [g1], by simp [g2], by simp [g8], by simp [g7, att, strs], by simp, _, by simp [g9]; rfl, .inr (by rw [hT2, hsn]; simp)⟩
end Go.Proofs.Tz

namespace Go.Proofs.Tz
open Go.Vw Go.Lib
set_option linter.unusedSimpArgs false

/-! ### normal forms as sets -/
def HasL (l : List Att) (n v : Str) : Prop := ∃ a ∈ l, lower a.1 = n ∧ v ∈ a.2
structure NF (s : List Att) : Prop where
  names : SS (s.map (·.1))
  vals : ∀ x ∈ s, SS x.2
  ne : ∀ x ∈ s, x.2 ≠ []

theorem lowc_lowc (c : UInt8) : lowc (lowc c) = lowc c := by
  unfold lowc
  by_cases h : 65 ≤ (c.toNat : Int) ∧ (c.toNat : Int) ≤ 90
  · rw [if_pos h, if_neg]
    rw [UInt8.toNat_add]
    have : (32 : UInt8).toNat = 32 := rfl
    omega
  · rw [if_neg h, if_neg h]
theorem lower_lower (s : Str) : lower (lower s) = lower s := by simp [lower, lowc_lowc]

theorem nf_sorted (l : List Att) : NF (sortedL l) := by
  have hN := namesF_spec l [] (by simp [SS])
  refine ⟨?_, fun x hx => ?_, fun x hx => ?_⟩
  · rw [sortedL, List.map_map]
    rw [show ((fun x : Att => x.1) ∘ fun n => (n, valsF l n)) = id from rfl, List.map_id]
    exact hN.1
  · obtain ⟨n, _, rfl⟩ := List.mem_map.1 hx
    exact (valsF_spec n l [] (by simp [SS])).1
  · obtain ⟨n, hn, rfl⟩ := List.mem_map.1 hx
    have hV := (valsF_spec n l [] (by simp [SS])).2
    rcases (hN.2 n).1 hn with h | ⟨a, ha, hne, e⟩
    · simp at h
    · obtain ⟨v, hv⟩ := List.exists_mem_of_ne_nil _ hne
      exact List.ne_nil_of_mem ((hV v).2 (.inr ⟨a, ha, e, hv⟩))
theorem sorted_has (l : List Att) (n v : Str) : Has (sortedL l) n v ↔ HasL l n v := by
  have hN := namesF_spec l [] (by simp [SS])
  constructor
  · rintro ⟨x, hx, rfl, hv⟩
    obtain ⟨a, ha, e, h⟩ := sorted_val hx hv
    exact ⟨a, ha, e, h⟩
  · rintro ⟨a, ha, e, hv⟩
    refine ⟨(n, valsF l n), List.mem_map.2 ⟨n, ?_, rfl⟩, rfl, ?_⟩
    · exact (hN.2 n).2 (.inr ⟨a, ha, List.ne_nil_of_mem hv, e⟩)
    · exact ((valsF_spec n l [] (by simp [SS])).2 v).2 (.inr ⟨a, ha, e, hv⟩)
theorem nodup_inj {α : Type} {l : List α} (h : l.Nodup) {i j : Nat} (hi : i < l.length) (hj : j < l.length) (e : l[i] = l[j]) : i = j := by
  have h1 := List.pairwise_iff_getElem.1 h
  rcases Nat.lt_trichotomy i j with h2 | h2 | h2
  · exact absurd e (h1 i j hi hj h2)
  · exact h2
  · exact absurd e.symm (h1 j i hj hi h2)
theorem nf_inj {s : List Att} (hs : NF s) {x y : Att} (hx : x ∈ s) (hy : y ∈ s) (h : x.1 = y.1) : x = y := by
  have hnd := hs.names.nodup
  obtain ⟨i, hi, rfl⟩ := List.mem_iff_getElem.1 hx
  obtain ⟨j, hj, rfl⟩ := List.mem_iff_getElem.1 hy
  have := nodup_inj hnd (i := i) (j := j) (by simpa using hi) (by simpa using hj) (by simpa using h)
  subst this; rfl
theorem nf_ext {s t : List Att} (hs : NF s) (ht : NF t) (h : ∀ n v, Has s n v ↔ Has t n v) : s = t := by
  have e1 : s.map (·.1) = t.map (·.1) := by
    refine SS_ext hs.names ht.names fun n => ?_
    constructor
    · intro hn
      obtain ⟨x, hx, rfl⟩ := List.mem_map.1 hn
      obtain ⟨v, hv⟩ := List.exists_mem_of_ne_nil _ (hs.ne x hx)
      obtain ⟨y, hy, e, _⟩ := (h x.1 v).1 ⟨x, hx, rfl, hv⟩
      exact List.mem_map.2 ⟨y, hy, e⟩
    · intro hn
      obtain ⟨x, hx, rfl⟩ := List.mem_map.1 hn
      obtain ⟨v, hv⟩ := List.exists_mem_of_ne_nil _ (ht.ne x hx)
      obtain ⟨y, hy, e, _⟩ := (h x.1 v).2 ⟨x, hx, rfl, hv⟩
      exact List.mem_map.2 ⟨y, hy, e⟩
  have hl : s.length = t.length := by simpa using congrArg List.length e1
  refine List.ext_getElem hl fun i h1 h2 => ?_
  have en : s[i].1 = t[i].1 := by
    have := List.getElem_of_eq e1 (i := i) (by simpa using h1)
    simpa using this
  refine Prod.ext en ?_
  refine SS_ext (hs.vals _ (List.getElem_mem h1)) (ht.vals _ (List.getElem_mem h2)) fun v => ?_
  constructor
  · intro hv
    obtain ⟨y, hy, e, hv⟩ := (h s[i].1 v).1 ⟨_, List.getElem_mem h1, rfl, hv⟩
    rw [← nf_inj ht hy (List.getElem_mem h2) (e.trans en)]
    exact hv
  · intro hv
    obtain ⟨y, hy, e, hv⟩ := (h t[i].1 v).2 ⟨_, List.getElem_mem h2, rfl, hv⟩
    rw [← nf_inj hs hy (List.getElem_mem h1) (e.trans en.symm)]
    exact hv
theorem sorted_ext {a b : List Att} (h : ∀ n v, HasL a n v ↔ HasL b n v) : sortedL a = sortedL b :=
  nf_ext (nf_sorted a) (nf_sorted b) fun n v => by rw [sorted_has, sorted_has, h]
theorem sorted_low {l : List Att} {x : Att} (h : x ∈ sortedL l) : lower x.1 = x.1 := by
  obtain ⟨a, _, _, e⟩ := sorted_name h
  rw [← e, lower_lower]
theorem hasL_sorted (l : List Att) (n v : Str) : HasL (sortedL l) n v ↔ HasL l n v := by
  rw [← sorted_has l n v]
  constructor
  · rintro ⟨x, hx, e, hv⟩; exact ⟨x, hx, (sorted_low hx).symm.trans e, hv⟩
  · rintro ⟨x, hx, e, hv⟩; exact ⟨x, hx, (sorted_low hx).trans e, hv⟩
theorem mem_findA {s : List Att} (hs : NF s) (n v : Str) : v ∈ findA n s ↔ Has s n v := by
  have key : ∀ (s : List Att), (∀ x ∈ s, ∀ y ∈ s, x.1 = y.1 → x = y) → (v ∈ findA n s ↔ Has s n v) := by
    intro s
    induction s with
    | nil => intro _; simp [findA, Has]
    | cons a s ih =>
      intro hi
      rw [findA]
      split
      · rename_i h
        constructor
        · intro hv; exact ⟨a, by simp, h, hv⟩
        · rintro ⟨y, hy, e, hv⟩
          rw [hi a (by simp) y hy (h.trans e.symm)]; exact hv
      · rename_i h
        rw [ih fun x hx y hy => hi x (by simp [hx]) y (by simp [hy])]
        constructor
        · rintro ⟨y, hy, e, hv⟩; exact ⟨y, by simp [hy], e, hv⟩
        · rintro ⟨y, hy, e, hv⟩
          rcases List.mem_cons.1 hy with rfl | hy
          · exact absurd e h
          · exact ⟨y, hy, e, hv⟩
  exact key s fun x hx y hy => nf_inj hs hx hy
theorem mem_getL (l : List Att) (name v : Str) : v ∈ getL l name ↔ HasL l (lower name) v := by
  rw [getL, mem_findA (nf_sorted l), sorted_has]
/-! ### setting -/
theorem hasL_app (a b : List Att) (n v : Str) : HasL (a ++ b) n v ↔ HasL a n v ∨ HasL b n v := by
  simp only [HasL, List.mem_append]
  constructor
  · rintro ⟨x, h | h, h2⟩
    · exact .inl ⟨x, h, h2⟩
    · exact .inr ⟨x, h, h2⟩
  · rintro (⟨x, h, h2⟩ | ⟨x, h, h2⟩)
    · exact ⟨x, .inl h, h2⟩
    · exact ⟨x, .inr h, h2⟩
theorem hasL_one (m : Str) (w : List Str) (n v : Str) : HasL [(m, w)] n v ↔ lower m = n ∧ v ∈ w := by simp [HasL]
/-! ### errors of values -/
/-! ### what the program's edits come to is what the specification's come to -/
end Go.Proofs.Tz

/- Edits turn one list of attributes into another: the plain law. -/
set_option linter.unusedVariables false
set_option linter.unusedSimpArgs false
namespace Go.Proofs.Tz
open Go.Vw Go.RowKit Go.Proofs

def pairsT (b : List Att) (t : Att) : List (Str × Str) := (t.2.filter fun v => !decide (v ∈ getL b t.1)).map fun v => (t.1, v)
def pairsL (a b : List Att) : List (Str × Str) := (sortedL a).flatMap (pairsT b)
theorem onlyL_pairs (o : Int) (id : Str) (a b : List Att) : onlyL o id a b = (pairsL a b).map fun p => mkC o id p.1 p.2 := by
  unfold onlyL pairsL
  rw [List.map_flatMap]
  congr 1
  funext t
  unfold onlyT pairsT
  rw [List.map_map]; rfl
theorem mem_pairs {a b : List Att} {n v : Str} : (n, v) ∈ pairsL a b ↔ HasL a n v ∧ ¬ HasL b n v := by
  have key : ∀ t ∈ sortedL a, ∀ v, v ∈ getL b t.1 ↔ HasL b t.1 v := fun t ht v => by rw [mem_getL, sorted_low ht]
  unfold pairsL
  rw [List.mem_flatMap]
  constructor
  · rintro ⟨t, ht, h⟩
    unfold pairsT at h
    obtain ⟨u, hu, e⟩ := List.mem_map.1 h
    simp only [Prod.mk.injEq] at e
    obtain ⟨rfl, rfl⟩ := e
    rw [List.mem_filter] at hu
    refine ⟨(sorted_has a t.1 u).1 ⟨t, ht, rfl, hu.1⟩, fun hb => ?_⟩
    have := hu.2
    simp only [Bool.not_eq_true', decide_eq_false_iff_not] at this
    exact this ((key t ht u).2 hb)
  · rintro ⟨h1, h2⟩
    obtain ⟨t, ht, rfl, hv⟩ := (sorted_has a n v).2 h1
    refine ⟨t, ht, ?_⟩
    unfold pairsT
    refine List.mem_map.2 ⟨v, ?_, rfl⟩
    rw [List.mem_filter]
    refine ⟨hv, ?_⟩
    simp only [Bool.not_eq_true', decide_eq_false_iff_not]
    exact fun q => h2 ((key t ht v).1 q)
theorem nodup_pairs (a b : List Att) : (pairsL a b).Nodup := by
  have hs := nf_sorted a
  unfold pairsL List.Nodup
  rw [List.pairwise_flatMap]
  constructor
  · intro t ht
    unfold pairsT
    rw [List.pairwise_map]
    have h1 : t.2.Nodup := (hs.vals t ht).nodup
    exact (List.Pairwise.filter _ h1).imp fun {x y} h e => h (by simpa using e)
  · have h1 := hs.names.nodup
    unfold List.Nodup at h1
    rw [List.pairwise_map] at h1
    refine h1.imp fun {s t} h x hx y hy e => h ?_
    unfold pairsT at hx hy
    obtain ⟨u, _, rfl⟩ := List.mem_map.1 hx
    obtain ⟨v, _, rfl⟩ := List.mem_map.1 hy
    simp only [Prod.mk.injEq] at e
    exact e.1
theorem hasL_drop {l : List Att} (hl : ∀ x ∈ l, lower x.1 = x.1) (n v m u : Str) : HasL (dropL l n v) m u ↔ HasL l m u ∧ ¬ (m = n ∧ u = v) := by
  unfold HasL dropL
  constructor
  · rintro ⟨x, hx, e, hu⟩
    obtain ⟨t, ht, rfl⟩ := List.mem_map.1 hx
    simp only at e hu
    unfold keepV at hu
    rw [List.mem_filter] at hu
    refine ⟨⟨t, ht, e, hu.1⟩, ?_⟩
    rintro ⟨rfl, rfl⟩
    have h1 := hu.2
    rw [hl t ht] at e
    simp [e] at h1
  · rintro ⟨⟨t, ht, e, hu⟩, hn⟩
    refine ⟨(t.1, keepV t.1 n v t.2), List.mem_map.2 ⟨t, ht, rfl⟩, e, ?_⟩
    unfold keepV
    rw [List.mem_filter]
    refine ⟨hu, ?_⟩
    simp only [Bool.not_eq_true', Bool.and_eq_false_iff, decide_eq_false_iff_not]
    rw [hl t ht] at e
    by_cases q : t.1 = n
    · right; exact fun r => hn ⟨by rw [← e, q], r⟩
    · exact .inl q
def stepE (cur : List Att) (e : Chg) : List Att := if e.2.1 = 5 then sortedL (dropL cur e.2.2.2.2.1 e.2.2.2.2.2) else sortedL (cur ++ [(e.2.2.2.2.1, [e.2.2.2.2.2])])
def curK (a : List Att) (E : List Chg) (k : Nat) : List Att := (E.take k).foldl stepE (sortedL a)
theorem curK_succ {a : List Att} {E : List Chg} {k : Nat} (h : k < E.length) : curK a E (k + 1) = stepE (curK a E k) E[k] := by
  unfold curK; rw [take_s h, List.foldl_append]; rfl
def editsP (a b : List Att) : List Chg := onlyL 5 [120] a b ++ onlyL 4 [120] b a
theorem editsP_len (a b : List Att) : (editsP a b).length = (pairsL a b).length + (pairsL b a).length := by unfold editsP; rw [onlyL_pairs, onlyL_pairs]; simp
theorem editsP_lt {a b : List Att} {k : Nat} (h : k < (pairsL a b).length) (h' : k < (editsP a b).length) : (editsP a b)[k] = mkC 5 [120] (pairsL a b)[k].1 (pairsL a b)[k].2 := by
  unfold editsP
  simp only [onlyL_pairs]
  rw [List.getElem_append_left (by simpa using h), List.getElem_map]
theorem editsP_ge {a b : List Att} {k : Nat} (h : (pairsL a b).length ≤ k) (h' : k < (editsP a b).length) (h2 : k - (pairsL a b).length < (pairsL b a).length) : (editsP a b)[k] = mkC 4 [120] ((pairsL b a)[k - (pairsL a b).length]).1 ((pairsL b a)[k - (pairsL a b).length]).2 := by
  unfold editsP
  simp only [onlyL_pairs]
  rw [List.getElem_append_right (by simpa using h)]
  simp
theorem turn_inv (a b : List Att) : ∀ k, k ≤ (editsP a b).length → ∃ X, curK a (editsP a b) k = sortedL X ∧ ∀ m u, HasL X m u ↔ (HasL a m u ∧ (m, u) ∉ (pairsL a b).take k) ∨ (m, u) ∈ (pairsL b a).take (k - (pairsL a b).length)
  | 0, _ => ⟨a, by simp [curK], fun m u => by simp⟩
  | k + 1, hk => by
    obtain ⟨X, hX, hH⟩ := turn_inv a b k (by omega)
    rw [curK_succ (by omega), hX]
    have hlow : ∀ x ∈ sortedL X, lower x.1 = x.1 := fun x hx => sorted_low hx
    by_cases h : k < (pairsL a b).length
    · rw [editsP_lt h (by omega)]
      have e0 : k - (pairsL a b).length = 0 := by omega
      have e1 : k + 1 - (pairsL a b).length = 0 := by omega
      refine ⟨dropL (sortedL X) (pairsL a b)[k].1 (pairsL a b)[k].2, by simp [stepE, mkC], fun m u => ?_⟩
      rw [hasL_drop hlow, hasL_sorted, hH, e0, e1, take_s h]
      simp only [List.take_zero, List.not_mem_nil, or_false, List.mem_append, List.mem_singleton, not_or]
      constructor
      · rintro ⟨⟨q1, q2⟩, q3⟩
        exact ⟨q1, q2, fun e => q3 (by rw [← e]; exact ⟨rfl, rfl⟩)⟩
      · rintro ⟨q1, q2, q3⟩
        exact ⟨⟨q1, q2⟩, fun e => q3 (Prod.ext e.1 e.2)⟩
    · have hl := editsP_len a b
      have h2 : k - (pairsL a b).length < (pairsL b a).length := by omega
      rw [editsP_ge (by omega) (by omega) h2]
      have e1 : k + 1 - (pairsL a b).length = k - (pairsL a b).length + 1 := by omega
      have hm : ((pairsL b a)[k - (pairsL a b).length].1, (pairsL b a)[k - (pairsL a b).length].2) ∈ pairsL b a := List.getElem_mem h2
      obtain ⟨y, hy, hyl, _⟩ := (mem_pairs.1 hm).1
      have hlow2 : lower (pairsL b a)[k - (pairsL a b).length].1 = (pairsL b a)[k - (pairsL a b).length].1 := by rw [← hyl, lower_lower]
      refine ⟨sortedL X ++ [((pairsL b a)[k - (pairsL a b).length].1, [(pairsL b a)[k - (pairsL a b).length].2])], by simp [stepE, mkC], fun m u => ?_⟩
      rw [hasL_app, hasL_sorted, hH, hasL_one, hlow2, e1, take_s h2, List.take_of_length_le (by omega : (pairsL a b).length ≤ k), List.take_of_length_le (by omega : (pairsL a b).length ≤ k + 1)]
      simp only [List.mem_append, List.mem_singleton]
      constructor
      · rintro ((q | q) | ⟨q1, q2⟩)
        · exact .inl q
        · exact .inr (.inl q)
        · exact .inr (.inr (Prod.ext q1.symm q2))
      · rintro (q | q | q)
        · exact .inl (.inl q)
        · exact .inl (.inr q)
        · exact .inr ⟨by rw [← q], by rw [← q]⟩
theorem turn_end (a b : List Att) : curK a (editsP a b) (editsP a b).length = sortedL b := by
  obtain ⟨X, hX, hH⟩ := turn_inv a b _ (Nat.le_refl _)
  rw [hX]
  refine sorted_ext fun m u => ?_
  have hl := editsP_len a b
  rw [hH, List.take_of_length_le (by omega), List.take_of_length_le (by omega), mem_pairs, mem_pairs]
  by_cases h1 : HasL a m u <;> by_cases h2 : HasL b m u <;> simp [h1, h2]
/-- What Has says ahead of each edit. -/
theorem turn_has (a b : List Att) {k : Nat} (hk : k < (editsP a b).length) : decide ((editsP a b)[k].2.2.2.2.2 ∈ getL (curK a (editsP a b) k) (editsP a b)[k].2.2.2.2.1) = decide ((editsP a b)[k].2.1 = 5) := by
  obtain ⟨X, hX, hH⟩ := turn_inv a b k (by omega)
  rw [hX]
  by_cases h : k < (pairsL a b).length
  · rw [editsP_lt h hk]
    have hm : ((pairsL a b)[k].1, (pairsL a b)[k].2) ∈ pairsL a b := List.getElem_mem h
    obtain ⟨hy, _⟩ := mem_pairs.1 hm
    obtain ⟨y, _, hyl, _⟩ := hy
    have hlow2 : lower (pairsL a b)[k].1 = (pairsL a b)[k].1 := by rw [← hyl, lower_lower]
    have hin : (pairsL a b)[k].2 ∈ getL (sortedL X) (pairsL a b)[k].1 := by
      rw [mem_getL, hasL_sorted, hlow2, hH]
      refine .inl ⟨(mem_pairs.1 hm).1, fun q => ?_⟩
      obtain ⟨j, hj, e⟩ := List.mem_take_iff_getElem.1 q
      have := nodup_inj (nodup_pairs a b) (i := j) (j := k) (by omega) h e
      omega
    simp [mkC, hin]
  · have hl := editsP_len a b
    have h2 : k - (pairsL a b).length < (pairsL b a).length := by omega
    rw [editsP_ge (by omega) hk h2]
    have hm : ((pairsL b a)[k - (pairsL a b).length].1, (pairsL b a)[k - (pairsL a b).length].2) ∈ pairsL b a := List.getElem_mem h2
    obtain ⟨hy, hn⟩ := mem_pairs.1 hm
    obtain ⟨y, _, hyl, _⟩ := hy
    have hlow2 : lower (pairsL b a)[k - (pairsL a b).length].1 = (pairsL b a)[k - (pairsL a b).length].1 := by rw [← hyl, lower_lower]
    have hnot : (pairsL b a)[k - (pairsL a b).length].2 ∉ getL (sortedL X) (pairsL b a)[k - (pairsL a b).length].1 := by
      rw [mem_getL, hasL_sorted, hlow2, hH]
      rintro (q | q)
      · exact hn q.1
      · obtain ⟨j, hj, e⟩ := List.mem_take_iff_getElem.1 q
        have := nodup_inj (nodup_pairs b a) (i := j) (j := k - (pairsL a b).length) (by omega) h2 e
        omega
    simp [mkC, hnot]
end Go.Proofs.Tz

/- The statements about change records: Turns. -/
set_option maxRecDepth 100000
set_option maxHeartbeats 8000000
set_option linter.unusedVariables false
set_option linter.unusedSimpArgs false
namespace Go.Proofs.Tz
open Go.Vw Go.RowKit Go.Proofs

structure Bnd (cur : List Att) (k : Nat) : Prop where
  len : cur.length ≤ 8 + k
  tot : total cur ≤ 64 + k
  nm : ∀ t ∈ cur, List.length t.1 ≤ 300
theorem total_memQ {l : List Att} {t : Att} (h : t ∈ l) : t.2.length ≤ total l := by
  induction l with
  | nil => simp at h
  | cons x l ih =>
    simp only [total, List.map_cons, List.sum_cons] at *
    rcases List.mem_cons.1 h with rfl | h
    · omega
    · have := ih h; omega
theorem total_drop (n v : Str) : ∀ l : List Att, total (dropL l n v) ≤ total l
  | [] => by simp [dropL, total]
  | t :: l => by
    have h1 := total_drop n v l
    have h2 := keepV_len t.1 n v t.2
    simp only [dropL, total, List.map_cons, List.sum_cons] at *
    omega
theorem Bnd.sorted {l : List Att} {k : Nat} (h : Bnd l k) : Bnd (sortedL l) k := by
  refine ⟨Nat.le_trans (sorted_len l) h.len, Nat.le_trans (total_sorted l) h.tot, fun t ht => ?_⟩
  obtain ⟨y, hy, _, e⟩ := sorted_name ht
  rw [← e, lower_len]; exact h.nm y hy
theorem Bnd.drop {l : List Att} {k : Nat} (h : Bnd l k) (n v : Str) : Bnd (dropL l n v) (k + 1) := by
  refine ⟨by have := h.len; simp [dropL]; omega, by have := h.tot; have := total_drop n v l; omega, fun t ht => ?_⟩
  obtain ⟨y, hy, rfl⟩ := List.mem_map.1 ht
  exact h.nm y hy
theorem Bnd.add {l : List Att} {k : Nat} (h : Bnd l k) {n v : Str} (hn : List.length n ≤ 300) : Bnd (l ++ [(n, [v])]) (k + 1) := by
  refine ⟨by have := h.len; simp; omega, by have := h.tot; simp [total] at *; omega, fun t ht => ?_⟩
  rcases List.mem_append.1 ht with ht | ht
  · exact h.nm t ht
  · rw [List.mem_singleton.1 ht]; exact hn
theorem Bnd.fit {l : List Att} {k : Nat} (h : Bnd l k) (hk : k ≤ 20000) : Fit2 l :=
  ⟨⟨by have := h.len; omega, fun t ht => ⟨by have := h.nm t ht; omega, by have := total_memQ ht; have := h.tot; omega⟩⟩, by have := h.tot; omega⟩
theorem edit_name {a b : List Att} (ha : lightA a = true) (hb : lightA b = true) {e : Chg} (he : e ∈ editsP a b) : List.length e.2.2.2.2.1 ≤ 300 := by
  have key : ∀ {a b : List Att} {p : Str × Str}, lightA a = true → p ∈ pairsL a b → List.length p.1 ≤ 300 := fun {a b p} ha hp => by
    obtain ⟨⟨t, ht, e, _⟩, _⟩ := mem_pairs.1 (show (p.1, p.2) ∈ pairsL a b from hp)
    rw [← e, lower_len]
    exact ((lightA_fit2 ha).2.2.2 t ht).1
  unfold editsP at he
  rw [onlyL_pairs, onlyL_pairs] at he
  rcases List.mem_append.1 he with he | he
  · obtain ⟨p, hp, rfl⟩ := List.mem_map.1 he
    exact key ha hp
  · obtain ⟨p, hp, rfl⟩ := List.mem_map.1 he
    exact key hb hp
theorem curK_bnd {a b : List Att} (ha : lightA a = true) (hb : lightA b = true) : ∀ k, k ≤ (editsP a b).length → Bnd (curK a (editsP a b) k) k
  | 0, _ => by
    have h := lightA_fit2 ha
    have h0 : Bnd a 0 := ⟨by omega, by omega, fun t ht => (h.2.2.2 t ht).1⟩
    have : curK a (editsP a b) 0 = sortedL a := by simp [curK]
    rw [this]; exact h0.sorted
  | k + 1, hk => by
    have ih := curK_bnd ha hb k (by omega)
    rw [curK_succ (by omega)]
    have hn := edit_name ha hb (List.getElem_mem (show k < (editsP a b).length by omega))
    unfold stepE
    split
    · exact (ih.drop _ _).sorted
    · exact (ih.add hn).sorted
end Go.Proofs.Tz

/- The statements about change records: Turns, the walk. -/
set_option maxRecDepth 100000
set_option maxHeartbeats 8000000
set_option linter.unusedVariables false
set_option linter.unusedSimpArgs false
namespace Go.Proofs.Tz
open Go.Vw Go.RowKit Go.Proofs

theorem edit_mk {a b : List Att} {e : Chg} (h : e ∈ editsP a b) : ∃ o n v, e = mkC o [120] n v ∧ (o = 5 ∨ o = 4) := by
  unfold editsP at h
  rw [onlyL_pairs, onlyL_pairs] at h
  rcases List.mem_append.1 h with h | h
  · obtain ⟨p, _, rfl⟩ := List.mem_map.1 h
    exact ⟨5, _, _, rfl, .inl rfl⟩
  · obtain ⟨p, _, rfl⟩ := List.mem_map.1 h
    exact ⟨4, _, _, rfl, .inr rfl⟩
theorem stepE_add (C : List Att) (n v : Str) : stepE C (mkC 4 [120] n v) = sortedL (C ++ [(n, [v])]) := by simp [stepE, mkC]
theorem stepE_drop (C : List Att) (n v : Str) : stepE C (mkC 5 [120] n v) = sortedL (dropL C n v) := by simp [stepE, mkC]
def TuI (a b : List Att) (E : List Chg) (l : List Chg) (k : Nat) (τ : St) : Prop := τ 0 = .d (atts a) ∧ τ 1 = .d (atts b) ∧ τ 2 = .d (chgs l) ∧ τ 7 = .d (atts (curK a E k)) ∧ τ 8 = .own false 26 (E.map chgD) ∧ τ 9 = .d (.int .i64 k)
def TuJ (l : List Chg) (k : Nat) (τ : St) : Prop := τ 2 = .d (chgs l) ∧ τ 11 = .d (.int .i64 k) ∧ ∀ j (h : j < k) (h2 : j < l.length), validC (l[j]'h2).1 = true
set_option maxHeartbeats 20000000 in
theorem law8 (a b : List Att) (l : List Chg) : Ctr Tryz.prog 8 [.d (atts a), .d (atts b), .d (chgs l)] (.d (.bool true)) := by
  refine fn_of_vwp (fun i => i == 71 || i == 73 || i == 9000013) (by kernel_rfl) Tryz.func8 (by kernel_rfl) rfl rfl (Nat.le_of_ble_eq_true rfl) (by kernel_rfl) rfl rfl ?_
  have c1 := lightA_fn a
  have c2 := lightA_fn b
  have c3 := light_fn l
  have aw := awake_fn
  by_cases h1 : lightA a = true
  case neg =>
    have h1' : lightA a = false := by simpa using h1
    rw [h1'] at c1
    simp only [atts] at c1
    simp -implicitDefEqProofs [atts, chgs]
    refine callK c1 ?_
    simp -implicitDefEqProofs
    refine callK aw ?_
    simp -implicitDefEqProofs
  rw [h1] at c1
  by_cases h2 : lightA b = true
  case neg =>
    have h2' : lightA b = false := by simpa using h2
    rw [h2'] at c2
    simp only [atts] at c1 c2
    simp -implicitDefEqProofs [atts, chgs]
    refine callK c1 ?_
    simp -implicitDefEqProofs
    refine callK c2 ?_
    simp -implicitDefEqProofs
    refine callK aw ?_
    simp -implicitDefEqProofs
  rw [h2] at c2
  by_cases h3 : lightB l = true
  case neg =>
    have h3' : lightB l = false := by simpa using h3
    rw [h3'] at c3
    simp only [atts, chgs] at c1 c2 c3
    simp -implicitDefEqProofs [atts, chgs]
    refine callK c1 ?_
    simp -implicitDefEqProofs
    refine callK c2 ?_
    simp -implicitDefEqProofs
    refine callK c3 ?_
    simp -implicitDefEqProofs
    refine callK aw ?_
    simp -implicitDefEqProofs
  rw [h3] at c3
  have fa := (lightA_fit2 h1).1
  have fb := (lightA_fit2 h2).1
  have d1 := Ctr.asData (sorted_fn a fa)
  have fE := lightE_fit h1 h2
  have fE2 := lightE_fit h2 h1
  have l1 := onlyL_le (o := 5) (id := [120]) fE h1
  have l2 := onlyL_le (o := 4) (id := [120]) fE2 h2
  have d2 := edits_fn [120] a b fE fE2 (by omega) (by omega)
  have hEl : (editsP a b).length ≤ 16000 := by unfold editsP; rw [List.length_append]; omega
  have he : onlyL 5 [120] a b ++ onlyL 4 [120] b a = editsP a b := rfl
  rw [he] at d2
  have k0 : sortedL a = curK a (editsP a b) 0 := by simp [curK]
  rw [k0] at d1
  have tH := @turn_has a b
  have tS := fun k => @curK_succ a (editsP a b) k
  have tB := curK_bnd h1 h2
  have tN := @edit_name a b h1 h2
  have tM := @edit_mk a b
  have tE := turn_end a b
  clear he k0
  generalize editsP a b = E at *
  simp only [atts, chgs] at c1 c2 c3 d1 d2
  simp -implicitDefEqProofs [atts, chgs]
  refine callK c1 ?_
  simp -implicitDefEqProofs
  refine callK c2 ?_
  simp -implicitDefEqProofs
  refine callK c3 ?_
  simp -implicitDefEqProofs
  refine callK d1 ?_
  simp -implicitDefEqProofs
  refine callK d2 ?_
  simp -implicitDefEqProofs
  refine loopN E.length (TuI a b E l) ⟨by simp [atts], by simp [atts], by simp [chgs], by simp [atts], by simp, by simp⟩ ?_
  clear c1 c2 c3 d1 d2
  rintro k τ hk ⟨g0, g1, g2, g7, g8, g9⟩
  by_cases hlt : k < E.length
  · have hlt' : (k : Int) < E.length := by omega
    obtain ⟨o, n, v, hmk, ho⟩ := tM (List.getElem_mem hlt)
    have hh := tH hlt
    have hs := tS k hlt
    have hB := tB k (by omega)
    have hn := tN (List.getElem_mem hlt)
    have hF := hB.fit (by omega)
    rw [hmk] at hh hs hn
    simp only [mkC] at hh hn
    generalize hK2 : curK a E (k + 1) = C2 at *
    generalize curK a E k = C1 at *
    have e1 := has2_fn C1 n v hF (by omega) (by have := getL_len C1 n; have := hF.2; omega)
    have hv : v ∈ getL C1 n ↔ o = 5 := decide_eq_decide.1 hh
    clear hh
    generalize hx : E[k] = x at *
    subst hmk
    simp only [atts] at e1
    rcases ho with rfl | rfl
    · rw [stepE_drop] at hs
      have hDr := hB.drop n v
      have e2 := cutA_fn C1 n v (by have := hB.len; omega) (fun t ht => by have := total_memQ ht; have := hB.tot; omega) (hDr.fit (by omega))
      rw [← hs] at e2
      rw [decide_eq_true (hv.2 rfl)] at e1
      simp only [atts] at e2
      simp -implicitDefEqProofs [g0, g1, g2, g7, g8, g9, hlt, hlt', hx, mkC, chgD, csnD, atts, leafEq]
      refine callP e1 ?_
      simp -implicitDefEqProofs [g0, g1, g2, g7, g8, g9, atts, chgD, csnD, leafEq]
      refine callK e2 ?_
      simp -implicitDefEqProofs [g0, g1, g2, g7, g8, g9]
      repeat refine And.intro (by omega) ?_
      exact again hlt ⟨by simp [g0], by simp [g1], by simp [g2], by simp [hK2, atts], by simp [g8], by simp⟩
    · rw [stepE_add] at hs
      have hA := hB.add (n := n) (v := v) hn
      have e2 := Ctr.asData (sorted_fn _ (hA.fit (by omega)))
      rw [← hs] at e2
      rw [decide_eq_false (fun q => by have := hv.1 q; omega)] at e1
      simp only [atts, att, List.map_append, List.map_cons, List.map_nil] at e1 e2
      simp -implicitDefEqProofs [g0, g1, g2, g7, g8, g9, hlt, hlt', hx, mkC, chgD, csnD, atts, att, leafEq]
      refine callP e1 ?_
      simp -implicitDefEqProofs [g0, g1, g2, g7, g8, g9, atts, att, chgD, csnD, leafEq]
      refine ⟨by rintro u _ _ _ rfl; simp [width, widths, strs], by have := hB.len; omega, by have := hB.len; omega, by have := hB.len; omega, by have := hB.len; omega, ?_⟩
      simp only [strs, List.map_cons, List.map_nil] at e2
      refine callP e2 ?_
      simp -implicitDefEqProofs [g0, g1, g2, g7, g8, g9]
      repeat refine And.intro (by omega) ?_
      exact again hlt ⟨by simp [g0], by simp [g1], by simp [g2], by simp [hK2, atts], by simp [g8], by simp⟩
  · have hlt' : ¬ (k : Int) < E.length := by omega
    obtain rfl : k = E.length := by omega
    rw [tE] at g7
    have d3 := Ctr.asData (sorted_fn b fb)
    have hBb : Bnd (sortedL b) E.length := by rw [← tE]; exact tB _ (Nat.le_refl _)
    have d4 := sameA_fn (sortedL b) (sortedL b) (hBb.fit (by omega)).1 (hBb.fit (by omega)).1
    rw [decide_eq_true rfl] at d4
    generalize sortedL b = B at *
    simp only [atts] at d3 d4
    simp -implicitDefEqProofs [g0, g1, g2, g7, g8, g9, hlt', atts]
    refine callK d3 ?_
    simp -implicitDefEqProofs [g0, g1, g2, g7, g8, g9, atts]
    refine callK d4 ?_
    simp -implicitDefEqProofs [g0, g1, g2, g7, g8, g9, atts]
    refine loopN l.length (TuJ l) ⟨by simp [g2], by simp, fun j h => by omega⟩ ?_
    clear g0 g1 g2 g7 g8 g9 d3 d4 τ
    rintro k τ hk ⟨g2, g11, hall⟩
    by_cases hlt2 : k < l.length
    · have hlt2' : (k : Int) < l.length := by omega
      have ll := (light_all h3).1
      have e1 := cvalid_fn l[k].1
      generalize hx : l[k] = x at *
      by_cases hv : validC x.1 = true
      · rw [hv] at e1
        simp only [csnD] at e1
        simp -implicitDefEqProofs [g2, g11, hlt2, hlt2', hx, chgs, chgD, csnD]
        refine callK e1 ?_
        simp -implicitDefEqProofs [g2, g11]
        repeat refine And.intro (by omega) ?_
        have hall' : ∀ j (h : j < k + 1) (h2 : j < l.length), validC (l[j]'h2).1 = true := fun j h h2 => by
          by_cases e : j = k
          · subst e; rw [hx]; exact hv
          · exact hall j (by omega) h2
        exact again hlt2 ⟨by simp [g2, chgs, chgD, csnD], by simp, hall'⟩
      · have hv' : validC x.1 = false := by simpa using hv
        rw [hv'] at e1
        simp only [csnD] at e1
        simp -implicitDefEqProofs [g2, g11, hlt2, hlt2', hx, chgs, chgD, csnD]
        refine callK e1 ?_
        simp -implicitDefEqProofs [g2, g11]
        refine callK aw ?_
        simp -implicitDefEqProofs
    · have hlt2' : ¬ (k : Int) < l.length := by omega
      have hvall : ∀ c ∈ l, validC c.1 = true := fun c hc => by
        obtain ⟨j, hj, rfl⟩ := List.mem_iff_getElem.1 hc
        exact hall j (by omega) hj
      have ll := (light_all h3).1
      have e1 := vec_fn l (by omega)
      rw [vec_law] at e1
      have e2 := since_fn l (vecK l 8) (by omega) (by have := vecK_len l; omega)
      rw [since_vec hvall] at e2
      generalize vecK l 8 = V at *
      simp only [chgs, csns] at e1 e2
      simp -implicitDefEqProofs [g2, g11, hlt2', chgs]
      refine callK e1 ?_
      simp -implicitDefEqProofs [g2, g11, chgs]
      refine callK e2 ?_
      simp -implicitDefEqProofs [g2, g11, chgs]
      refine callK aw ?_
      simp -implicitDefEqProofs
theorem ChangeTurns_ok (a b : List Att) (l : List Chg) (hb : D.lims 140737488351232 [atts a, atts b, chgs l]) : Ctr Tryz.prog 8 [.d (atts a), .d (atts b), .d (chgs l)] (.d (.bool true)) := law8 a b l
end Go.Proofs.Tz

/- The statements about change records: Turns, and the shapes of its arguments. -/
namespace Go.Proofs.Tz
open Go.Vw Go.RowKit Go.Proofs
end Go.Proofs.Tz
