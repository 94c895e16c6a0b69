/-
  What the functions that the statements about layer 16 (change) reach compute, part 3 of 4: contracts and plain laws, for lists and strings of bounded size (each theorem states its bound).
-/
import Derived.Test.YtmpiebjhcbkakaaGreatDoorTt
import Derived.Test.YtmpiebjhcbkakaaGreatDoorTs
import Derived.Test.YtmpiebjhcbkakaaGreatDoorWu
import Derived.Shelf.SlSortCmp.WholeK
import Derived.Shelf.SlSortCmp.NoneTotal
import Derived.Shelf.SlicesG.Cmp
import Derived.Shelf.SlicesG.CompactS
import Derived.Shelf.SlicesG.Delete
import Derived.Shelf.SortM.Plain
import Derived.Shelf.SortM.SortNone
import Derived.Shelf.SlGeneric
import Derived.Ground.SlgmProg
import Derived.Ground.SlgnProg
import Derived.Ground.SlsfProg
import Derived.Test.YtmpiebjhcbkakaaGreatDoorProg
import Derived.WalkKit
import Derived.Lib.RowBridge
import Derived.Lib.AppendZeros

set_option linter.unusedSimpArgs false
set_option linter.unusedVariables false

/- Change records: Parse of the reference. -/
set_option maxRecDepth 100000
set_option maxHeartbeats 4000000
set_option linter.unusedVariables false
set_option linter.unusedSimpArgs false
namespace Go.Proofs.Tz
open Go.Vw Go.RowKit Go.Proofs

end Go.Proofs.Tz

/- Change records: Text (both). -/
set_option maxRecDepth 100000
set_option maxHeartbeats 4000000
set_option linter.unusedVariables false
set_option linter.unusedSimpArgs false
namespace Go.Proofs.Tz
open Go.Vw Go.RowKit Go.Proofs

structure FitCs (l : List Chg) : Prop where
  len : l.length < 900000
  all : ∀ c ∈ l, FitC c
end Go.Proofs.Tz

/- Change records: Parse. -/
set_option maxRecDepth 100000
set_option maxHeartbeats 4000000
set_option linter.unusedVariables false
set_option linter.unusedSimpArgs false
namespace Go.Proofs.Tz
open Go.Vw Go.RowKit Go.Proofs

theorem parseCh_fn (s : Str) (hs : List.length s < 900000) : Ctr Tryz.prog 15 [.d (.str s)] (.tup [.d (chgD (parseCT s).1), .d (.int .i64 (parseCT s).2)]) := by
  refine fn_of_vwpN (rv := .cell 2 26) (rs := [.tmp 3]) (r := .d (chgD (parseCT s).1)) (ys := [.d (.int .i64 (parseCT s).2)]) (fun i => i == 9000008) (by kernel_rfl) Tryz.func15 (by kernel_rfl) rfl rfl (by simp) (Nat.le_of_ble_eq_true rfl) (by kernel_rfl) rfl rfl ?_
  obtain ⟨R, hR⟩ : ∃ R, parseCT s = R := ⟨_, rfl⟩
  rw [hR]
  have c1 := split_fn s 32 (by omega)
  have hle := splitB_le 32 s
  have hws : ∃ ws, splitB 32 s = ws := ⟨_, rfl⟩
  obtain ⟨ws, hws⟩ := hws
  have hne := splitB_ne 32 s
  rw [hws] at c1 hle hne
  have hread : readC s = ofWs s ws := by rw [readC, hws]
  obtain ⟨a, w1, rfl⟩ : ∃ a l, ws = a :: l := by
    cases ws with
    | nil => exact absurd rfl hne
    | cons a l => exact ⟨a, l, rfl⟩
  have la := hle a (by simp)
  have c2 := index_fn wordsL a (by simp)
  have hix := idx_lt a
  generalize idxG (fun x => decide (a = x)) 0 wordsL = X at *
  simp only [strs, wordsL, List.map_cons, List.map_nil] at c2
  have hz0 : zeroC = ((0, 0, 0), 0, [], [], [], []) := rfl
  simp only [List.map_cons] at c1
  rcases hix with ⟨hX, hV⟩ | ⟨hX, hV1, hV5⟩
  case inl =>
    have hn : readC s = none := by
      rw [hread]
      unfold ofWs
      split
      · exact fin_op (by rename_i e; simp only [List.cons.injEq] at e; simp only [← e.1]; omega)
      · exact fin_op (by rename_i e; simp only [List.cons.injEq] at e; simp only [← e.1]; omega)
      · exact fin_op (by rename_i e; simp only [List.cons.injEq] at e; simp only [← e.1]; omega)
      · rfl
    rw [parseCT_none hn, hz0] at hR
    subst hR
    simp -implicitDefEqProofs [gwords, chgD, csnD, hX]
    refine callK c1 ?_
    simp -implicitDefEqProofs [gwords, chgD, csnD, hX]
    refine callP c2 ?_
    simp -implicitDefEqProofs [gwords, chgD, csnD, hX]
  have hX1 : ¬ X < 1 := by omega
  rcases w1 with _ | ⟨b, w2⟩
  case nil =>
    have hn : readC s = none := by rw [hread]; rfl
    rw [parseCT_none hn, hz0] at hR
    subst hR
    simp -implicitDefEqProofs [gwords, chgD, csnD, hX1]
    refine callK c1 ?_
    simp -implicitDefEqProofs [gwords, chgD, csnD, hX1]
    refine callP c2 ?_
    simp -implicitDefEqProofs [gwords, chgD, csnD, hX1]
  have lb := hle b (by simp)
  rcases w2 with _ | ⟨i, w3⟩
  case nil =>
    have hn : readC s = none := by rw [hread]; rfl
    rw [parseCT_none hn, hz0] at hR
    subst hR
    simp -implicitDefEqProofs [gwords, chgD, csnD, hX1]
    refine callK c1 ?_
    simp -implicitDefEqProofs [gwords, chgD, csnD, hX1]
    refine callP c2 ?_
    simp -implicitDefEqProofs [gwords, chgD, csnD, hX1]
  have li := hle i (by simp)
  have c3 := csnparse_fn b (by omega)
  generalize hPb : parseC b = P at *
  obtain ⟨⟨p1, p2, p3⟩, pe⟩ := P
  simp only [csnD] at c3
  have hl3 : ¬ ((w3.length : Int) + 1 + 1 + 1 < 3) := by omega
  by_cases hpe : pe = 0
  case neg =>
    have hn : readC s = none := by
      rw [hread]
      unfold ofWs
      split
      · exact fin_err _ (by rename_i e; simp only [List.cons.injEq] at e; rw [← e.2.1, hPb]; exact hpe)
      · exact fin_err _ (by rename_i e; simp only [List.cons.injEq] at e; rw [← e.2.1, hPb]; exact hpe)
      · exact fin_err _ (by rename_i e; simp only [List.cons.injEq] at e; rw [← e.2.1, hPb]; exact hpe)
      · rfl
    rw [parseCT_none hn, hz0] at hR
    subst hR
    simp -implicitDefEqProofs [gwords, chgD, csnD, hX1, hl3, hpe]
    refine callK c1 ?_
    simp -implicitDefEqProofs [gwords, chgD, csnD, hX1, hl3, hpe]
    refine callP c2 ?_
    simp -implicitDefEqProofs [gwords, chgD, csnD, hX1, hl3, hpe]
    refine callK c3 ?_
    simp -implicitDefEqProofs [gwords, chgD, csnD, hX1, hl3, hpe]
  subst hpe
  subst hX
  obtain ⟨V, hVe⟩ : ∃ V, opV a = V := ⟨_, rfl⟩
  rw [hVe] at hV1 hV5 c2 hX1
  have hop : V = 1 ∨ V = 2 ∨ V = 3 ∨ V = 4 ∨ V = 5 := by omega
  have hwsl : (splitB 32 s).length = w3.length + 3 := by rw [hws]; simp
  rcases w3 with _ | ⟨x, w4⟩
  case nil =>
    rcases hop with rfl | rfl | rfl | rfl | rfl
    · have hn : readC s = none := by rw [hread]; exact fin_len (by rw [hwsl]; simp [lineWs, namedK, valuedK, hVe])
      rw [parseCT_none hn, hz0] at hR
      subst hR
      simp -implicitDefEqProofs [gwords, chgD, csnD, hX1]
      refine callK c1 ?_
      simp -implicitDefEqProofs [gwords, chgD, csnD, hX1]
      refine callP c2 ?_
      simp -implicitDefEqProofs [gwords, chgD, csnD, hX1]
      refine callK c3 ?_
      simp -implicitDefEqProofs [gwords, chgD, csnD, hX1]
    · have c9 := line_fn ((p1, p2, p3), 2, i, [], [], []) ⟨by simp only; omega, by simp, by simp, by simp⟩
      have hfin := parseCT_fin (s := s) (c := ((p1, p2, p3), 2, i, [], [], [])) (by rw [hread]; simp only [ofWs, hPb, hVe])
      rw [hR] at hfin
      simp only [chgD, csnD] at c9
      generalize lineCT ((p1, p2, p3), 2, i, [], [], []) = LE at *
      obtain ⟨L, E⟩ := LE
      simp only at c9 hfin
      by_cases hE : E = 0
      · by_cases hL : L = s
        · rw [if_pos ⟨hE, hL⟩] at hfin
          subst hfin
          simp -implicitDefEqProofs [gwords, chgD, csnD, hX1, hE, hL]
          refine callK c1 ?_
          simp -implicitDefEqProofs [gwords, chgD, csnD, hX1, hE, hL]
          refine callP c2 ?_
          simp -implicitDefEqProofs [gwords, chgD, csnD, hX1, hE, hL]
          refine callK c3 ?_
          simp -implicitDefEqProofs [gwords, chgD, csnD, hX1, hE, hL]
          refine callK c9 ?_
          simp -implicitDefEqProofs [gwords, chgD, csnD, hX1, hE, hL]
        · rw [if_neg (fun q => hL q.2), hz0] at hfin
          subst hfin
          simp -implicitDefEqProofs [gwords, chgD, csnD, hX1, hE, hL]
          refine callK c1 ?_
          simp -implicitDefEqProofs [gwords, chgD, csnD, hX1, hE, hL]
          refine callP c2 ?_
          simp -implicitDefEqProofs [gwords, chgD, csnD, hX1, hE, hL]
          refine callK c3 ?_
          simp -implicitDefEqProofs [gwords, chgD, csnD, hX1, hE, hL]
          refine callK c9 ?_
          simp -implicitDefEqProofs [gwords, chgD, csnD, hX1, hE, hL]
      · rw [if_neg (fun q => hE q.1), hz0] at hfin
        subst hfin
        simp -implicitDefEqProofs [gwords, chgD, csnD, hX1, hE]
        refine callK c1 ?_
        simp -implicitDefEqProofs [gwords, chgD, csnD, hX1, hE]
        refine callP c2 ?_
        simp -implicitDefEqProofs [gwords, chgD, csnD, hX1, hE]
        refine callK c3 ?_
        simp -implicitDefEqProofs [gwords, chgD, csnD, hX1, hE]
        refine callK c9 ?_
        simp -implicitDefEqProofs [gwords, chgD, csnD, hX1, hE]
    · have hn : readC s = none := by rw [hread]; exact fin_len (by rw [hwsl]; simp [lineWs, namedK, valuedK, hVe])
      rw [parseCT_none hn, hz0] at hR
      subst hR
      simp -implicitDefEqProofs [gwords, chgD, csnD, hX1]
      refine callK c1 ?_
      simp -implicitDefEqProofs [gwords, chgD, csnD, hX1]
      refine callP c2 ?_
      simp -implicitDefEqProofs [gwords, chgD, csnD, hX1]
      refine callK c3 ?_
      simp -implicitDefEqProofs [gwords, chgD, csnD, hX1]
    · have hn : readC s = none := by rw [hread]; exact fin_len (by rw [hwsl]; simp [lineWs, namedK, valuedK, hVe])
      rw [parseCT_none hn, hz0] at hR
      subst hR
      simp -implicitDefEqProofs [gwords, chgD, csnD, hX1]
      refine callK c1 ?_
      simp -implicitDefEqProofs [gwords, chgD, csnD, hX1]
      refine callP c2 ?_
      simp -implicitDefEqProofs [gwords, chgD, csnD, hX1]
      refine callK c3 ?_
      simp -implicitDefEqProofs [gwords, chgD, csnD, hX1]
    · have hn : readC s = none := by rw [hread]; exact fin_len (by rw [hwsl]; simp [lineWs, namedK, valuedK, hVe])
      rw [parseCT_none hn, hz0] at hR
      subst hR
      simp -implicitDefEqProofs [gwords, chgD, csnD, hX1]
      refine callK c1 ?_
      simp -implicitDefEqProofs [gwords, chgD, csnD, hX1]
      refine callP c2 ?_
      simp -implicitDefEqProofs [gwords, chgD, csnD, hX1]
      refine callK c3 ?_
      simp -implicitDefEqProofs [gwords, chgD, csnD, hX1]
  have lx := hle x (by simp)
  have c4 := unescape_fn x (by omega)
  have ux := unescP_le x
  rcases w4 with _ | ⟨y, w5⟩
  case nil =>
    rcases hop with rfl | rfl | rfl | rfl | rfl
    · have c9 := line_fn ((p1, p2, p3), 1, i, (unescP x).1, [], []) ⟨by simp only; omega, by simp only; omega, by simp, by simp⟩
      have hfin := parseCT_fin (s := s) (c := ((p1, p2, p3), 1, i, (unescP x).1, [], [])) (by rw [hread]; simp only [ofWs, hPb, hVe])
      rw [hR] at hfin
      simp only [chgD, csnD] at c9
      generalize lineCT ((p1, p2, p3), 1, i, (unescP x).1, [], []) = LE at *
      obtain ⟨L, E⟩ := LE
      simp only at c9 hfin
      by_cases hE : E = 0
      · by_cases hL : L = s
        · rw [if_pos ⟨hE, hL⟩] at hfin
          subst hfin
          simp -implicitDefEqProofs [gwords, chgD, csnD, hX1, hE, hL]
          refine callK c1 ?_
          simp -implicitDefEqProofs [gwords, chgD, csnD, hX1, hE, hL]
          refine callP c2 ?_
          simp -implicitDefEqProofs [gwords, chgD, csnD, hX1, hE, hL]
          refine callK c3 ?_
          simp -implicitDefEqProofs [gwords, chgD, csnD, hX1, hE, hL]
          refine callK c4 ?_
          simp -implicitDefEqProofs [gwords, chgD, csnD, hX1, hE, hL]
          refine callK c9 ?_
          simp -implicitDefEqProofs [gwords, chgD, csnD, hX1, hE, hL]
        · rw [if_neg (fun q => hL q.2), hz0] at hfin
          subst hfin
          simp -implicitDefEqProofs [gwords, chgD, csnD, hX1, hE, hL]
          refine callK c1 ?_
          simp -implicitDefEqProofs [gwords, chgD, csnD, hX1, hE, hL]
          refine callP c2 ?_
          simp -implicitDefEqProofs [gwords, chgD, csnD, hX1, hE, hL]
          refine callK c3 ?_
          simp -implicitDefEqProofs [gwords, chgD, csnD, hX1, hE, hL]
          refine callK c4 ?_
          simp -implicitDefEqProofs [gwords, chgD, csnD, hX1, hE, hL]
          refine callK c9 ?_
          simp -implicitDefEqProofs [gwords, chgD, csnD, hX1, hE, hL]
      · rw [if_neg (fun q => hE q.1), hz0] at hfin
        subst hfin
        simp -implicitDefEqProofs [gwords, chgD, csnD, hX1, hE]
        refine callK c1 ?_
        simp -implicitDefEqProofs [gwords, chgD, csnD, hX1, hE]
        refine callP c2 ?_
        simp -implicitDefEqProofs [gwords, chgD, csnD, hX1, hE]
        refine callK c3 ?_
        simp -implicitDefEqProofs [gwords, chgD, csnD, hX1, hE]
        refine callK c4 ?_
        simp -implicitDefEqProofs [gwords, chgD, csnD, hX1, hE]
        refine callK c9 ?_
        simp -implicitDefEqProofs [gwords, chgD, csnD, hX1, hE]
    · have hn : readC s = none := by rw [hread]; exact fin_len (by rw [hwsl]; simp [lineWs, namedK, valuedK, hVe])
      rw [parseCT_none hn, hz0] at hR
      subst hR
      simp -implicitDefEqProofs [gwords, chgD, csnD, hX1]
      refine callK c1 ?_
      simp -implicitDefEqProofs [gwords, chgD, csnD, hX1]
      refine callP c2 ?_
      simp -implicitDefEqProofs [gwords, chgD, csnD, hX1]
      refine callK c3 ?_
      simp -implicitDefEqProofs [gwords, chgD, csnD, hX1]
    · have c9 := line_fn ((p1, p2, p3), 3, i, (unescP x).1, [], []) ⟨by simp only; omega, by simp only; omega, by simp, by simp⟩
      have hfin := parseCT_fin (s := s) (c := ((p1, p2, p3), 3, i, (unescP x).1, [], [])) (by rw [hread]; simp only [ofWs, hPb, hVe])
      rw [hR] at hfin
      simp only [chgD, csnD] at c9
      generalize lineCT ((p1, p2, p3), 3, i, (unescP x).1, [], []) = LE at *
      obtain ⟨L, E⟩ := LE
      simp only at c9 hfin
      by_cases hE : E = 0
      · by_cases hL : L = s
        · rw [if_pos ⟨hE, hL⟩] at hfin
          subst hfin
          simp -implicitDefEqProofs [gwords, chgD, csnD, hX1, hE, hL]
          refine callK c1 ?_
          simp -implicitDefEqProofs [gwords, chgD, csnD, hX1, hE, hL]
          refine callP c2 ?_
          simp -implicitDefEqProofs [gwords, chgD, csnD, hX1, hE, hL]
          refine callK c3 ?_
          simp -implicitDefEqProofs [gwords, chgD, csnD, hX1, hE, hL]
          refine callK c4 ?_
          simp -implicitDefEqProofs [gwords, chgD, csnD, hX1, hE, hL]
          refine callK c9 ?_
          simp -implicitDefEqProofs [gwords, chgD, csnD, hX1, hE, hL]
        · rw [if_neg (fun q => hL q.2), hz0] at hfin
          subst hfin
          simp -implicitDefEqProofs [gwords, chgD, csnD, hX1, hE, hL]
          refine callK c1 ?_
          simp -implicitDefEqProofs [gwords, chgD, csnD, hX1, hE, hL]
          refine callP c2 ?_
          simp -implicitDefEqProofs [gwords, chgD, csnD, hX1, hE, hL]
          refine callK c3 ?_
          simp -implicitDefEqProofs [gwords, chgD, csnD, hX1, hE, hL]
          refine callK c4 ?_
          simp -implicitDefEqProofs [gwords, chgD, csnD, hX1, hE, hL]
          refine callK c9 ?_
          simp -implicitDefEqProofs [gwords, chgD, csnD, hX1, hE, hL]
      · rw [if_neg (fun q => hE q.1), hz0] at hfin
        subst hfin
        simp -implicitDefEqProofs [gwords, chgD, csnD, hX1, hE]
        refine callK c1 ?_
        simp -implicitDefEqProofs [gwords, chgD, csnD, hX1, hE]
        refine callP c2 ?_
        simp -implicitDefEqProofs [gwords, chgD, csnD, hX1, hE]
        refine callK c3 ?_
        simp -implicitDefEqProofs [gwords, chgD, csnD, hX1, hE]
        refine callK c4 ?_
        simp -implicitDefEqProofs [gwords, chgD, csnD, hX1, hE]
        refine callK c9 ?_
        simp -implicitDefEqProofs [gwords, chgD, csnD, hX1, hE]
    · have hn : readC s = none := by rw [hread]; exact fin_len (by rw [hwsl]; simp [lineWs, namedK, valuedK, hVe])
      rw [parseCT_none hn, hz0] at hR
      subst hR
      simp -implicitDefEqProofs [gwords, chgD, csnD, hX1]
      refine callK c1 ?_
      simp -implicitDefEqProofs [gwords, chgD, csnD, hX1]
      refine callP c2 ?_
      simp -implicitDefEqProofs [gwords, chgD, csnD, hX1]
      refine callK c3 ?_
      simp -implicitDefEqProofs [gwords, chgD, csnD, hX1]
    · have hn : readC s = none := by rw [hread]; exact fin_len (by rw [hwsl]; simp [lineWs, namedK, valuedK, hVe])
      rw [parseCT_none hn, hz0] at hR
      subst hR
      simp -implicitDefEqProofs [gwords, chgD, csnD, hX1]
      refine callK c1 ?_
      simp -implicitDefEqProofs [gwords, chgD, csnD, hX1]
      refine callP c2 ?_
      simp -implicitDefEqProofs [gwords, chgD, csnD, hX1]
      refine callK c3 ?_
      simp -implicitDefEqProofs [gwords, chgD, csnD, hX1]
  have ly := hle y (by simp)
  have c5 := unescape_fn y (by omega)
  have uy := unescP_le y
  rcases w5 with _ | ⟨z, w6⟩
  case nil =>
    rcases hop with rfl | rfl | rfl | rfl | rfl
    · have hn : readC s = none := by rw [hread]; exact fin_len (by rw [hwsl]; simp [lineWs, namedK, valuedK, hVe])
      rw [parseCT_none hn, hz0] at hR
      subst hR
      simp -implicitDefEqProofs [gwords, chgD, csnD, hX1]
      refine callK c1 ?_
      simp -implicitDefEqProofs [gwords, chgD, csnD, hX1]
      refine callP c2 ?_
      simp -implicitDefEqProofs [gwords, chgD, csnD, hX1]
      refine callK c3 ?_
      simp -implicitDefEqProofs [gwords, chgD, csnD, hX1]
    · have hn : readC s = none := by rw [hread]; exact fin_len (by rw [hwsl]; simp [lineWs, namedK, valuedK, hVe])
      rw [parseCT_none hn, hz0] at hR
      subst hR
      simp -implicitDefEqProofs [gwords, chgD, csnD, hX1]
      refine callK c1 ?_
      simp -implicitDefEqProofs [gwords, chgD, csnD, hX1]
      refine callP c2 ?_
      simp -implicitDefEqProofs [gwords, chgD, csnD, hX1]
      refine callK c3 ?_
      simp -implicitDefEqProofs [gwords, chgD, csnD, hX1]
    · have hn : readC s = none := by rw [hread]; exact fin_len (by rw [hwsl]; simp [lineWs, namedK, valuedK, hVe])
      rw [parseCT_none hn, hz0] at hR
      subst hR
      simp -implicitDefEqProofs [gwords, chgD, csnD, hX1]
      refine callK c1 ?_
      simp -implicitDefEqProofs [gwords, chgD, csnD, hX1]
      refine callP c2 ?_
      simp -implicitDefEqProofs [gwords, chgD, csnD, hX1]
      refine callK c3 ?_
      simp -implicitDefEqProofs [gwords, chgD, csnD, hX1]
    · have c9 := line_fn ((p1, p2, p3), 4, i, [], (unescP x).1, (unescP y).1) ⟨by simp only; omega, by simp, by simp only; omega, by simp only; omega⟩
      have hfin := parseCT_fin (s := s) (c := ((p1, p2, p3), 4, i, [], (unescP x).1, (unescP y).1)) (by rw [hread]; simp only [ofWs, hPb, hVe])
      rw [hR] at hfin
      simp only [chgD, csnD] at c9
      generalize lineCT ((p1, p2, p3), 4, i, [], (unescP x).1, (unescP y).1) = LE at *
      obtain ⟨L, E⟩ := LE
      simp only at c9 hfin
      by_cases hE : E = 0
      · by_cases hL : L = s
        · rw [if_pos ⟨hE, hL⟩] at hfin
          subst hfin
          simp -implicitDefEqProofs [gwords, chgD, csnD, hX1, hE, hL]
          refine callK c1 ?_
          simp -implicitDefEqProofs [gwords, chgD, csnD, hX1, hE, hL]
          refine callP c2 ?_
          simp -implicitDefEqProofs [gwords, chgD, csnD, hX1, hE, hL]
          refine callK c3 ?_
          simp -implicitDefEqProofs [gwords, chgD, csnD, hX1, hE, hL]
          refine callK c4 ?_
          simp -implicitDefEqProofs [gwords, chgD, csnD, hX1, hE, hL]
          refine callK c5 ?_
          simp -implicitDefEqProofs [gwords, chgD, csnD, hX1, hE, hL]
          refine callK c9 ?_
          simp -implicitDefEqProofs [gwords, chgD, csnD, hX1, hE, hL]
        · rw [if_neg (fun q => hL q.2), hz0] at hfin
          subst hfin
          simp -implicitDefEqProofs [gwords, chgD, csnD, hX1, hE, hL]
          refine callK c1 ?_
          simp -implicitDefEqProofs [gwords, chgD, csnD, hX1, hE, hL]
          refine callP c2 ?_
          simp -implicitDefEqProofs [gwords, chgD, csnD, hX1, hE, hL]
          refine callK c3 ?_
          simp -implicitDefEqProofs [gwords, chgD, csnD, hX1, hE, hL]
          refine callK c4 ?_
          simp -implicitDefEqProofs [gwords, chgD, csnD, hX1, hE, hL]
          refine callK c5 ?_
          simp -implicitDefEqProofs [gwords, chgD, csnD, hX1, hE, hL]
          refine callK c9 ?_
          simp -implicitDefEqProofs [gwords, chgD, csnD, hX1, hE, hL]
      · rw [if_neg (fun q => hE q.1), hz0] at hfin
        subst hfin
        simp -implicitDefEqProofs [gwords, chgD, csnD, hX1, hE]
        refine callK c1 ?_
        simp -implicitDefEqProofs [gwords, chgD, csnD, hX1, hE]
        refine callP c2 ?_
        simp -implicitDefEqProofs [gwords, chgD, csnD, hX1, hE]
        refine callK c3 ?_
        simp -implicitDefEqProofs [gwords, chgD, csnD, hX1, hE]
        refine callK c4 ?_
        simp -implicitDefEqProofs [gwords, chgD, csnD, hX1, hE]
        refine callK c5 ?_
        simp -implicitDefEqProofs [gwords, chgD, csnD, hX1, hE]
        refine callK c9 ?_
        simp -implicitDefEqProofs [gwords, chgD, csnD, hX1, hE]
    · have c9 := line_fn ((p1, p2, p3), 5, i, [], (unescP x).1, (unescP y).1) ⟨by simp only; omega, by simp, by simp only; omega, by simp only; omega⟩
      have hfin := parseCT_fin (s := s) (c := ((p1, p2, p3), 5, i, [], (unescP x).1, (unescP y).1)) (by rw [hread]; simp only [ofWs, hPb, hVe])
      rw [hR] at hfin
      simp only [chgD, csnD] at c9
      generalize lineCT ((p1, p2, p3), 5, i, [], (unescP x).1, (unescP y).1) = LE at *
      obtain ⟨L, E⟩ := LE
      simp only at c9 hfin
      by_cases hE : E = 0
      · by_cases hL : L = s
        · rw [if_pos ⟨hE, hL⟩] at hfin
          subst hfin
          simp -implicitDefEqProofs [gwords, chgD, csnD, hX1, hE, hL]
          refine callK c1 ?_
          simp -implicitDefEqProofs [gwords, chgD, csnD, hX1, hE, hL]
          refine callP c2 ?_
          simp -implicitDefEqProofs [gwords, chgD, csnD, hX1, hE, hL]
          refine callK c3 ?_
          simp -implicitDefEqProofs [gwords, chgD, csnD, hX1, hE, hL]
          refine callK c4 ?_
          simp -implicitDefEqProofs [gwords, chgD, csnD, hX1, hE, hL]
          refine callK c5 ?_
          simp -implicitDefEqProofs [gwords, chgD, csnD, hX1, hE, hL]
          refine callK c9 ?_
          simp -implicitDefEqProofs [gwords, chgD, csnD, hX1, hE, hL]
        · rw [if_neg (fun q => hL q.2), hz0] at hfin
          subst hfin
          simp -implicitDefEqProofs [gwords, chgD, csnD, hX1, hE, hL]
          refine callK c1 ?_
          simp -implicitDefEqProofs [gwords, chgD, csnD, hX1, hE, hL]
          refine callP c2 ?_
          simp -implicitDefEqProofs [gwords, chgD, csnD, hX1, hE, hL]
          refine callK c3 ?_
          simp -implicitDefEqProofs [gwords, chgD, csnD, hX1, hE, hL]
          refine callK c4 ?_
          simp -implicitDefEqProofs [gwords, chgD, csnD, hX1, hE, hL]
          refine callK c5 ?_
          simp -implicitDefEqProofs [gwords, chgD, csnD, hX1, hE, hL]
          refine callK c9 ?_
          simp -implicitDefEqProofs [gwords, chgD, csnD, hX1, hE, hL]
      · rw [if_neg (fun q => hE q.1), hz0] at hfin
        subst hfin
        simp -implicitDefEqProofs [gwords, chgD, csnD, hX1, hE]
        refine callK c1 ?_
        simp -implicitDefEqProofs [gwords, chgD, csnD, hX1, hE]
        refine callP c2 ?_
        simp -implicitDefEqProofs [gwords, chgD, csnD, hX1, hE]
        refine callK c3 ?_
        simp -implicitDefEqProofs [gwords, chgD, csnD, hX1, hE]
        refine callK c4 ?_
        simp -implicitDefEqProofs [gwords, chgD, csnD, hX1, hE]
        refine callK c5 ?_
        simp -implicitDefEqProofs [gwords, chgD, csnD, hX1, hE]
        refine callK c9 ?_
        simp -implicitDefEqProofs [gwords, chgD, csnD, hX1, hE]
  have hn : readC s = none := by rw [hread]; rfl
  rw [parseCT_none hn, hz0] at hR
  subst hR
  have l3 : ¬ ((w6.length : Int) + 1 + 1 + 1 + 1 + 1 + 1 < 3) := by omega
  have l4 : ¬ ((w6.length : Int) + 1 + 1 + 1 + 1 + 1 + 1 = 3) := by omega
  have l5 : ¬ ((w6.length : Int) + 1 + 1 + 1 + 1 + 1 + 1 = 4) := by omega
  have l6 : ¬ ((w6.length : Int) + 1 + 1 + 1 + 1 + 1 + 1 = 5) := by omega
  rcases hop with rfl | rfl | rfl | rfl | rfl
  · simp -implicitDefEqProofs [gwords, chgD, csnD, hX1, l3, l4, l5, l6]
    refine callK c1 ?_
    simp -implicitDefEqProofs [gwords, chgD, csnD, hX1, l3, l4, l5, l6]
    refine callP c2 ?_
    simp -implicitDefEqProofs [gwords, chgD, csnD, hX1, l3, l4, l5, l6]
    refine callK c3 ?_
    simp -implicitDefEqProofs [gwords, chgD, csnD, hX1, l3, l4, l5, l6]
  · simp -implicitDefEqProofs [gwords, chgD, csnD, hX1, l3, l4, l5, l6]
    refine callK c1 ?_
    simp -implicitDefEqProofs [gwords, chgD, csnD, hX1, l3, l4, l5, l6]
    refine callP c2 ?_
    simp -implicitDefEqProofs [gwords, chgD, csnD, hX1, l3, l4, l5, l6]
    refine callK c3 ?_
    simp -implicitDefEqProofs [gwords, chgD, csnD, hX1, l3, l4, l5, l6]
  · simp -implicitDefEqProofs [gwords, chgD, csnD, hX1, l3, l4, l5, l6]
    refine callK c1 ?_
    simp -implicitDefEqProofs [gwords, chgD, csnD, hX1, l3, l4, l5, l6]
    refine callP c2 ?_
    simp -implicitDefEqProofs [gwords, chgD, csnD, hX1, l3, l4, l5, l6]
    refine callK c3 ?_
    simp -implicitDefEqProofs [gwords, chgD, csnD, hX1, l3, l4, l5, l6]
  · simp -implicitDefEqProofs [gwords, chgD, csnD, hX1, l3, l4, l5, l6]
    refine callK c1 ?_
    simp -implicitDefEqProofs [gwords, chgD, csnD, hX1, l3, l4, l5, l6]
    refine callP c2 ?_
    simp -implicitDefEqProofs [gwords, chgD, csnD, hX1, l3, l4, l5, l6]
    refine callK c3 ?_
    simp -implicitDefEqProofs [gwords, chgD, csnD, hX1, l3, l4, l5, l6]
  · simp -implicitDefEqProofs [gwords, chgD, csnD, hX1, l3, l4, l5, l6]
    refine callK c1 ?_
    simp -implicitDefEqProofs [gwords, chgD, csnD, hX1, l3, l4, l5, l6]
    refine callP c2 ?_
    simp -implicitDefEqProofs [gwords, chgD, csnD, hX1, l3, l4, l5, l6]
    refine callK c3 ?_
    simp -implicitDefEqProofs [gwords, chgD, csnD, hX1, l3, l4, l5, l6]
end Go.Proofs.Tz

/- Change records: Read (both). -/
set_option maxRecDepth 100000
set_option maxHeartbeats 4000000
set_option linter.unusedVariables false
set_option linter.unusedSimpArgs false
namespace Go.Proofs.Tz
open Go.Vw Go.RowKit Go.Proofs

def ReadJ (R : List Chg × Int × Int) (N m : Nat) (τ : St) : Prop := ∃ (rest : Str) (out : List Chg), m = List.length rest ∧ τ 0 = .d (.str rest) ∧ τ 5 = .own false 26 (out.map chgD) ∧ τ 6 = .d (.int .i64 ((out.length : Int) + 1)) ∧ List.length rest ≤ N ∧ out.length ≤ 4096 ∧ readGo rest out = R
theorem readC_none {s : Str} (h : readC s = none) : parseCT s = (((0, 0, 0), 0, [], [], [], []), 4) := by rw [parseCT, h]; rfl
theorem readC_some {s : Str} {c : Chg} (h : readC s = some c) : parseCT s = (c, 0) := by rw [parseCT, h]
theorem read_fn (s : Str) (hs : List.length s < 900000) : Ctr Tryz.prog 39 [.d (.str s)] (.tup [.d (chgs (readGo s []).1), .d (.int .i64 (readGo s []).2.1), .d (.int .i64 (readGo s []).2.2)]) := by
  refine fn_of_vwpN (rv := .tmp 2) (rs := [.tmp 3, .tmp 4]) (r := .d (chgs (readGo s []).1)) (ys := [.d (.int .i64 (readGo s []).2.1), .d (.int .i64 (readGo s []).2.2)]) (fun _ => false) (by kernel_rfl) Tryz.func39 (by kernel_rfl) rfl rfl (by simp) (Nat.le_of_ble_eq_true rfl) (by kernel_rfl) rfl rfl ?_
  obtain ⟨R, hR⟩ : ∃ R, readGo s [] = R := ⟨_, rfl⟩
  rw [hR]
  simp -implicitDefEqProofs
  refine loopK (ReadJ R s.length) s.length ?_ ?_
  · exact ⟨s, [], rfl, by simp, by simp, by simp, by omega, by simp, hR⟩
  rintro m τ ⟨rest, out, rfl, h0, h5, h6, hr, ho, hI⟩
  by_cases hnil : rest = []
  · subst hnil
    rw [readGo_nil] at hI
    subst hI
    simp -implicitDefEqProofs [h0, h5, h6, chgs]
  by_cases h4 : 4096 ≤ out.length
  · have h4' : 4096 < (out.length : Int) + 1 := by omega
    rw [readGo_lim hnil h4] at hI
    subst hI
    simp -implicitDefEqProofs [h0, h5, h6, hnil, h4', chgs]
  have h4' : ¬ (4096 < (out.length : Int) + 1) := by omega
  by_cases hix : 0 ≤ ixB rest 10
  · have hlt := ixB_lt hix
    obtain ⟨k, hk⟩ := Int.eq_ofNat_of_zero_le hix
    rw [hk, Int.toNat_natCast] at hlt
    have hcut : cutB rest 10 = (rest.take k, rest.drop (k + 1), true) := by rw [cutB, if_pos hix, hk, Int.toNat_natCast]
    rw [readGo_at h4 hk] at hI
    have c1 := cut_fn rest 10 (by omega)
    have hfl : List.length (rest.take k) < 900000 := by simp; omega
    have hrl : List.length (rest.drop (k + 1)) = List.length rest - (k + 1) := by simp
    rw [hcut] at c1
    generalize rest.take k = first at *
    generalize rest.drop (k + 1) = tail at *
    have c2 := parseCh_fn first hfl
    cases hl : readC first with
    | none =>
      rw [hl] at hI
      subst hI
      rw [readC_none hl] at c2
      simp only [chgD, csnD] at c2
      simp -implicitDefEqProofs [h0, h5, h6, hnil, h4']
      refine callK c1 ?_
      simp -implicitDefEqProofs [h0, h5, h6]
      refine callK c2 ?_
      simp -implicitDefEqProofs [h0, h5, h6, chgs]
    | some r =>
      rw [hl] at hI
      rw [readC_some hl] at c2
      obtain ⟨n, op, id, nm, at_, va⟩ := r
      simp only [chgD, csnD] at c2
      simp -implicitDefEqProofs [h0, h5, h6, hnil, h4']
      refine callK c1 ?_
      simp -implicitDefEqProofs [h0, h5, h6]
      refine callK c2 ?_
      simp -implicitDefEqProofs [h0, h5, h6]
      repeat refine And.intro (by omega) ?_
      refine ⟨List.length tail, by omega, tail, out ++ [(n, op, id, nm, at_, va)], rfl, by simp, by simp [chgD, csnD], by simp, by omega, by simp; omega, hI⟩
  · have hcut : cutB rest 10 = (rest, [], false) := by rw [cutB, if_neg hix]
    have c1 := cut_fn rest 10 (by omega)
    rw [hcut] at c1
    rw [readGo_no hnil h4 (by omega)] at hI
    subst hI
    simp -implicitDefEqProofs [h0, h5, h6, hnil, h4']
    refine callK c1 ?_
    simp -implicitDefEqProofs [h0, h5, h6, chgs]

end Go.Proofs.Tz

namespace Go.Proofs.Tz
open Go.Vw
set_option maxRecDepth 100000
set_option maxHeartbeats 4000000
set_option linter.unusedSimpArgs false

/-- The head of a slice. -/
abbrev Sl := Option Addr × Nat × Nat

/-- A row of two cells, one of which bears a named slice. -/
def rw2 (x : Str × Sl) : D := .agg [.str x.1, .raw (.slice x.2.1 x.2.2.1 x.2.2.2)]

def idxR {α : Type} (p : α → Bool) : Nat → List α → Int
  | _, [] => -1
  | k, x :: l => if p x then k else idxR p (k + 1) l
theorem idxR_drop {α : Type} {p : α → Bool} {l : List α} {k : Nat} (h : k < l.length) : idxR p k (l.drop k) = if p l[k] then (k : Int) else idxR p (k + 1) (l.drop (k + 1)) := by
  rw [List.drop_eq_getElem_cons h, idxR]

/-- slices.IndexFunc of rows with named slices. -/
theorem indexR_fn (g : FuncId) (cs : List D) (hcs : (cs.all fun c => !c.isAgg) = true) (p : Str × Sl → Bool) (l : List (Str × Sl)) (hl : l.length < 1000000) (hp : ∀ a ∈ l, Ctr Tryz.prog g ([.d (rw2 a)] ++ cs.map .d) (.d (.bool (p a)))) :
    Ctr Tryz.prog 80 [.d (.sl (l.map rw2)), .d (.clo g cs)] (.d (.int .i64 (idxR p 0 l))) := by
  refine fn_of_vwp (fun _ => false) (by kernel_rfl) Tryz.func80 (by kernel_rfl) rfl rfl (Nat.le_of_ble_eq_true rfl) (by kernel_rfl) rfl rfl ?_
  simp -implicitDefEqProofs
  refine loopN l.length (fun k τ => τ 0 = .d (.sl (l.map rw2)) ∧ τ 1 = .d (.clo g cs) ∧ τ 7 = .d (.int .i64 l.length) ∧ τ 8 = .d (.int .i64 k) ∧ idxR p 0 l = idxR p k (l.drop k)) (by simp) ?_
  rintro k τ hk ⟨h0, h1, h7, h8, hi⟩
  by_cases hlt : k < l.length
  · rw [idxR_drop hlt] at hi
    have hf := hp _ (List.getElem_mem hlt)
    simp only [rw2, List.cons_append, List.nil_append] at hf
    simp -implicitDefEqProofs [h0, h1, h7, h8, rw2, hlt]
    refine ⟨by simpa using hcs, callK hf ?_⟩
    by_cases he : p l[k] = true
    · simp -implicitDefEqProofs [h0, h1, h7, h8, rw2, hlt, he]
      rw [hi, if_pos he]
    · simp -implicitDefEqProofs [h0, h1, h7, h8, rw2, hlt, he]
      refine ⟨by omega, again hlt ⟨by simp [h0, rw2], by simp [h1], by simp [h7], by simp, ?_⟩⟩
      rw [hi, if_neg he]
  · simp -implicitDefEqProofs [h0, h1, h7, h8, hlt]
    rw [hi, List.drop_eq_nil_of_le (by omega)]
    simp -implicitDefEqProofs [idxR]

theorem idxR_neg {α : Type} (p : α → Bool) : ∀ (l : List α) (k : Nat), idxR p k l = -1 → l.filter (fun x => !p x) = l
  | [], k, _ => rfl
  | x :: l, k, h => by
    rw [idxR] at h
    by_cases hx : p x = true
    · rw [if_pos hx] at h; omega
    · rw [if_neg hx] at h
      simp -implicitDefEqProofs [hx, idxR_neg p l (k + 1) h]
theorem idxR_pos {α : Type} (p : α → Bool) : ∀ (l : List α) (k : Nat), idxR p k l ≠ -1 → ∃ i : Nat, idxR p k l = ((k + i : Nat) : Int) ∧ i < l.length ∧ (l.take i).filter (fun x => !p x) = l.take i ∧ (l.take (i + 1)).filter (fun x => !p x) = l.take i
  | [], k, h => absurd rfl h
  | x :: l, k, h => by
    rw [idxR] at h ⊢
    by_cases hx : p x = true
    · rw [if_pos hx]
      exact ⟨0, by simp, by simp, by simp, by simp [hx]⟩
    · rw [if_neg hx] at h ⊢
      obtain ⟨i, h1, h2, h3, h4⟩ := idxR_pos p l (k + 1) h
      refine ⟨i + 1, by rw [h1]; omega, by simpa using h2, ?_, ?_⟩
      · simp -implicitDefEqProofs [hx, h3]
      · rw [List.take_succ_cons, List.filter_cons, if_pos (by simp [hx]), h4, List.take_succ_cons]

theorem deleteR_fn (g : FuncId) (cs : List D) (hcs : (cs.all fun c => !c.isAgg) = true) (p : Str × Sl → Bool) (l : List (Str × Sl)) (hl : l.length < 1000000) (hp : ∀ a ∈ l, Ctr Tryz.prog g ([.d (rw2 a)] ++ cs.map .d) (.d (.bool (p a)))) :
    Ctr Tryz.prog 82 [.own true 56 (l.map rw2), .d (.clo g cs)] (.own true 56 ((l.filter fun x => !p x).map rw2)) := by
  refine fn_of_vwp (fun i => i == 2000010) (by kernel_rfl) Tryz.func82 (by kernel_rfl) rfl rfl (Nat.le_of_ble_eq_true rfl) (by kernel_rfl) rfl rfl ?_
  simp -implicitDefEqProofs
  refine ⟨_, rfl, indexR_fn g cs hcs p l hl hp, ?_⟩
  by_cases hn : idxR p 0 l = -1
  · simp -implicitDefEqProofs [hn, idxR_neg p l 0 hn]
  · obtain ⟨i, h1, h2, h3, h4⟩ := idxR_pos p l 0 hn
    simp only [Nat.zero_add] at h1
    have e1 : ¬ ((i : Int) = -1) := by omega
    simp -implicitDefEqProofs [h1, e1]
    refine ⟨by omega, ?_⟩
    refine loopK (fun n τ => ∃ (j q : Nat) (m : List (Str × Sl)), n = l.length - j ∧ j ≤ l.length ∧ τ 0 = .own true 56 (m.map rw2) ∧ τ 1 = .d (.clo g cs) ∧ τ 5 = .d (.int .i64 q) ∧ τ 6 = .d (.int .i64 j) ∧ m.length = l.length ∧ q < j ∧ m.take q = (l.take j).filter (fun x => !p x) ∧ m.drop j = l.drop j)
      (l.length - (i + 1)) ⟨i + 1, i, l, rfl, by omega, by simp, by simp, by simp, by simp, rfl, by omega, h4.symm, rfl⟩ ?_
    rintro n τ ⟨j, q, m, rfl, hj, g0, g1, g5, g6, hm, hq, ht, hd⟩
    by_cases hlt : j < l.length
    · have hmj : m[j]'(by omega) = l[j] := by
        have := congrArg (fun x : List (Str × Sl) => x[0]?) hd
        simpa [hlt, hm] using this
      have hf := hp _ (List.getElem_mem hlt)
      simp only [rw2, List.cons_append, List.nil_append] at hf
      have hlt' : (j : Int) < l.length := by omega
      have hf' := hf
      simp -implicitDefEqProofs [g0, g1, g5, g6, hm, hlt', hlt, rw2, hmj]
      refine ⟨by simpa using hcs, callK hf ?_⟩
      by_cases he : p l[j] = true
      · simp -implicitDefEqProofs [g0, g1, g5, g6, hm, hlt', hlt, rw2, hmj, he]
        refine ⟨by omega, _, ?_, j + 1, rfl, by omega, q, m, rfl, rfl, by omega, hm, by omega, ?_, ?_⟩
        · omega
        · rw [take_s hlt, List.filter_append, ht]; simp [he]
        · rw [← List.drop_drop, hd, List.drop_drop]
      · have hq2 : q < m.length := by omega
        have hqq : m[q]? = some m[q] := List.getElem?_eq_getElem hq2
        simp -implicitDefEqProofs [g0, g1, g5, g6, hm, hlt', hlt, rw2, hmj, he, hqq]
        refine ⟨by omega, by omega, by omega, _, ?_, j + 1, rfl, by omega, q + 1, m.set q l[j], ?_, by simp, by simp, by simpa using hm, by omega, ?_, ?_⟩
        · omega
        · rw [List.map_set]; rfl
        · rw [List.take_set, take_s hq2, List.set_append_right _ _ (by simp; omega)]
          simp only [List.length_take, Nat.min_eq_left (Nat.le_of_lt hq2), Nat.sub_self, List.set_cons_zero]
          rw [take_s hlt, List.filter_append, ht]; simp [he]
        · rw [List.drop_set_of_lt (by omega), ← List.drop_drop, hd, List.drop_drop]
    · simp -implicitDefEqProofs [g0, g1, g5, g6, hm, hlt]
      have hjl : j = l.length := by omega
      subst hjl
      refine ⟨by omega, by omega, ?_⟩
      rw [List.take_append_of_le_length (by simp; omega), List.take_take, Nat.min_self, ← List.map_take, ht, List.take_length]
end Go.Proofs.Tz

/-
  DERIVED: THE SHELF's CONTRACTS AT THIS DUMP, IN PLAIN WORDS (tools/lay-plain.mjs out of 'KcShP.lean', which tools/lay-shelf.mjs wrote): THE SAME DECLARATIONS UNDER THE SAME NAMES: 'import', 'namespace', 'open', 'def', 'theorem' AND NOTHING ELSE: no command of the shelf's: FOR A HAND-IN. Each laying: the table of numbers ('.._ren') and one theorem, a field a fact of the dump's own or the kernel's comparison; each contract: ONE APPLICATION.
-/
namespace Go.Proofs
open Go.Shelf
def Tryz.layS_ren : Go.Shelf.Ren := ⟨fun | 6 => 84 | 8 => 117 | 9 => 129 | 19 => 152 | 20 => 153 | 21 => 162 | 22 => 163 | 23 => 164 | 24 => 165 | 25 => 166 | 26 => 167 | 27 => 168 | 28 => 169 | 29 => 170 | 36 => 210 | 31 => 204 | 32 => 205 | 37 => 211 | 38 => 212 | 39 => 213 | 41 => 231 | n => n, fun | 27 => 54 | 29 => 9 | 3 => 3 | 32 => 114 | 26 => 54 | 0 => 0 | 44 => 150 | 46 => 152 | 4 => 4 | 36 => 143 | 35 => 142 | 41 => 147 | 5 => 5 | 9 => 9 | 53 => 184 | 57 => 188 | 63 => 200 | 64 => 201 | n => n, fun | n => n⟩
theorem Tryz.layS : Go.Proofs.SlLaysM.n6 Tryz.prog Tryz.layS_ren := {
  mixed := by kernel_rfl
  f6 := ⟨Tryz.f84.name, by decide, Tryz.func84.trans (congrArg some (by kernel_rfl))⟩
  f8 := Tryz.func117.trans (congrArg some (by kernel_rfl))
  f9 := ⟨Tryz.f129.name, by decide, Tryz.func129.trans (congrArg some (by kernel_rfl))⟩
  f19 := Tryz.func152.trans (congrArg some (by kernel_rfl))
  f20 := Tryz.func153.trans (congrArg some (by kernel_rfl))
  f21 := ⟨Tryz.f162.name, by decide, Tryz.func162.trans (congrArg some (by kernel_rfl))⟩
  f22 := ⟨Tryz.f163.name, by decide, Tryz.func163.trans (congrArg some (by kernel_rfl))⟩
  f23 := ⟨Tryz.f164.name, by decide, Tryz.func164.trans (congrArg some (by kernel_rfl))⟩
  f24 := ⟨Tryz.f165.name, by decide, Tryz.func165.trans (congrArg some (by kernel_rfl))⟩
  f25 := ⟨Tryz.f166.name, by decide, Tryz.func166.trans (congrArg some (by kernel_rfl))⟩
  f26 := ⟨Tryz.f167.name, by decide, Tryz.func167.trans (congrArg some (by kernel_rfl))⟩
  f27 := ⟨Tryz.f168.name, by decide, Tryz.func168.trans (congrArg some (by kernel_rfl))⟩
  f28 := ⟨Tryz.f169.name, by decide, Tryz.func169.trans (congrArg some (by kernel_rfl))⟩
  f29 := ⟨Tryz.f170.name, by decide, Tryz.func170.trans (congrArg some (by kernel_rfl))⟩
  f31 := Tryz.func204.trans (congrArg some (by kernel_rfl))
  f32 := Tryz.func205.trans (congrArg some (by kernel_rfl))
  f36 := ⟨Tryz.f210.name, by decide, Tryz.func210.trans (congrArg some (by kernel_rfl))⟩
  f37 := ⟨Tryz.f211.name, by decide, Tryz.func211.trans (congrArg some (by kernel_rfl))⟩
  f38 := ⟨Tryz.f212.name, by decide, Tryz.func212.trans (congrArg some (by kernel_rfl))⟩
  f39 := ⟨Tryz.f213.name, by decide, Tryz.func213.trans (congrArg some (by kernel_rfl))⟩
  f41 := ⟨Tryz.f231.name, by decide, Tryz.func231.trans (congrArg some (by kernel_rfl))⟩
  t0 := Tryz.underlying0
  a0 := Tryz.isAgg0
  z0 := Tryz.sizeOf0
  v0 := Tryz.zeroValue0
  t3 := Tryz.underlying3
  a3 := Tryz.isAgg3
  z3 := Tryz.sizeOf3
  v3 := Tryz.zeroValue3
  t4 := Tryz.underlying4
  a4 := Tryz.isAgg4
  z4 := Tryz.sizeOf4
  v4 := Tryz.zeroValue4
  t5 := Tryz.underlying5
  a5 := Tryz.isAgg5
  z5 := Tryz.sizeOf5
  v5 := Tryz.zeroValue5
  t9 := Tryz.underlying9
  a9 := Tryz.isAgg9
  z9 := Tryz.sizeOf9
  v9 := Tryz.zeroValue9
  t26 := Tryz.underlying54
  a26 := Tryz.isAgg54
  z26 := Tryz.sizeOf54
  v26 := Tryz.zeroValue54
  t27 := Tryz.underlying54
  a27 := Tryz.isAgg54
  z27 := Tryz.sizeOf54
  v27 := Tryz.zeroValue54
  t29 := Tryz.underlying9
  a29 := Tryz.isAgg9
  z29 := Tryz.sizeOf9
  v29 := Tryz.zeroValue9
  t32 := Tryz.underlying114
  a32 := Tryz.isAgg114
  z32 := Tryz.sizeOf114
  v32 := Tryz.zeroValue114
  t35 := Tryz.underlying142
  a35 := Tryz.isAgg142
  z35 := Tryz.sizeOf142
  v35 := Tryz.zeroValue142
  t36 := Tryz.underlying143
  a36 := Tryz.isAgg143
  z36 := Tryz.sizeOf143
  v36 := Tryz.zeroValue143
  t41 := Tryz.underlying147
  a41 := Tryz.isAgg147
  z41 := Tryz.sizeOf147
  v41 := Tryz.zeroValue147
  t44 := Tryz.underlying150
  a44 := Tryz.isAgg150
  z44 := Tryz.sizeOf150
  v44 := Tryz.zeroValue150
  t46 := Tryz.underlying152
  a46 := Tryz.isAgg152
  z46 := Tryz.sizeOf152
  v46 := Tryz.zeroValue152
  t53 := Tryz.underlying184
  a53 := Tryz.isAgg184
  z53 := Tryz.sizeOf184
  v53 := Tryz.zeroValue184
  t57 := Tryz.underlying188
  a57 := Tryz.isAgg188
  z57 := Tryz.sizeOf188
  v57 := Tryz.zeroValue188
  t63 := Tryz.underlying200
  a63 := Tryz.isAgg200
  z63 := Tryz.sizeOf200
  v63 := Tryz.zeroValue200
  t64 := Tryz.underlying201
  a64 := Tryz.isAgg201
  z64 := Tryz.sizeOf201
  v64 := Tryz.zeroValue201 }
def Tryz.layF_ren : Go.Shelf.Ren := ⟨fun | 6 => 86 | 15 => 117 | 14 => 130 | 28 => 152 | 29 => 153 | 20 => 171 | 21 => 172 | 22 => 173 | 23 => 174 | 24 => 175 | 25 => 176 | 26 => 177 | 27 => 178 | 46 => 214 | 47 => 204 | 48 => 205 | 49 => 215 | 50 => 216 | 57 => 232 | n => n, fun | 22 => 44 | 24 => 56 | 25 => 95 | 3 => 3 | 39 => 114 | 0 => 0 | 53 => 150 | 55 => 152 | 4 => 4 | 46 => 143 | 45 => 142 | 50 => 147 | 5 => 5 | 9 => 9 | 66 => 184 | 70 => 188 | 76 => 200 | 77 => 201 | n => n, fun | n => n⟩
theorem Tryz.layF : Go.Proofs.SlLaysF0.n6 Tryz.prog Tryz.layF_ren := {
  mixed := by kernel_rfl
  f6 := ⟨Tryz.f86.name, by decide, Tryz.func86.trans (congrArg some (by kernel_rfl))⟩
  f14 := ⟨Tryz.f130.name, by decide, Tryz.func130.trans (congrArg some (by kernel_rfl))⟩
  f15 := Tryz.func117.trans (congrArg some (by kernel_rfl))
  f20 := ⟨Tryz.f171.name, by decide, Tryz.func171.trans (congrArg some (by kernel_rfl))⟩
  f21 := ⟨Tryz.f172.name, by decide, Tryz.func172.trans (congrArg some (by kernel_rfl))⟩
  f22 := ⟨Tryz.f173.name, by decide, Tryz.func173.trans (congrArg some (by kernel_rfl))⟩
  f23 := ⟨Tryz.f174.name, by decide, Tryz.func174.trans (congrArg some (by kernel_rfl))⟩
  f24 := ⟨Tryz.f175.name, by decide, Tryz.func175.trans (congrArg some (by kernel_rfl))⟩
  f25 := ⟨Tryz.f176.name, by decide, Tryz.func176.trans (congrArg some (by kernel_rfl))⟩
  f26 := ⟨Tryz.f177.name, by decide, Tryz.func177.trans (congrArg some (by kernel_rfl))⟩
  f27 := ⟨Tryz.f178.name, by decide, Tryz.func178.trans (congrArg some (by kernel_rfl))⟩
  f28 := Tryz.func152.trans (congrArg some (by kernel_rfl))
  f29 := Tryz.func153.trans (congrArg some (by kernel_rfl))
  f46 := ⟨Tryz.f214.name, by decide, Tryz.func214.trans (congrArg some (by kernel_rfl))⟩
  f47 := Tryz.func204.trans (congrArg some (by kernel_rfl))
  f48 := Tryz.func205.trans (congrArg some (by kernel_rfl))
  f49 := ⟨Tryz.f215.name, by decide, Tryz.func215.trans (congrArg some (by kernel_rfl))⟩
  f50 := ⟨Tryz.f216.name, by decide, Tryz.func216.trans (congrArg some (by kernel_rfl))⟩
  f57 := ⟨Tryz.f232.name, by decide, Tryz.func232.trans (congrArg some (by kernel_rfl))⟩
  t0 := Tryz.underlying0
  a0 := Tryz.isAgg0
  z0 := Tryz.sizeOf0
  v0 := Tryz.zeroValue0
  t3 := Tryz.underlying3
  a3 := Tryz.isAgg3
  z3 := Tryz.sizeOf3
  v3 := Tryz.zeroValue3
  t4 := Tryz.underlying4
  a4 := Tryz.isAgg4
  z4 := Tryz.sizeOf4
  v4 := Tryz.zeroValue4
  t5 := Tryz.underlying5
  a5 := Tryz.isAgg5
  z5 := Tryz.sizeOf5
  v5 := Tryz.zeroValue5
  t9 := Tryz.underlying9
  a9 := Tryz.isAgg9
  z9 := Tryz.sizeOf9
  v9 := Tryz.zeroValue9
  t22 := Tryz.underlying44
  a22 := Tryz.isAgg44
  z22 := Tryz.sizeOf44
  v22 := Tryz.zeroValue44
  t25 := Tryz.underlying95
  a25 := Tryz.isAgg95
  z25 := Tryz.sizeOf95
  v25 := Tryz.zeroValue95
  t39 := Tryz.underlying114
  a39 := Tryz.isAgg114
  z39 := Tryz.sizeOf114
  v39 := Tryz.zeroValue114
  t45 := Tryz.underlying142
  a45 := Tryz.isAgg142
  z45 := Tryz.sizeOf142
  v45 := Tryz.zeroValue142
  t46 := Tryz.underlying143
  a46 := Tryz.isAgg143
  z46 := Tryz.sizeOf143
  v46 := Tryz.zeroValue143
  t50 := Tryz.underlying147
  a50 := Tryz.isAgg147
  z50 := Tryz.sizeOf147
  v50 := Tryz.zeroValue147
  t53 := Tryz.underlying150
  a53 := Tryz.isAgg150
  z53 := Tryz.sizeOf150
  v53 := Tryz.zeroValue150
  t55 := Tryz.underlying152
  a55 := Tryz.isAgg152
  z55 := Tryz.sizeOf152
  v55 := Tryz.zeroValue152
  t66 := Tryz.underlying184
  a66 := Tryz.isAgg184
  z66 := Tryz.sizeOf184
  v66 := Tryz.zeroValue184
  t70 := Tryz.underlying188
  a70 := Tryz.isAgg188
  z70 := Tryz.sizeOf188
  v70 := Tryz.zeroValue188
  t76 := Tryz.underlying200
  a76 := Tryz.isAgg200
  z76 := Tryz.sizeOf200
  v76 := Tryz.zeroValue200
  t77 := Tryz.underlying201
  a77 := Tryz.isAgg201
  z77 := Tryz.sizeOf201
  v77 := Tryz.zeroValue201 }
def Tryz.layQ_ren : Go.Shelf.Ren := ⟨fun | 6 => 65 | 15 => 117 | 14 => 116 | 28 => 152 | 29 => 153 | 20 => 144 | 21 => 145 | 22 => 146 | 23 => 147 | 24 => 148 | 25 => 149 | 26 => 150 | 27 => 151 | 46 => 203 | 47 => 204 | 48 => 205 | 49 => 206 | 50 => 207 | 57 => 230 | n => n, fun | 22 => 28 | 24 => 26 | 25 => 79 | 3 => 3 | 39 => 114 | 0 => 0 | 53 => 150 | 55 => 152 | 4 => 4 | 46 => 143 | 45 => 142 | 50 => 147 | 5 => 5 | 9 => 9 | 66 => 184 | 70 => 188 | 76 => 200 | 77 => 201 | n => n, fun | n => n⟩
theorem Tryz.layQ : Go.Proofs.SlLaysF0.n6 Tryz.prog Tryz.layQ_ren := {
  mixed := by kernel_rfl
  f6 := ⟨Tryz.f65.name, by decide, Tryz.func65.trans (congrArg some (by kernel_rfl))⟩
  f14 := ⟨Tryz.f116.name, by decide, Tryz.func116.trans (congrArg some (by kernel_rfl))⟩
  f15 := Tryz.func117.trans (congrArg some (by kernel_rfl))
  f20 := ⟨Tryz.f144.name, by decide, Tryz.func144.trans (congrArg some (by kernel_rfl))⟩
  f21 := ⟨Tryz.f145.name, by decide, Tryz.func145.trans (congrArg some (by kernel_rfl))⟩
  f22 := ⟨Tryz.f146.name, by decide, Tryz.func146.trans (congrArg some (by kernel_rfl))⟩
  f23 := ⟨Tryz.f147.name, by decide, Tryz.func147.trans (congrArg some (by kernel_rfl))⟩
  f24 := ⟨Tryz.f148.name, by decide, Tryz.func148.trans (congrArg some (by kernel_rfl))⟩
  f25 := ⟨Tryz.f149.name, by decide, Tryz.func149.trans (congrArg some (by kernel_rfl))⟩
  f26 := ⟨Tryz.f150.name, by decide, Tryz.func150.trans (congrArg some (by kernel_rfl))⟩
  f27 := ⟨Tryz.f151.name, by decide, Tryz.func151.trans (congrArg some (by kernel_rfl))⟩
  f28 := Tryz.func152.trans (congrArg some (by kernel_rfl))
  f29 := Tryz.func153.trans (congrArg some (by kernel_rfl))
  f46 := ⟨Tryz.f203.name, by decide, Tryz.func203.trans (congrArg some (by kernel_rfl))⟩
  f47 := Tryz.func204.trans (congrArg some (by kernel_rfl))
  f48 := Tryz.func205.trans (congrArg some (by kernel_rfl))
  f49 := ⟨Tryz.f206.name, by decide, Tryz.func206.trans (congrArg some (by kernel_rfl))⟩
  f50 := ⟨Tryz.f207.name, by decide, Tryz.func207.trans (congrArg some (by kernel_rfl))⟩
  f57 := ⟨Tryz.f230.name, by decide, Tryz.func230.trans (congrArg some (by kernel_rfl))⟩
  t0 := Tryz.underlying0
  a0 := Tryz.isAgg0
  z0 := Tryz.sizeOf0
  v0 := Tryz.zeroValue0
  t3 := Tryz.underlying3
  a3 := Tryz.isAgg3
  z3 := Tryz.sizeOf3
  v3 := Tryz.zeroValue3
  t4 := Tryz.underlying4
  a4 := Tryz.isAgg4
  z4 := Tryz.sizeOf4
  v4 := Tryz.zeroValue4
  t5 := Tryz.underlying5
  a5 := Tryz.isAgg5
  z5 := Tryz.sizeOf5
  v5 := Tryz.zeroValue5
  t9 := Tryz.underlying9
  a9 := Tryz.isAgg9
  z9 := Tryz.sizeOf9
  v9 := Tryz.zeroValue9
  t22 := Tryz.underlying28
  a22 := Tryz.isAgg28
  z22 := Tryz.sizeOf28
  v22 := Tryz.zeroValue28
  t25 := Tryz.underlying79
  a25 := Tryz.isAgg79
  z25 := Tryz.sizeOf79
  v25 := Tryz.zeroValue79
  t39 := Tryz.underlying114
  a39 := Tryz.isAgg114
  z39 := Tryz.sizeOf114
  v39 := Tryz.zeroValue114
  t45 := Tryz.underlying142
  a45 := Tryz.isAgg142
  z45 := Tryz.sizeOf142
  v45 := Tryz.zeroValue142
  t46 := Tryz.underlying143
  a46 := Tryz.isAgg143
  z46 := Tryz.sizeOf143
  v46 := Tryz.zeroValue143
  t50 := Tryz.underlying147
  a50 := Tryz.isAgg147
  z50 := Tryz.sizeOf147
  v50 := Tryz.zeroValue147
  t53 := Tryz.underlying150
  a53 := Tryz.isAgg150
  z53 := Tryz.sizeOf150
  v53 := Tryz.zeroValue150
  t55 := Tryz.underlying152
  a55 := Tryz.isAgg152
  z55 := Tryz.sizeOf152
  v55 := Tryz.zeroValue152
  t66 := Tryz.underlying184
  a66 := Tryz.isAgg184
  z66 := Tryz.sizeOf184
  v66 := Tryz.zeroValue184
  t70 := Tryz.underlying188
  a70 := Tryz.isAgg188
  z70 := Tryz.sizeOf188
  v70 := Tryz.zeroValue188
  t76 := Tryz.underlying200
  a76 := Tryz.isAgg200
  z76 := Tryz.sizeOf200
  v76 := Tryz.zeroValue200
  t77 := Tryz.underlying201
  a77 := Tryz.isAgg201
  z77 := Tryz.sizeOf201
  v77 := Tryz.zeroValue201 }
def Tryz.layC_ren : Go.Shelf.Ren := ⟨fun | 44 => 85 | n => n, fun | 25 => 54 | 26 => 9 | 3 => 3 | 4 => 4 | 0 => 0 | n => n, fun | n => n⟩
theorem Tryz.layC : Go.Proofs.SlLaysN.n44 Tryz.prog Tryz.layC_ren := {
  mixed := by kernel_rfl
  f44 := ⟨Tryz.f85.name, by decide, Tryz.func85.trans (congrArg some (by kernel_rfl))⟩
  t0 := Tryz.underlying0
  a0 := Tryz.isAgg0
  z0 := Tryz.sizeOf0
  v0 := Tryz.zeroValue0
  t3 := Tryz.underlying3
  a3 := Tryz.isAgg3
  z3 := Tryz.sizeOf3
  v3 := Tryz.zeroValue3
  t4 := Tryz.underlying4
  a4 := Tryz.isAgg4
  z4 := Tryz.sizeOf4
  v4 := Tryz.zeroValue4
  t25 := Tryz.underlying54
  a25 := Tryz.isAgg54
  z25 := Tryz.sizeOf54
  v25 := Tryz.zeroValue54
  t26 := Tryz.underlying9
  a26 := Tryz.isAgg9
  z26 := Tryz.sizeOf9
  v26 := Tryz.zeroValue9
  i26 := by kernel_rfl }
end Go.Proofs

namespace Go.Proofs.Tz
open Go.Vw Go.Sort Go.RowKit
set_option maxRecDepth 100000
set_option maxHeartbeats 4000000
set_option linter.unusedSimpArgs false

theorem strs_rep (w : World) (L : Nat → Nat → Prop) : ∀ (l : List Str), RepL w L (l.map .str) (l.map fun s => [encStr s])
  | [] => by simp [RepL]
  | s :: l => by
    simp only [List.map_cons, RepL]
    exact ⟨_, _, rfl, by simp [Rep, encStr], strs_rep w L l⟩
theorem strs_flat : ∀ (l : List Str), (l.map fun s => [encStr s]).flatten = l.map encStr
  | [] => rfl
  | s :: l => by simp [strs_flat l]
theorem strs_only {w : World} {L : Nat → Nat → Prop} : ∀ {l : List Str} {css : List (List Value)}, RepL w L (l.map .str) css → css = l.map fun s => [encStr s]
  | [], css, h => by simpa [RepL] using h
  | s :: l, css, h => by
    simp only [List.map_cons, RepL] at h
    obtain ⟨c, cs, rfl, h1, h2⟩ := h
    rw [strs_only h2]
    simp only [Rep] at h1
    subst h1
    rfl

/-- The strings in order. -/
def sortS (l : List Str) : List Str := l.mergeSort fun x y => decide (x ≤ y)

theorem holds_strs {w : World} {g : Nat} {l : List Str} (h : Holds id w g 0 (l.map encStr).toArray) : Holds encStr w g 0 l.toArray := by
  intro j hj
  have hj' : j < l.length := by simpa using hj
  have := h j (by simpa using hj')
  simpa [hj'] using this

theorem sort_fn (l : List Str) (hl : l.length < 1000000) : CtrI Tryz.prog 84 9 (l.map .str) [] ((sortS l).map .str) := by
  refine ⟨enters_of Tryz.func84 (by kernel_rfl) rfl, fun w L og v vals hlok hgl hown hrc => ?_⟩
  simp only [RCs] at hrc
  subst hrc
  obtain ⟨css0, sz0, g1, g2, g3, g4, g5⟩ := id hown
  rcases g4.2 with ⟨hv, hn⟩ | ⟨g, cap, cur, hv, _⟩
  · have hl0 : l = [] := by simpa using hn
    subst hl0
    subst hv
    have h := AnyM.slices_Sort_string_none Tryz.layS none 0 w
    change Calls Tryz.prog 84 _ _ _ at h
    refine h.mono ?_
    rintro e w' ⟨rfl, rfl⟩
    exact ⟨L, rfl, GrownS.refl _ _, hlok, fun _ _ _ _ => Iff.rfl, by simpa [sortS] using hown⟩
  · subst hv
    obtain ⟨css, h1, h2, h3, h4, h5⟩ := hown.holds
    have hcss := strs_only h1
    subst hcss
    rw [strs_flat] at h3
    have h := AnyM.slices_Sort_string Tryz.layS g 0 cap l w (holds_strs h3) h4 (by omega)
    change Calls Tryz.prog 84 _ _ _ at h
    rw [List.length_map]
    refine h.mono ?_
    rintro e w' ⟨rfl, n, os, rfl⟩
    rw [putRow_map encStr]
    have hlen : (sortS l).length = l.length := by simp [sortS]
    have hog := (hown.blk (g := g) rfl).1
    have hs := hown.sorted hlok (strs_rep w L (sortS l)) (by simp [hlen]) (fun sz hsz c hc => by
      obtain ⟨s, _, rfl⟩ := List.mem_map.1 hc
      rw [show (Tryz.prog.info? (ety 9)).map (·.size) = some 1 from Tryz.sz_9] at hsz
      simpa using hsz) n os (F := ((sortS l).map encStr).toArray) (by rw [strs_flat])
    rw [List.length_map] at hs
    have e : (List.map encStr (sortS l)).toArray = Array.map encStr (l.mergeSort fun x y => decide (x ≤ y)).toArray := by simp [sortS]
    rw [sortedW, e] at hs
    refine ⟨L, rfl, ?_, hs.2.2, fun _ _ _ _ => Iff.rfl, hs.1⟩
    rw [hog]; exact hs.2.1

/-- Rows with named slices, as the sort sees them. -/
def encR (x : Str × Sl) : List Value := [encStr x.1, .slice x.2.1 x.2.2.1 x.2.2.2]
theorem rows_rep (w : World) (L : Nat → Nat → Prop) : ∀ (l : List (Str × Sl)), RepL w L (l.map rw2) (l.map encR)
  | [] => by simp [RepL]
  | s :: l => by
    simp only [List.map_cons, RepL]
    refine ⟨_, _, rfl, ?_, rows_rep w L l⟩
    simp only [rw2, Rep, RepL]
    exact ⟨[[encStr s.1], [.slice s.2.1 s.2.2.1 s.2.2.2]], ⟨_, _, rfl, by simp [encStr], _, _, rfl, ⟨rfl, by simp [Value.oneCell'], rfl⟩, rfl⟩, rfl⟩
theorem rows_only {w : World} {L : Nat → Nat → Prop} : ∀ {l : List (Str × Sl)} {css : List (List Value)}, RepL w L (l.map rw2) css → css = l.map encR
  | [], css, h => by simpa [RepL] using h
  | s :: l, css, h => by
    simp only [List.map_cons, RepL] at h
    obtain ⟨c, cs, rfl, h1, h2⟩ := h
    simp only [rw2, Rep, RepL] at h1
    obtain ⟨css, ⟨_, _, rfl, rfl, _, _, rfl, ⟨rfl, h3, h4⟩, rfl⟩, rfl⟩ := h1
    rw [rows_only h2]; rfl

/-- Sorted$3: by name. -/
def cmpR (x y : Str × Sl) : Int := if Op.bytesLess x.1 y.1 then -1 else 1
end Go.Proofs.Tz

namespace Go.Proofs.Tz
open Go.Vw Go.Sort Go.RowKit Go.Lib
set_option maxRecDepth 100000
set_option maxHeartbeats 4000000
set_option linter.unusedSimpArgs false

theorem ltR (x y : Str × Sl) : ltOf cmpR x y = Op.bytesLess x.1 y.1 := by
  unfold ltOf cmpR
  cases Op.bytesLess x.1 y.1 <;> simp
theorem swoR : SWO (ltOf cmpR) where
  irrefl x := by rw [ltR, bytesLess_eq]; simp
  trans x y z h1 h2 := by
    rw [ltR, bytesLess_eq] at *
    simp only [decide_eq_true_eq] at *
    exact List.lt_trans h1 h2
  ntrans x y z h1 h2 := by
    rw [ltR, bytesLess_eq] at *
    simp only [decide_eq_false_iff_not, List.not_lt] at *
    exact List.le_trans h2 h1

theorem cmp_calls (a b : ByteArray) (u v : Value) (W : World) : Calls Tryz.prog 87 #[.agg #[.string a, u], .agg #[.string b, v]] W fun e w' => e = .returned (.int .i64 (if Op.bytesLess a.toList b.toList then -1 else 1)) ∧ ∃ q os', w' = grow (W.drewN q) os' := by
  cases hb : Op.bytesLess a.toList b.toList
  · go_enter Tryz.func87, Tryz.ntmps87
    go_wp2
    go_ret
    exact ⟨rfl, 0, _, by rw [alloc_eq_grow, alloc_eq_grow, grow_grow]; rfl⟩
  · go_enter Tryz.func87, Tryz.ntmps87
    go_wp2
    go_ret
    exact ⟨rfl, 0, _, by rw [alloc_eq_grow, alloc_eq_grow, grow_grow]; rfl⟩

instance : Inhabited (Str × Sl) := ⟨([], none, 0, 0)⟩
/-- The rows by name. -/
def sortR (l : List (Str × Sl)) : List (Str × Sl) := (pdq (ltOf cmpR) l.toArray 0 l.length (Lib.bitLen l.length) true true).toList

theorem sortR_perm (l : List (Str × Sl)) : (sortR l).Perm l ∧ ∀ i j (hij : i < j) (hj : j < (sortR l).length), Op.bytesLess (sortR l)[j].1 ((sortR l)[i]'(by omega)).1 = false := by
  have h := pdq_sorts (ltOf cmpR) swoR l.toArray 0 l.length (Lib.bitLen l.length) true true (Nat.zero_le _) (by simp) (Or.inl rfl)
  obtain ⟨⟨h1, h2, h3⟩, h4⟩ := h
  have hs : (sortR l).length = l.length := by simpa [sortR] using h1
  refine ⟨?_, fun i j hij hj => ?_⟩
  · have e1 : (pdq (ltOf cmpR) l.toArray 0 l.length (Lib.bitLen l.length) true true).extract 0 l.length = pdq (ltOf cmpR) l.toArray 0 l.length (Lib.bitLen l.length) true true := by
      apply Array.extract_eq_self_of_le; rw [h1]; simp
    rw [e1] at h3
    simpa [sortR] using h3
  · have := h4 i j (Nat.zero_le _) hij (by omega)
    rw [ltR] at this
    have hj' : j < (pdq (ltOf cmpR) l.toArray 0 l.length (Lib.bitLen l.length) true true).size := by simpa [sortR] using hj
    rw [getElem!_pos _ j hj', getElem!_pos _ i (by omega)] at this
    simpa [sortR] using this

theorem flatK_eq {α : Type} [Inhabited α] (enc : α → List Value) (k : Nat) (l : List α) (hk : ∀ x, (enc x).length = k) (hp : 0 < k) : flatK enc k l.toArray = (l.map enc).flatten.toArray := by
  have hfl : (l.map enc).flatten.length = l.length * k := by rw [flatten_sized (fun c hc => by obtain ⟨x, _, rfl⟩ := List.mem_map.1 hc; exact hk x), List.length_map]
  apply Array.ext
  · simp [flatK, hfl]
  · intro t h1 h2
    have ht : t < l.length * k := by simpa [flatK] using h1
    have hq : t / k < l.length := Nat.div_lt_of_lt_mul (by rw [Nat.mul_comm]; exact ht)
    have hr : t % k < (enc l[t / k]).length := by rw [hk]; exact Nat.mod_lt _ hp
    have := flatten_get (css := l.map enc) (sz := k) (fun c hc => by obtain ⟨x, _, rfl⟩ := List.mem_map.1 hc; exact hk x) (i := t / k) (c := enc l[t / k]) (by simp [hq]) (t % k) ((enc l[t / k])[t % k]) (List.getElem?_eq_getElem hr)
    rw [show t / k * k + t % k = t by rw [Nat.mul_comm]; exact Nat.div_add_mod t k] at this
    have e2 := (List.getElem?_eq_some_iff.1 this).2
    simp only [flatK, List.size_toArray, Array.getElem_map, Array.getElem_range, List.getElem_toArray]
    rw [e2, show (l.toArray[t / k]! : α) = l[t / k] by rw [getElem!_pos l.toArray _ (by simpa using hq)]; simp]
    exact getElem!_pos (enc l[t / k]) (t % k) hr

theorem sortR_fn (l : List (Str × Sl)) (hl : l.length < 1000000) : CtrI Tryz.prog 86 56 (l.map rw2) [.d (.clo 87 [])] ((sortR l).map rw2) := by
  refine ⟨enters_of Tryz.func86 (by kernel_rfl) rfl, fun w L og v vals hlok hgl hown hrc => ?_⟩
  simp only [RCs] at hrc
  obtain ⟨cv, us, rfl, hc1, rfl⟩ := hrc
  simp only [RC] at hc1
  obtain ⟨ccs, hcc, rfl⟩ := clo_inv hc1
  simp only [RepL] at hcc
  subst hcc
  simp only [List.flatten_nil]
  obtain ⟨css0, sz0, g1, g2, g3, g4, g5⟩ := id hown
  rcases g4.2 with ⟨hv, hn⟩ | ⟨g, cap, cur, hv, _⟩
  · have hl0 : l = [] := by simpa using hn
    subst hl0
    subst hv
    have h := AnyF.slices_SortFunc_none Tryz.layF none 0 (.func (.func 87) #[] #[]) w
    change Calls Tryz.prog 86 _ _ _ at h
    refine h.mono ?_
    rintro e w' ⟨rfl, rfl⟩
    have hnil : sortR [] = [] := List.Perm.eq_nil (sortR_perm []).1
    exact ⟨L, rfl, GrownS.refl _ _, hlok, fun _ _ _ _ => Iff.rfl, by rw [hnil]; exact hown⟩
  · subst hv
    obtain ⟨css, h1, h2, h3, h4, h5⟩ := hown.holds
    have hcss := rows_only h1
    subst hcss
    have hK : HoldsK encR 2 w g 0 l.toArray := by
      unfold HoldsK
      rw [flatK_eq encR 2 l (fun _ => rfl) (by omega)]
      exact h3
    have eg : ∀ args w, (callFunc 87 args).run Tryz.prog w = .ok (.enter 87 args) w := enters_of Tryz.func87 (by kernel_rfl) rfl
    have hcmp : CmpLays Tryz.prog 87 #[] encR 2 cmpR g 0 l.toArray.size w := fun m os dk _ x y => by
      have := cmp_calls ⟨x.1.toArray⟩ ⟨y.1.toArray⟩ (.slice x.2.1 x.2.2.1 x.2.2.2) (.slice y.2.1 y.2.2.1 y.2.2.2) (sortWorldK encR 2 w g 0 m dk os)
      simp only [Lib.toList_data] at this
      exact this
    have h := AnyQ.slices_SortFunc_eq Tryz.layF 2 Tryz.isAgg56 Tryz.sizeOf56 encR (fun _ => rfl) (fun x v hv => ?_) cmpR swoR 87 #[] g 0 cap l.toArray w eg hcmp hK h4 (by simp; omega)
    · change Calls Tryz.prog 86 _ _ _ at h
      simp only [List.size_toArray] at h
      rw [List.length_map]
      refine h.mono ?_
      rintro e w' ⟨rfl, n, os, rfl⟩
      have hp := (sortR_perm l).1
      have hlen : (sortR l).length = l.length := hp.length_eq
      have hog := (hown.blk (g := g) rfl).1
      have hs := hown.sorted hlok (rows_rep w L (sortR l)) (by simp [hlen]) (fun sz hsz c hc => by
        obtain ⟨s, _, rfl⟩ := List.mem_map.1 hc
        rw [show (Tryz.prog.info? (ety 56)).map (·.size) = some 2 from Tryz.sz_56] at hsz
        simpa [encR] using hsz) n os (F := ((sortR l).map encR).flatten.toArray) rfl
      rw [List.length_map] at hs
      have e : sortedW w g n ((sortR l).map encR).flatten.toArray os = sortWorldK encR 2 w g 0 n (pdq (ltOf cmpR) l.toArray 0 l.length (Lib.bitLen l.length) true true) os := by
        unfold sortedW sortWorldK putRowK
        rw [← flatK_eq encR 2 (sortR l) (fun _ => rfl) (by omega)]
        rfl
      rw [e] at hs
      refine ⟨L, rfl, ?_, hs.2.2, fun _ _ _ _ => Iff.rfl, hs.1⟩
      rw [hog]; exact hs.2.1
    · simp only [encR, List.mem_cons, List.not_mem_nil, or_false] at hv
      rcases hv with rfl | rfl <;> rfl
end Go.Proofs.Tz

namespace Go.Proofs.Tz
open Go.Vw Go.Sort Go.RowKit Go.Lib
set_option maxRecDepth 100000
set_option maxHeartbeats 4000000
set_option linter.unusedSimpArgs false

theorem strs_put {w : World} {L : Nat → Nat → Prop} {og : Option Nat} {g cap : Nat} {l : List Str} (hown : OwnR Tryz.prog w L og true 9 (l.map .str) (.slice (some ⟨g, 0, none⟩) l.length cap)) (hlok : ∀ b q, L b q → b < w.heap.size) (l' : List Str) (hl : l'.length = l.length) (q : Nat) :
    OwnR Tryz.prog (putRow encStr (Sort.ahead w q) g 0 l'.toArray) L og true 9 (l'.map .str) (.slice (some ⟨g, 0, none⟩) l.length cap) ∧ GrownS w (putRow encStr (Sort.ahead w q) g 0 l'.toArray) (optB (some g)) ∧ ∀ b p, L b p → b < (putRow encStr (Sort.ahead w q) g 0 l'.toArray).heap.size := by
  have hown' : OwnR Tryz.prog w L og true 9 (l.map .str) (.slice (some ⟨g, 0, none⟩) (l.map D.str).length cap) := by rw [List.length_map]; exact hown
  have hs := hown'.sorted hlok (strs_rep w L l') (by simp [hl]) (fun sz hsz c hc => by
    obtain ⟨s, _, rfl⟩ := List.mem_map.1 hc
    rw [show (Tryz.prog.info? (ety 9)).map (·.size) = some 1 from Tryz.sz_9] at hsz
    simpa using hsz) q #[] (F := (l'.map encStr).toArray) (by rw [strs_flat])
  rw [List.length_map] at hs
  have e : sortedW w g q (l'.map encStr).toArray #[] = putRow encStr (Sort.ahead w q) g 0 l'.toArray := by
    unfold sortedW
    rw [grow_empty, putRow_map encStr]
    simp
  rw [e] at hs
  exact hs

theorem strs_own {w : World} {L : Nat → Nat → Prop} {og : Option Nat} {l : List Str} {v : Value} (h : OwnR Tryz.prog w L og true 9 (l.map .str) v) :
    (v = .slice none 0 0 ∧ l = []) ∨ ∃ g cap, v = .slice (some ⟨g, 0, none⟩) l.length cap ∧ l.length ≤ cap ∧ cap ≤ maxLen ∧ Holds encStr w g 0 l.toArray ∧ g < w.heap.size ∧ og = some g := by
  obtain ⟨css0, sz0, g1, g2, g3, g4, g5⟩ := id h
  rcases g4.2 with ⟨hv, hn⟩ | ⟨g, cap, cur, hv, hh, hnc, hcm, _⟩
  · exact .inl ⟨hv, by simpa using hn⟩
  · subst hv
    obtain ⟨css, h1, h2, h3, h4, h5⟩ := h.holds
    have hcss := strs_only h1
    subst hcss
    rw [strs_flat] at h3
    exact .inr ⟨g, cap, by rw [List.length_map], by simpa using hnc, hcm, holds_strs h3, h4, (h.blk (g := g) rfl).1⟩

theorem compact_fn (l : List Str) (hl : l.length < 1000000) : Ctr Tryz.prog 85 [.own true 9 (l.map .str)] (.own true 9 ((compact l).map .str)) := by
  refine ⟨enters_of Tryz.func85 (by kernel_rfl) rfl, fun w L og vals hlok hgl hog hrc => ?_⟩
  simp only [RCs] at hrc
  obtain ⟨v, us, rfl, hown, rfl⟩ := hrc
  simp only [RC] at hown
  rcases strs_own hown with ⟨rfl, rfl⟩ | ⟨g, cap, rfl, hcap, hcm, hH, hg, hgo⟩
  · have h := AnyG.slices_Compact_string_empty Tryz.layC none 0 w
    change Calls Tryz.prog 85 _ _ _ at h
    refine h.mono ?_
    rintro e w' ⟨rfl, rfl⟩
    exact ⟨_, L, og, rfl, GrownS.refl _ _, hlok, fun _ _ _ _ => Iff.rfl, fun g hg => ⟨(hog g hg).1, .inr hg⟩, hown⟩
  · have h := AnyG.slices_Compact_string Tryz.layC g 0 cap l w hH (by omega) hcap
    change Calls Tryz.prog 85 _ _ _ at h
    refine h.mono ?_
    rintro e w' ⟨rfl, q, rfl⟩
    have hle := compact_length_le l
    have hp := strs_put hown hlok (compact l ++ List.replicate (l.length - (compact l).length) []) (by simp; omega) q
    refine ⟨_, L, og, rfl, by rw [hgo]; exact hp.2.1, hp.2.2, fun _ _ _ _ => Iff.rfl, fun b hb => ?_, ?_⟩
    · refine ⟨Nat.lt_of_lt_of_le (hog b hb).1 hp.2.1.size, .inr hb⟩
    · simp only [RC]
      have := hp.1.cut (hi := (compact l).length) (m := cap) (by simp) (by omega) (Nat.le_refl _)
      rw [← List.map_take, List.take_left] at this
      exact this

end Go.Proofs.Tz

namespace Go.Proofs.Tz
open Go.Vw
set_option maxRecDepth 100000
set_option maxHeartbeats 8000000
set_option linter.unusedSimpArgs false

theorem sortedQ_fn (x : Str × Sl) (n : Str) : Ctr Tryz.prog 81 [.d (rw2 x), .d (.ref (.str n))] (.d (.bool (decide (x.1 = n)))) := by
  refine fn_of_vwp (fun _ => false) (by kernel_rfl) Tryz.func81 (by kernel_rfl) rfl rfl (Nat.le_of_ble_eq_true rfl) (by kernel_rfl) rfl rfl ?_
  simp -implicitDefEqProofs [rw2]
theorem emptyQ_fn (x : Str × Sl) : Ctr Tryz.prog 83 [.d (rw2 x)] (.d (.bool (decide (x.2.2.1 = 0)))) := by
  refine fn_of_vwp (fun _ => false) (by kernel_rfl) Tryz.func83 (by kernel_rfl) rfl rfl (Nat.le_of_ble_eq_true rfl) (by kernel_rfl) rfl rfl ?_
  simp -implicitDefEqProofs [rw2]

/-- A row: its name, the head of its slice, what the slice holds. -/
abbrev Row := Str × Sl × List Str
def pr (r : Row) : Str × Sl := (r.1, r.2.1)
def nv (r : Row) : Att := (r.1, r.2.2)
def hd (r : Row) : Value := .slice r.2.1.1 r.2.1.2.1 r.2.1.2.2
def rowD (r : Row) : D := rw2 (pr r)
def hnd (r : Row) : AV := .hs (hd r) 9 (r.2.2.map .str)

theorem idxR_map {α β : Type} (f : α → β) (p : β → Bool) : ∀ (l : List α) (k : Nat), idxR p k (l.map f) = idxR (fun x => p (f x)) k l
  | [], _ => rfl
  | x :: l, k => by simp only [List.map_cons, idxR, idxR_map f p l (k + 1)]

/-- One attribute more, in the program's grouping. -/
def addG (acc : List Att) (a : Att) : List Att :=
  if idxR (fun x : Att => decide (x.1 = lower a.1)) 0 acc = -1 then acc ++ [(lower a.1, a.2)] else acc.modify (idxR (fun x : Att => decide (x.1 = lower a.1)) 0 acc).toNat fun x => (x.1, x.2 ++ a.2)
def grp (l : List Att) : List Att := l.foldl addG []
theorem grp_take {l : List Att} {k : Nat} (h : k < l.length) : grp (l.take (k + 1)) = addG (grp (l.take k)) l[k] := by
  rw [take_s h]; simp only [grp, List.foldl_append, List.foldl_cons, List.foldl_nil]

theorem grp_len (l : List Att) : (grp l).length ≤ l.length := by
  have key : ∀ (l acc : List Att), (l.foldl addG acc).length ≤ acc.length + l.length := by
    intro l
    induction l with
    | nil => intro acc; simp
    | cons a l ih =>
      intro acc
      have := ih (addG acc a)
      have h2 : (addG acc a).length ≤ acc.length + 1 := by
        unfold addG; split <;> simp
      simp only [List.foldl_cons, List.length_cons]; omega
  simpa [grp] using key l []
theorem total_app (a b : List Att) : total (a ++ b) = total a + total b := by simp [total]
theorem total_modify (f : Att → Att) (n : Nat) : ∀ (acc : List Att) (i : Nat), (∀ x, (f x).2.length = x.2.length + n) → i < acc.length → total (acc.modify i f) = total acc + n
  | [], i, _, h => by simp at h
  | x :: acc, 0, hf, _ => by simp [total, List.modify_cons, hf]; omega
  | x :: acc, i + 1, hf, h => by
    have := total_modify f n acc i hf (by simpa using h)
    simp only [total, List.modify_succ_cons, List.map_cons, List.sum_cons] at this ⊢
    omega
theorem total_addG (acc : List Att) (a : Att) : total (addG acc a) = total acc + a.2.length := by
  unfold addG
  split
  · rw [total_app]; simp [total]
  · rename_i h
    obtain ⟨i, h1, h2, _⟩ := idxR_pos _ acc 0 h
    rw [h1]
    exact total_modify _ _ _ _ (fun x => by simp) (by simpa using h2)
theorem total_grp (l : List Att) : total (grp l) = total l := by
  have key : ∀ (l acc : List Att), total (l.foldl addG acc) = total acc + total l := by
    intro l
    induction l with
    | nil => intro acc; simp [total]
    | cons a l ih =>
      intro acc
      rw [List.foldl_cons, ih, total_addG]
      simp only [total, List.map_cons, List.sum_cons]; omega
  have := key l []
  simpa [grp, total] using this
theorem total_mem {l : List Att} {x : Att} (h : x ∈ l) : x.2.length ≤ total l := by
  induction l with
  | nil => simp at h
  | cons y l ih =>
    simp only [total, List.map_cons, List.sum_cons] at ih ⊢
    rcases List.mem_cons.1 h with rfl | h
    · omega
    · have := ih h; omega

theorem modify_set {α : Type} (f : α → α) : ∀ (l : List α) (i : Nat) (x : α), l[i]? = some x → l.modify i f = l.set i (f x)
  | [], i, x, h => by simp at h
  | y :: l, 0, x, h => by
    simp only [List.getElem?_cons_zero, Option.some.injEq] at h
    subst h; rfl
  | y :: l, i + 1, x, h => by
    simp only [List.getElem?_cons_succ] at h
    simp [List.modify_succ_cons, modify_set f l i x h]

theorem hh_ne (i d : Nat) (h : d < 1000000) : (1000000 + i = d) = False := by simp; omega

theorem hh_ne' (i d : Nat) (h : d < 1000000) : (d = 1000000 + i) = False := by simp; omega

theorem sd42 : structDX Tryz.prog true 56 = some [.str [], .raw (.slice none 0 0)] := by kernel_rfl

def okLen (rs : List Row) : Prop := ∀ r ∈ rs, r.2.1.2.1 = r.2.2.length

def slotsG : Nat → Bool := fun i => i == 3 || i == 44 || i == 1000027 || i == 2000020 || i == 3000055 || i == 4000063 || i == 3000068

/-- Rows with the numbers of their names. -/
abbrev QRow := Row × Nat
def q1 (q : QRow) : D := rowD q.1
def Named (qs : List QRow) (τ : St) : Prop := (qs.map (·.2)).Nodup ∧ ∀ q ∈ qs, τ (1000000 + q.2) = hnd q.1
def normA (a : Att) : Att := (a.1, Go.Lib.compact (sortS a.2))
def nonE (a : Att) : Bool := !decide (a.2 = [])

def ByName (m : List (Str × Sl)) : Prop := ∀ i j (_ : i < j) (hj : j < m.length), Op.bytesLess m[j].1 (m[i]'(by omega)).1 = false

theorem perm_lift {α β : Type} (f : α → β) {m m' : List β} (h : m.Perm m') : ∀ l : List α, l.map f = m' → ∃ l' : List α, l'.Perm l ∧ l'.map f = m := by
  induction h with
  | nil => intro l hl; exact ⟨l, .refl _, hl⟩
  | cons x p ih =>
    intro l hl
    cases l with
    | nil => simp at hl
    | cons a t =>
      simp only [List.map_cons, List.cons.injEq] at hl
      obtain ⟨t', h1, h2⟩ := ih t hl.2
      exact ⟨a :: t', h1.cons a, by simp [hl.1, h2]⟩
  | swap x y l0 =>
    intro l hl
    match l, hl with
    | a :: b :: t, hl =>
      simp only [List.map_cons, List.cons.injEq] at hl
      exact ⟨b :: a :: t, .swap _ _ _, by simp [hl.1, hl.2.1, hl.2.2]⟩
  | trans h1 h2 ih1 ih2 =>
    intro l hl
    obtain ⟨l2, p2, e2⟩ := ih2 l hl
    obtain ⟨l1, p1, e1⟩ := ih1 l2 e2
    exact ⟨l1, p1.trans p2, e1⟩

theorem zip_mem {rs : List Row} {q : QRow} (h : q ∈ rs.zipIdx) : ∃ hi : q.2 < rs.length, rs[q.2] = q.1 := by
  obtain ⟨r, i⟩ := q
  have := List.mem_zipIdx_iff_getElem?.1 h
  exact ⟨(List.getElem?_eq_some_iff.1 this).1, (List.getElem?_eq_some_iff.1 this).2⟩

theorem sortedG_fn (l : List Att) (hl : Fit2 l) : CtrG Tryz.prog 32 [.d (atts l)] [] (fun r hs => ∃ rs : List Row, r = .own true 56 (rs.map rowD) ∧ hs = rs.map hnd ∧ (rs.map nv).Perm (((grp l).filter nonE).map normA) ∧ ∀ i j (_ : i < j) (hj : j < rs.length), Op.bytesLess rs[j].1 (rs[i]'(by omega)).1 = false) := by
  refine fn_of_vwpG slotsG (by kernel_rfl) Tryz.func32 (by kernel_rfl) rfl rfl (Nat.le_of_ble_eq_true rfl) (by kernel_rfl) rfl ?_
  obtain ⟨⟨hl1, hl2⟩, hl3⟩ := hl
  simp -implicitDefEqProofs [slotsG, initG, atts]
  refine loopN l.length (fun k τ => τ 9 = .d (.sl (l.map att)) ∧ τ 10 = .d (.int .i64 l.length) ∧ τ 11 = .d (.int .i64 k) ∧ ∃ rs : List Row, τ 3 = .own true 56 (rs.map rowD) ∧ (∀ i (h : i < rs.length), τ (1000000 + i) = hnd rs[i]) ∧ (∀ i, rs.length ≤ i → τ (1000000 + i) = .undef) ∧ rs.map nv = grp (l.take k) ∧ okLen rs) ?_ ?_
  · refine ⟨by simp, by simp, by simp, [], by simp, by simp, fun i _ => ?_, by simp [grp], by simp [okLen]⟩
    simp [initG, hh_ne]
  rintro k τ hk ⟨h9, h10, h11, rs, h3, hH, hU, hg, hlen⟩
  by_cases hlt : k < l.length
  · simp -implicitDefEqProofs [slotsG, h9, h10, h11, h3, hlt, att, strs]
    refine callK (foldLower_fn _ (hl2 _ (List.getElem_mem hlt)).1) ?_
    simp -implicitDefEqProofs [slotsG, h9, h10, h11, h3, hlt, att, strs]
    have hrk : rs.length ≤ k := by
      have := grp_len (l.take k)
      rw [← hg] at this
      simpa [Nat.min_eq_left (Nat.le_of_lt hlt)] using this
    have htot := total_take l k hlt
    rw [← total_grp (l.take k), ← hg] at htot
    have hmr : rs.map rowD = (rs.map pr).map rw2 := by simp [rowD]
    rw [hmr]
    refine lendK (indexR_fn 81 [.ref (.str (lower l[k].1))] rfl (fun x => decide (x.1 = lower l[k].1)) (rs.map pr) (by simp; omega) (fun a _ => sortedQ_fn a _)) rfl ?_
    rw [← hmr]
    have hidx : idxR (fun x : Str × Sl => decide (x.1 = lower l[k].1)) 0 (rs.map pr) = idxR (fun x : Att => decide (x.1 = lower l[k].1)) 0 (grp (l.take k)) := by
      rw [← hg, idxR_map, idxR_map]; rfl
    rw [hidx]
    have hnew := grp_take (l := l) hlt
    by_cases hn : idxR (fun x : Att => decide (x.1 = lower l[k].1)) 0 (grp (l.take k)) = -1
    · simp -implicitDefEqProofs [slotsG, h9, h10, h11, h3, hlt, att, strs, hn, sd42]
      refine ⟨by omega, by omega, appK0 (1000000 + rs.length) (by simp [hh_ne, hU]) (by simp) (by simp; omega) (by simp; omega) (fun A c => ?_)⟩
      simp -implicitDefEqProofs [slotsG, h9, h10, h11, h3, hlt, att, strs, hn, sd42, hh_ne, hh_ne']
      refine ⟨by omega, again hlt ⟨by simp [h9, hh_ne, hh_ne'], by simp [h10, hh_ne, hh_ne'], by simp [hh_ne, hh_ne'], rs ++ [(lower l[k].1, (A, l[k].2.length, c), l[k].2)], ?_, fun i hi => ?_, fun i hi => ?_, ?_, ?_⟩⟩
      · simp [hh_ne, hh_ne', rowD, rw2, pr, List.set_append]
      · simp only [List.length_append, List.length_cons, List.length_nil] at hi
        by_cases hi2 : i < rs.length
        · have hne : ¬ (i = rs.length) := by omega
          simp [hh_ne, hh_ne', hH i hi2, hnd, hne, List.getElem_append_left hi2]
        · have hie : i = rs.length := by omega
          subst hie
          simp [hh_ne, hh_ne', hnd, hd]
      · simp only [List.length_append, List.length_cons, List.length_nil] at hi
        have hne : ¬ (i = rs.length) := by omega
        simp [hh_ne, hh_ne', hU i (by omega), hne]
      · rw [hnew, addG, if_pos hn, List.map_append, hg]; rfl
      · intro r hr
        rcases List.mem_append.1 hr with hr | hr
        · exact hlen r hr
        · rw [List.mem_singleton.1 hr]
    · obtain ⟨i, hi1, hi2, hi3, hi4⟩ := idxR_pos (fun x : Att => decide (x.1 = lower l[k].1)) (grp (l.take k)) 0 hn
      simp only [Nat.zero_add] at hi1
      have hir : i < rs.length := by rw [← hg] at hi2; simpa using hi2
      have hi0 : ¬ (i : Int) < 0 := by omega
      have hvl : rs[i].2.2.length + l[k].2.length ≤ 1000000 := by
        have := total_mem (l := rs.map nv) (x := nv rs[i]) (List.mem_map.2 ⟨_, List.getElem_mem hir, rfl⟩)
        simp only [nv] at this
        omega
      rw [hi1]
      simp -implicitDefEqProofs [slotsG, h9, h10, h11, h3, hlt, att, strs, hi0, hir, rowD, rw2, pr]
      refine appK (1000000 + i) (by simp [hh_ne, hH i hir, hnd, hd]; rfl) (by simp) (by simp; omega) (by simp; omega) (fun A c => ?_)
      simp -implicitDefEqProofs [slotsG, h9, h10, h11, h3, hlt, att, strs, hi0, hir, rowD, rw2, pr, hh_ne, hh_ne']
      have hset : (rs.set i (rs[i].1, (A, rs[i].2.2.length + l[k].2.length, c), rs[i].2.2 ++ l[k].2)).length = rs.length := by simp
      refine ⟨by omega, again hlt ⟨by simp [h9, hh_ne, hh_ne'], by simp [h10, hh_ne, hh_ne'], by simp [hh_ne, hh_ne'], rs.set i (rs[i].1, (A, rs[i].2.2.length + l[k].2.length, c), rs[i].2.2 ++ l[k].2), ?_, fun j hj => ?_, fun j hj => ?_, ?_, ?_⟩⟩
      · simp [hh_ne, hh_ne', rowD, rw2, pr, List.map_set]
      · rw [hset] at hj
        by_cases hji : j = i
        · subst hji
          simp [hh_ne, hh_ne', hnd, hd]
        · have hij : ¬ i = j := fun e => hji e.symm
          simp [hh_ne, hh_ne', hH j hj, hnd, hji, hij, List.getElem_set_ne]
      · rw [hset] at hj
        have hji : ¬ j = i := by omega
        simp [hh_ne, hh_ne', hU j hj, hji]
      · rw [hnew, addG, if_neg hn, hi1, List.map_set, ← hg]
        rw [Int.toNat_natCast]
        exact (modify_set (fun x : Att => (x.1, x.2 ++ l[k].2)) _ _ (nv rs[i]) (by rw [List.getElem?_map, List.getElem?_eq_getElem hir]; rfl)).symm
      · intro r hr
        rcases List.mem_or_eq_of_mem_set hr with hr | hr
        · exact hlen r hr
        · rw [hr]; simp
  · have hkl : k = l.length := by omega
    rw [hkl, List.take_length] at hg
    have hrk : rs.length ≤ l.length := by
      have := grp_len l
      rw [← hg] at this
      simpa using this
    have hmr : rs.map rowD = (rs.map pr).map rw2 := by simp [rowD]
    rw [hmr] at h3
    have hf := deleteR_fn 83 [] rfl (fun x => decide (x.2.2.1 = 0)) (rs.map pr) (by simp; omega) (fun a _ => emptyQ_fn a)
    simp -implicitDefEqProofs [slotsG, h9, h10, h11, h3, hlt, att, strs]
    simp only [rw2, List.map_map] at hf
    refine callK hf ?_
    obtain ⟨q0, hq0⟩ : ∃ q0 : List QRow, q0 = rs.zipIdx.filter fun q => !decide (q.1.2.1.2.1 = 0) := ⟨_, rfl⟩
    have e1 : ((rs.map pr).filter fun x => !decide (x.2.2.1 = 0)).map rw2 = q0.map q1 := by
      rw [hq0]
      have : rs = rs.zipIdx.map (·.1) := by simp
      conv => lhs; rw [this]
      rw [List.map_map, List.filter_map, List.map_map]
      rfl
    have e2 : q0.map (fun q => nv q.1) = (grp l).filter nonE := by
      rw [← hg, hq0]
      have : rs = rs.zipIdx.map (·.1) := by simp
      conv => rhs; rw [this]
      rw [List.map_map, List.filter_map]
      congr 1
      refine List.filter_congr (fun q hq => ?_)
      obtain ⟨hi, hr⟩ := zip_mem hq
      have := hlen q.1 (hr ▸ List.getElem_mem hi)
      simp [nonE, nv, this, List.length_eq_zero_iff]
      exact decide_eq_decide.2 Iff.rfl
    have e3 : (q0.map (·.2)).Nodup := by
      rw [hq0]
      have h1 : (rs.zipIdx.map (·.2)).Nodup := by rw [List.zipIdx_map_snd]; exact List.nodup_range'
      exact h1.sublist (List.filter_sublist.map _)
    have e4 : ∀ q ∈ q0, τ (1000000 + q.2) = hnd q.1 := by
      intro q hq
      rw [hq0] at hq
      obtain ⟨hi, hr⟩ := zip_mem (List.mem_filter.1 hq).1
      rw [hH _ hi, hr]
    have e5 : q0.length ≤ rs.length := by rw [hq0]; exact Nat.le_trans (List.length_filter_le _ _) (by simp)
    rw [e1]
    simp -implicitDefEqProofs [slotsG, h9, h10, h11, h3, hlt, att, strs]
    have e6 : ∀ a ∈ q0.map (fun q => nv q.1), a.2.length < 500000 := by
      intro a ha
      rw [e2] at ha
      have := total_mem (List.mem_filter.1 ha).1
      rw [total_grp] at this
      omega
    generalize hn0 : q0.map (fun q => nv q.1) = n0 at *
    have hn0l : n0.length = q0.length := by rw [← hn0]; simp
    refine loopN q0.length (fun k τ => τ 46 = .d (.int .i64 q0.length) ∧ τ 47 = .d (.int .i64 k) ∧ ∃ qs : List QRow, τ 3 = .own true 56 (qs.map q1) ∧ Named qs τ ∧ qs.map (fun q => nv q.1) = (n0.take k).map normA ++ n0.drop k) ?_ ?_
    · refine ⟨by simp, by simp, q0, by simp, ⟨e3, fun q hq => ?_⟩, by simp [hn0]⟩
      simp [hh_ne, hh_ne', e4 q hq, hnd]
    clear h9 h10 h11 h3 hH hU hk hlt hf e4 τ hkl
    rintro j τ hj ⟨h46, h47, qs, h3, ⟨hnd1, hnd2⟩, hqs⟩
    have hql : qs.length = q0.length := by
      have := congrArg List.length hqs
      simp at this
      omega
    by_cases hlt : j < q0.length
    · have hjq : j < qs.length := by omega
      have hjn : j < n0.length := by omega
      have hvj : nv qs[j].1 = n0[j] := by
        have h1 : (qs.map (fun q => nv q.1))[j]? = some (nv qs[j].1) := by simp [hjq]
        rw [hqs, List.getElem?_append_right (by simp; omega)] at h1
        simp [Nat.min_eq_left (Nat.le_of_lt hjn), hjn] at h1
        exact h1.symm
      have hvl : qs[j].1.2.2.length < 500000 := by
        have := e6 n0[j] (List.getElem_mem hjn)
        rw [← hvj] at this
        exact this
      have hnm := hnd2 qs[j] (List.getElem_mem hjq)
      simp -implicitDefEqProofs [slotsG, h46, h47, h3, hlt, hjq, q1, rowD, rw2, pr]
      refine inKr (1000000 + qs[j].2) (e := 9) (l := qs[j].1.2.2.map .str) (by simp [hh_ne, hh_ne', hnm, hnd, hd]) (sort_fn qs[j].1.2.2 (by omega)) ?_
      simp -implicitDefEqProofs [slotsG, h46, h47, h3, hlt, hjq, q1, rowD, rw2, pr, hh_ne, hh_ne']
      have hsl : (sortS qs[j].1.2.2).length = qs[j].1.2.2.length := by simp [sortS]
      refine nameK (1000000 + qs[j].2) (e := 9) (l := (sortS qs[j].1.2.2).map .str) (by simp [hh_ne, hh_ne']) (compact_fn (sortS qs[j].1.2.2) (by omega)) (fun A c => ?_)
      simp -implicitDefEqProofs [slotsG, h46, h47, h3, hlt, hjq, q1, rowD, rw2, pr, hh_ne, hh_ne']
      refine ⟨by omega, again hlt ⟨by simp [h46, hh_ne, hh_ne'], by simp [hh_ne, hh_ne'], qs.set j ((qs[j].1.1, (A, (Go.Lib.compact (sortS qs[j].1.2.2)).length, c), Go.Lib.compact (sortS qs[j].1.2.2)), qs[j].2), ?_, ⟨?_, fun q hq => ?_⟩, ?_⟩⟩
      · simp [hh_ne, hh_ne', q1, rowD, rw2, pr, List.map_set]
      · rw [List.map_set]
        have := List.set_getElem_self (i := j) (show j < (qs.map (·.2)).length by simpa using hjq)
        rw [List.getElem_map] at this
        rw [this]; exact hnd1
      · obtain ⟨i, hi, rfl⟩ := List.mem_iff_getElem.1 hq
        have hi' : i < qs.length := by simpa using hi
        by_cases hij : j = i
        · subst hij
          simp [hh_ne, hh_ne', hnd, hd]
        · rw [List.getElem_set_ne hij]
          have hne : ¬ qs[i].2 = qs[j].2 := fun e => by
            have h1 := List.pairwise_iff_getElem.1 hnd1
            rcases Nat.lt_or_gt_of_ne hij with h2 | h2
            · exact h1 j i (by simpa using hjq) (by simpa using hi') h2 (by simpa using e.symm)
            · exact h1 i j (by simpa using hi') (by simpa using hjq) h2 (by simpa using e)
          simp [hh_ne, hh_ne', hnd2 qs[i] (List.getElem_mem hi'), hne, hnd]
      · have hnn : nv ((qs[j].1.1, (A, (Go.Lib.compact (sortS qs[j].1.2.2)).length, c), Go.Lib.compact (sortS qs[j].1.2.2)) : Row) = normA n0[j] := by
          rw [← hvj]; rfl
        have hl1 : ((n0.take j).map normA).length = j := by simp; omega
        rw [List.map_set, hqs, List.set_append_right _ _ (by omega), hl1, Nat.sub_self, List.drop_eq_getElem_cons hjn, List.set_cons_zero, hnn, ← List.map_take, take_s hjn]
        simp only [List.map_append, List.map_cons, List.map_nil, List.append_assoc, List.singleton_append]
    · simp -implicitDefEqProofs [slotsG, h46, h47, h3, hlt]
      have hjl : j = n0.length := by omega
      subst hjl
      rw [List.take_length, List.drop_length, List.append_nil] at hqs
      have hmq : qs.map q1 = (qs.map fun q => pr q.1).map rw2 := by rw [List.map_map]; rfl
      rw [hmq]
      refine inKb (sortR_fn (qs.map fun q => pr q.1) (by simp; omega)) ?_
      obtain ⟨p1, p2⟩ := sortR_perm (qs.map fun q => pr q.1)
      replace p2 : ByName (sortR (qs.map fun q => pr q.1)) := p2
      generalize sortR (qs.map fun q => pr q.1) = ms at p1 p2 ⊢
      obtain ⟨qs', p3, rfl⟩ := perm_lift (fun q : QRow => pr q.1) p1 qs rfl
      have hlen' : qs'.length = qs.length := p3.length_eq
      have hT : ∀ (qs : List QRow) (τ' : St), (∀ q ∈ qs, τ' (1000000 + q.2) = hnd q.1) → (qs.map fun q => 1000000 + q.2).map τ' = (qs.map (·.1)).map hnd := by
        intro qs τ' h
        rw [List.map_map, List.map_map]
        exact List.map_congr_left h
      have hrow : (qs'.map fun q => pr q.1).map rw2 = qs'.map q1 := by rw [List.map_map]; rfl
      simp -implicitDefEqProofs [slotsG, h46, h47, h3, hlt]
      have hK : ∀ q ∈ qs', τ (1000000 + q.2) = hnd q.1 := fun q hq => hnd2 q (p3.mem_iff.1 hq)
      refine ⟨.own true 56 (qs'.map q1), qs'.map (fun q => 1000000 + q.2), ?_, fun k hk => ?_, ?_, qs'.map (·.1), ?_, ?_, ?_, ?_⟩
      · have h1 : (qs'.map (·.2)).Nodup := (p3.map _).nodup_iff.2 hnd1
        have h2 := List.Pairwise.map (R := fun a b : Nat => a ≠ b) (S := fun a b : Nat => a ≠ b) (fun x => 1000000 + x) (fun a b h => by omega) h1
        rw [List.map_map] at h2
        exact h2
      · obtain ⟨q, hq, rfl⟩ := List.mem_map.1 hk
        simp [hh_ne, hh_ne', hK q hq, hnd, isH]
      · simp [ResG, q1, rowD]
      · simp [q1]
      · rw [List.map_map, List.map_map]
        refine List.map_congr_left fun q hq => ?_
        simp [hh_ne, hh_ne', hK q hq, hnd]
      · rw [List.map_map]
        have h1 := p3.map (fun q : QRow => nv q.1)
        rw [hqs, e2] at h1
        exact h1
      · intro i j hij hj
        have := p2 i j hij (by simpa using hj)
        simpa [pr] using this
end Go.Proofs.Tz

namespace Go.Proofs.Tz
open Go.Vw Go.Lib
set_option linter.unusedSimpArgs false

theorem bl (x y : Str) : Op.bytesLess x y = decide (x < y) := bytesLess_eq x y
theorem bl_t {x y : Str} : Op.bytesLess x y = true ↔ x < y := by rw [bl]; simp
theorem bl_f {x y : Str} : Op.bytesLess x y = false ↔ ¬ x < y := by rw [bl]; simp
theorem s_irr (x : Str) : ¬ x < x := List.lt_irrefl x
theorem s_trans {x y z : Str} (h1 : x < y) (h2 : y < z) : x < z := List.lt_trans h1 h2
theorem s_tri {x y : Str} (h1 : ¬ x < y) (h2 : ¬ y < x) : x = y := List.le_antisymm (List.not_lt.1 h2) (List.not_lt.1 h1)

/-- Strictly ascending. -/
def SS (l : List Str) : Prop := l.Pairwise (· < ·)
theorem SS.nodup {l : List Str} (h : SS l) : l.Nodup := List.Pairwise.imp (R := fun a b : Str => a < b) (S := fun a b : Str => a ≠ b) (fun hab e => by subst e; exact s_irr _ hab) h
theorem SS_ext {a b : List Str} (ha : SS a) (hb : SS b) (h : ∀ x, x ∈ a ↔ x ∈ b) : a = b := by
  have hp : a.Perm b := (List.perm_ext_iff_of_nodup ha.nodup hb.nodup).2 h
  exact hp.eq_of_pairwise (fun x y _ _ h1 h2 => absurd (s_trans h1 h2) (s_irr x)) ha hb

/-- Insert, by recursion. -/
def insR (s : Str) : List Str → List Str
  | [] => [s]
  | x :: l => if x < s then x :: insR s l else if x = s then x :: l else s :: x :: l
theorem ins_rest (s : Str) : ∀ (l out : List Str), (∀ x ∈ l, s < x) → l.foldl (insS s) (true, out) = (true, out ++ l)
  | [], out, _ => by simp
  | x :: l, out, h => by
    have hx := h x (by simp)
    have hne : ¬ x = s := fun e => s_irr s (e ▸ hx)
    have : insS s (true, out) x = (true, out ++ [x]) := by simp [insS, hne]
    rw [List.foldl_cons, this, ins_rest s l _ (fun y hy => h y (by simp [hy]))]
    simp
theorem ins_go (s : Str) : ∀ (l out : List Str), SS l → (l.foldl (insS s) (false, out)).2 ++ (if (l.foldl (insS s) (false, out)).1 then [] else [s]) = out ++ insR s l
  | [], out, _ => by simp [insR]
  | x :: l, out, h => by
    have hp := List.pairwise_cons.1 h
    rw [List.foldl_cons, insR]
    by_cases hx : x < s
    · have hne : ¬ x = s := fun e => s_irr s (e ▸ hx)
      have : insS s (false, out) x = (false, out ++ [x]) := by simp [insS, bl_t.2 hx, hne]
      rw [this, ins_go s l _ hp.2, if_pos hx]
      simp
    · rw [if_neg hx]
      by_cases he : x = s
      · subst he
        have : insS x (false, out) x = (true, out ++ [x]) := by simp [insS, bl_f.2 hx]
        rw [this, ins_rest x l _ hp.1, if_pos rfl]
        simp
      · have hs : s < x := Classical.byContradiction fun h2 => he (s_tri hx h2)
        have : insS s (false, out) x = (true, out ++ [s] ++ [x]) := by simp [insS, bl_f.2 hx, he]
        rw [this, ins_rest s l _ (fun y hy => s_trans hs (hp.1 y hy)), if_neg he]
        simp
theorem ins_eq {l : List Str} (h : SS l) (s : Str) : ins l s = insR s l := by
  have := ins_go s l [] h
  rw [List.nil_append] at this
  exact this
theorem insR_mem (s : Str) : ∀ (l : List Str) (x : Str), x ∈ insR s l ↔ x = s ∨ x ∈ l
  | [], x => by simp [insR]
  | y :: l, x => by
    rw [insR]
    split
    · simp only [List.mem_cons, insR_mem s l x]
      constructor
      · rintro (h | h | h) <;> simp [h]
      · rintro (h | h | h) <;> simp [h]
    · split
      · rename_i h; subst h; simp
      · simp
theorem insR_SS (s : Str) : ∀ (l : List Str), SS l → SS (insR s l)
  | [], _ => by simp [insR, SS]
  | y :: l, h => by
    have hp := List.pairwise_cons.1 h
    rw [insR]
    split
    · rename_i hy
      refine List.pairwise_cons.2 ⟨fun z hz => ?_, insR_SS s l hp.2⟩
      rcases (insR_mem s l z).1 hz with rfl | hz
      · exact hy
      · exact hp.1 z hz
    · rename_i hy
      split
      · exact h
      · rename_i he
        have hs : s < y := Classical.byContradiction fun h2 => he (s_tri hy h2)
        refine List.pairwise_cons.2 ⟨fun z hz => ?_, h⟩
        rcases List.mem_cons.1 hz with rfl | hz
        · exact hs
        · exact s_trans hs (hp.1 z hz)
theorem ins_mem {l : List Str} (h : SS l) (s x : Str) : x ∈ ins l s ↔ x = s ∨ x ∈ l := by rw [ins_eq h]; exact insR_mem s l x
theorem ins_SS {l : List Str} (h : SS l) (s : Str) : SS (ins l s) := by rw [ins_eq h]; exact insR_SS s l h

theorem insAll_spec : ∀ (vs l : List Str), SS l → SS (vs.foldl ins l) ∧ ∀ x, x ∈ vs.foldl ins l ↔ x ∈ l ∨ x ∈ vs
  | [], l, h => ⟨h, fun x => by simp⟩
  | v :: vs, l, h => by
    have := insAll_spec vs (ins l v) (ins_SS h v)
    refine ⟨this.1, fun x => ?_⟩
    rw [List.foldl_cons, this.2, ins_mem h]
    simp only [List.mem_cons]
    constructor
    · rintro ((h | h) | h) <;> simp [h]
    · rintro (h | h | h) <;> simp [h]

theorem namesF_spec : ∀ (l : List Att) (ns : List Str), SS ns → SS (l.foldl namesS ns) ∧ ∀ x, x ∈ l.foldl namesS ns ↔ x ∈ ns ∨ ∃ a ∈ l, a.2 ≠ [] ∧ lower a.1 = x
  | [], ns, h => ⟨h, fun x => by simp⟩
  | a :: l, ns, h => by
    rw [List.foldl_cons]
    by_cases ha : a.2 = []
    · rw [namesS, if_pos ha]
      have := namesF_spec l ns h
      refine ⟨this.1, fun x => ?_⟩
      rw [this.2]
      simp [ha]
    · rw [namesS, if_neg ha]
      have := namesF_spec l (ins ns (lower a.1)) (ins_SS h _)
      refine ⟨this.1, fun x => ?_⟩
      rw [this.2, ins_mem h]
      simp only [List.mem_cons, exists_eq_or_imp, ne_eq, ha, not_false_eq_true, true_and]
      constructor
      · rintro ((h | h) | h)
        · exact .inr (.inl h.symm)
        · exact .inl h
        · exact .inr (.inr h)
      · rintro (h | h | h)
        · exact .inl (.inr h)
        · exact .inl (.inl h.symm)
        · exact .inr h
theorem valsF_spec (n : Str) : ∀ (l : List Att) (vs : List Str), SS vs → SS (l.foldl (valsS n) vs) ∧ ∀ x, x ∈ l.foldl (valsS n) vs ↔ x ∈ vs ∨ ∃ a ∈ l, lower a.1 = n ∧ x ∈ a.2
  | [], vs, h => ⟨h, fun x => by simp⟩
  | a :: l, vs, h => by
    rw [List.foldl_cons]
    by_cases ha : lower a.1 = n
    · rw [valsS, if_pos ha]
      have h1 := insAll_spec a.2 vs h
      have := valsF_spec n l _ h1.1
      refine ⟨this.1, fun x => ?_⟩
      rw [this.2, h1.2]
      simp only [List.mem_cons, exists_eq_or_imp, ha, true_and]
      constructor
      · rintro ((h | h) | h) <;> simp [h]
      · rintro (h | h | h) <;> simp [h]
    · rw [valsS, if_neg ha]
      have := valsF_spec n l vs h
      refine ⟨this.1, fun x => ?_⟩
      rw [this.2]
      simp [ha]

/-! ### what the program's sort and compaction come to -/
theorem sortS_asc (l : List Str) : (sortS l).Pairwise fun x y => ¬ y < x := by
  have h := List.pairwise_mergeSort (le := fun x y : Str => decide (x ≤ y)) (fun a b c h1 h2 => by
    simp only [decide_eq_true_eq] at *
    exact List.le_trans h1 h2) (fun a b => by
    simp only [Bool.or_eq_true, decide_eq_true_eq]
    exact List.le_total a b) l
  exact h.imp fun h => by simpa using h
theorem sortS_mem (l : List Str) (x : Str) : x ∈ sortS l ↔ x ∈ l := by simp [sortS]

theorem compact_spec (zs : List Str) (h : zs.Pairwise fun x y => ¬ y < x) : ∀ m, m ≤ zs.length → SS (compactUpTo zs.toArray m) ∧ ∀ x, x ∈ compactUpTo zs.toArray m ↔ x ∈ zs.take m
  | 0, _ => by simp [compactUpTo, SS]
  | m + 1, hm => by
    obtain ⟨h1, h2⟩ := compact_spec zs h m (by omega)
    have hlt : m < zs.length := by omega
    have hg : zs.toArray[m]! = zs[m] := by rw [getElem!_pos _ m (by simpa using hlt)]; simp
    have asc : ∀ i (hi : i < m), ¬ zs[m] < zs[i]'(by omega) := fun i hi => List.pairwise_iff_getElem.1 h i m (by omega) hlt hi
    rw [compactUpTo_succ, hg, take_s hlt]
    by_cases hk : keeps zs.toArray m = true
    · rw [if_pos hk]
      refine ⟨List.pairwise_append.2 ⟨h1, by simp, fun x hx y hy => ?_⟩, fun x => by rw [List.mem_append, List.mem_append, h2 x]⟩
      rw [List.mem_singleton.1 hy]
      obtain ⟨i, hi, rfl⟩ := List.mem_iff_getElem.1 ((h2 x).1 hx)
      have him : i < m := by simp at hi; omega
      simp only [List.getElem_take]
      have hm0 : m ≠ 0 := by omega
      have hg1 : zs.toArray[m - 1]! = zs[m - 1] := by rw [getElem!_pos _ (m - 1) (by simp; omega)]; simp
      have hne : zs[m] ≠ zs[m - 1] := by simpa [keeps, hm0, hg, hg1] using hk
      have hlt2 : zs[m - 1] < zs[m] := Classical.byContradiction fun hc => hne (s_tri (asc (m - 1) (by omega)) hc)
      by_cases hc : zs[i] < zs[m - 1]
      · exact s_trans hc hlt2
      · by_cases hie : i = m - 1
        · subst hie; exact hlt2
        · have := List.pairwise_iff_getElem.1 h i (m - 1) (by omega) (by omega) (by omega)
          rw [s_tri hc this]; exact hlt2
    · rw [if_neg hk, List.append_nil]
      refine ⟨h1, fun x => ?_⟩
      rw [h2 x]
      have hk' : keeps zs.toArray m = false := by simpa using hk
      have hm0 : m ≠ 0 := fun e => by subst e; simp [keeps] at hk'
      have hg1 : zs.toArray[m - 1]! = zs[m - 1] := by rw [getElem!_pos _ (m - 1) (by simp; omega)]; simp
      have he : zs[m] = zs[m - 1] := by simpa [keeps, hm0, hg, hg1] using hk'
      have hin : zs[m] ∈ zs.take m := by
        rw [he]
        exact List.mem_iff_getElem.2 ⟨m - 1, by simp; omega, by simp⟩
      simp only [List.mem_append, List.mem_singleton]
      constructor
      · intro hx; exact .inl hx
      · rintro (hx | rfl)
        · exact hx
        · exact hin
theorem normV (vs : List Str) : SS (compact (sortS vs)) ∧ ∀ x, x ∈ compact (sortS vs) ↔ x ∈ vs := by
  have h := compact_spec (sortS vs) (sortS_asc vs) (sortS vs).length (Nat.le_refl _)
  refine ⟨h.1, fun x => ?_⟩
  rw [← sortS_mem vs x]
  have := h.2 x
  rw [List.take_length] at this
  exact this

/-! ### the grouping -/
theorem idxR_at {α : Type} (p : α → Bool) : ∀ (l : List α) (k : Nat), idxR p k l ≠ -1 → ∃ i : Nat, idxR p k l = ((k + i : Nat) : Int) ∧ ∃ h : i < l.length, p l[i] = true
  | [], k, h => absurd rfl h
  | x :: l, k, h => by
    rw [idxR] at h ⊢
    by_cases hx : p x = true
    · rw [if_pos hx]
      exact ⟨0, by simp, by simp, hx⟩
    · rw [if_neg hx] at h ⊢
      obtain ⟨i, h1, h2, h3⟩ := idxR_at p l (k + 1) h
      exact ⟨i + 1, by rw [h1]; omega, by simpa using h2, by simpa using h3⟩

/-- Name n has value v. -/
def Has (l : List Att) (n v : Str) : Prop := ∃ x ∈ l, x.1 = n ∧ v ∈ x.2

theorem addG_spec (acc : List Att) (a : Att) (hn : (acc.map (·.1)).Nodup) : ((addG acc a).map (·.1)).Nodup ∧ ∀ n v, Has (addG acc a) n v ↔ Has acc n v ∨ (lower a.1 = n ∧ v ∈ a.2) := by
  unfold addG
  split
  · rename_i h
    have hf := idxR_neg _ acc 0 h
    have hno : ∀ x ∈ acc, ¬ x.1 = lower a.1 := fun x hx => by
      have := List.filter_eq_self.1 hf x hx
      simpa using this
    refine ⟨?_, fun n v => ?_⟩
    · rw [List.map_append, List.nodup_append]
      refine ⟨hn, by simp, ?_⟩
      intro x hx y hy e
      simp at hy
      obtain ⟨z, hz, rfl⟩ := List.mem_map.1 hx
      exact hno z hz (e.trans hy)
    · simp only [Has, List.mem_append, List.mem_singleton]
      constructor
      · rintro ⟨x, hx | rfl, h1, h2⟩
        · exact .inl ⟨x, hx, h1, h2⟩
        · exact .inr ⟨h1, h2⟩
      · rintro (⟨x, hx, h1, h2⟩ | ⟨h1, h2⟩)
        · exact ⟨x, .inl hx, h1, h2⟩
        · exact ⟨_, .inr rfl, h1, h2⟩
  · rename_i h
    obtain ⟨i, h1, hi, h3⟩ := idxR_at _ acc 0 h
    simp only [Nat.zero_add] at h1
    simp only [decide_eq_true_eq] at h3
    rw [h1, Int.toNat_natCast, modify_set (fun x : Att => (x.1, x.2 ++ a.2)) acc i acc[i] (List.getElem?_eq_getElem hi)]
    refine ⟨?_, fun n v => ?_⟩
    · rw [List.map_set]
      have := List.set_getElem_self (i := i) (show i < (acc.map (·.1)).length by simpa using hi)
      rw [List.getElem_map] at this
      rw [this]; exact hn
    · simp only [Has]
      constructor
      · rintro ⟨x, hx, e1, e2⟩
        obtain ⟨j, hj, rfl⟩ := List.mem_iff_getElem.1 hx
        have hj' : j < acc.length := by simpa using hj
        by_cases hij : i = j
        · subst hij
          rw [List.getElem_set_self] at e1 e2
          simp only [List.mem_append] at e1 e2
          rcases e2 with e2 | e2
          · exact .inl ⟨_, List.getElem_mem hi, e1, e2⟩
          · exact .inr ⟨h3.symm.trans e1, e2⟩
        · rw [List.getElem_set_ne hij] at e1 e2
          exact .inl ⟨_, List.getElem_mem hj', e1, e2⟩
      · rintro (⟨x, hx, e1, e2⟩ | ⟨e1, e2⟩)
        · obtain ⟨j, hj, rfl⟩ := List.mem_iff_getElem.1 hx
          by_cases hij : i = j
          · subst hij
            refine ⟨_, List.mem_iff_getElem.2 ⟨i, by simpa using hi, List.getElem_set_self _⟩, e1, by simp [e2]⟩
          · exact ⟨_, List.mem_iff_getElem.2 ⟨j, by simpa using hj, List.getElem_set_ne hij _⟩, e1, e2⟩
        · exact ⟨_, List.mem_iff_getElem.2 ⟨i, by simpa using hi, List.getElem_set_self _⟩, h3.trans e1, by simp [e2]⟩

theorem grp_spec (l : List Att) : ((grp l).map (·.1)).Nodup ∧ ∀ n v, Has (grp l) n v ↔ ∃ a ∈ l, lower a.1 = n ∧ v ∈ a.2 := by
  have key : ∀ (l acc : List Att), (acc.map (·.1)).Nodup → ((l.foldl addG acc).map (·.1)).Nodup ∧ ∀ n v, Has (l.foldl addG acc) n v ↔ Has acc n v ∨ ∃ a ∈ l, lower a.1 = n ∧ v ∈ a.2 := by
    intro l
    induction l with
    | nil => intro acc h; exact ⟨h, fun n v => by simp⟩
    | cons a l ih =>
      intro acc h
      have h1 := addG_spec acc a h
      have h2 := ih _ h1.1
      refine ⟨h2.1, fun n v => ?_⟩
      rw [List.foldl_cons, h2.2, h1.2]
      simp only [List.mem_cons, exists_eq_or_imp, or_assoc]
  have := key l [] (by simp)
  exact ⟨this.1, fun n v => by rw [show grp l = l.foldl addG [] from rfl, this.2]; simp [Has]⟩

/-- What the program returns is the normal form of the specification. -/
theorem normal_eq (l out : List Att) (hp : out.Perm (((grp l).filter nonE).map normA)) (hs : ∀ i j (_ : i < j) (hj : j < out.length), Op.bytesLess out[j].1 (out[i]'(by omega)).1 = false) : out = sortedL l := by
  obtain ⟨g1, g2⟩ := grp_spec l
  have hnames : (out.map (·.1)).Perm (((grp l).filter nonE).map (·.1)) := by
    have := hp.map (·.1)
    rw [List.map_map] at this
    exact this
  have hnd : (out.map (·.1)).Nodup := hnames.nodup_iff.2 (g1.sublist (List.filter_sublist.map _))
  have hSS : SS (out.map (·.1)) := by
    refine List.pairwise_iff_getElem.2 fun i j hi hj hij => ?_
    have hj' : j < out.length := by simpa using hj
    have h1 := hs i j hij hj'
    rw [bl_f] at h1
    simp only [List.getElem_map]
    refine Classical.byContradiction fun hc => ?_
    have he := s_tri hc h1
    exact List.pairwise_iff_getElem.1 hnd i j hi hj hij (by simpa using he)
  have hN := namesF_spec l [] (by simp [SS])
  have e1 : out.map (·.1) = namesF l := by
    refine SS_ext hSS hN.1 fun n => ?_
    rw [hnames.mem_iff, show namesF l = l.foldl namesS [] from rfl, hN.2]
    simp only [List.mem_map, List.mem_filter, List.not_mem_nil, false_or]
    constructor
    · rintro ⟨x, ⟨hx, hne⟩, rfl⟩
      have hne' : x.2 ≠ [] := by simpa [nonE] using hne
      obtain ⟨v, hv⟩ := List.exists_mem_of_ne_nil _ hne'
      obtain ⟨a, ha, e, hav⟩ := (g2 x.1 v).1 ⟨x, hx, rfl, hv⟩
      exact ⟨a, ha, List.ne_nil_of_mem hav, e⟩
    · rintro ⟨a, ha, hne, e⟩
      obtain ⟨v, hv⟩ := List.exists_mem_of_ne_nil _ hne
      obtain ⟨x, hx, e2, hxv⟩ := (g2 n v).2 ⟨a, ha, e, hv⟩
      exact ⟨x, ⟨hx, by simp [nonE]; exact List.ne_nil_of_mem hxv⟩, e2⟩
  have e2 : ∀ x ∈ out, x.2 = valsF l x.1 := by
    intro x hx
    obtain ⟨y, hy, rfl⟩ := List.mem_map.1 (hp.mem_iff.1 hx)
    have hyg := (List.mem_filter.1 hy).1
    have hv := normV y.2
    have hV := valsF_spec y.1 l [] (by simp [SS])
    refine SS_ext hv.1 hV.1 fun v => ?_
    rw [show valsF l (normA y).1 = l.foldl (valsS y.1) [] from rfl, hV.2]
    refine (hv.2 v).trans ?_
    simp only [List.not_mem_nil, false_or]
    rw [← g2 y.1 v]
    constructor
    · intro h; exact ⟨y, hyg, rfl, h⟩
    · rintro ⟨z, hz, e, h⟩
      obtain ⟨i, hi, rfl⟩ := List.mem_iff_getElem.1 hz
      obtain ⟨j, hj, rfl⟩ := List.mem_iff_getElem.1 hyg
      have hij : i = j := by
        have h1 := List.pairwise_iff_getElem.1 g1
        rcases Nat.lt_trichotomy i j with h2 | h2 | h2
        · have h3 := h1 i j (by simpa using hi) (by simpa using hj) h2
          simp only [List.getElem_map] at h3
          exact absurd e h3
        · exact h2
        · have h3 := h1 j i (by simpa using hj) (by simpa using hi) h2
          simp only [List.getElem_map] at h3
          exact absurd e.symm h3
      subst hij; exact h
  have e3 : out = out.map fun x => (x.1, valsF l x.1) := by
    conv => lhs; rw [← List.map_id' out]
    refine List.map_congr_left fun x hx => ?_
    rw [← e2 x hx]
  rw [e3, sortedL, ← e1, List.map_map]
  rfl
end Go.Proofs.Tz

/- Change records: merging, what a vector lacks (the reference's, and Since of both). -/
set_option maxRecDepth 100000
set_option maxHeartbeats 4000000
set_option linter.unusedVariables false
set_option linter.unusedSimpArgs false
namespace Go.Proofs.Tz
open Go.Vw Go.RowKit Go.Proofs

theorem FitCs.snoc {l : List Chg} {c : Chg} {n : Nat} (h : ∀ x ∈ l, FitC x) (hc : FitC c) : ∀ x ∈ l ++ [c], FitC x := fun x hx => by
  rcases List.mem_append.1 hx with hx | hx
  · exact h x hx
  · rw [List.mem_singleton.1 hx]; exact hc
/-- What a vector lacks. -/
def sinceL (l : List Chg) (v : List Csn) : List Chg := l.filter fun c => !coversB v c.1
def sinT (l : List Chg) (v : List Csn) (k : Nat) : List Chg := (l.take k).filter fun c => !coversB v c.1
theorem sinT_zero (l : List Chg) (v : List Csn) : sinT l v 0 = [] := by simp [sinT]
theorem sinT_yes {l : List Chg} {v : List Csn} {k : Nat} (hk : k < l.length) (h : coversB v l[k].1 = false) : sinT l v (k + 1) = sinT l v k ++ [l[k]] := by
  unfold sinT; rw [take_s hk, List.filter_append]; simp [h]
theorem sinT_no {l : List Chg} {v : List Csn} {k : Nat} (hk : k < l.length) (h : coversB v l[k].1 = true) : sinT l v (k + 1) = sinT l v k := by
  unfold sinT; rw [take_s hk, List.filter_append]; simp [h]
theorem sinT_all {l : List Chg} {v : List Csn} {k : Nat} (hk : l.length ≤ k) : sinT l v k = sinceL l v := by
  unfold sinT sinceL; rw [List.take_of_length_le hk]
theorem sinT_len (l : List Chg) (v : List Csn) (k : Nat) : (sinT l v k).length ≤ k := by
  have := List.length_filter_le (fun c : Chg => !coversB v c.1) (l.take k)
  unfold sinT; simp only [List.length_take] at this; omega
theorem since_fn (l : List Chg) (v : List Csn) (hl : l.length < 900000) (hv : v.length < 1000000) : Ctr Tryz.prog 22 [.d (chgs l), .d (csns v)] (.d (chgs (sinceL l v))) := by
  refine fn_of_vwp (fun i => false) (by kernel_rfl) Tryz.func22 (by kernel_rfl) rfl rfl (Nat.le_of_ble_eq_true rfl) (by kernel_rfl) rfl rfl ?_
  obtain ⟨V, hV⟩ : ∃ V, csns v = V := ⟨_, rfl⟩
  simp -implicitDefEqProofs [chgs]
  refine loopN l.length (fun k τ => τ 8 = .d (chgs l) ∧ τ 1 = .d (csns v) ∧ τ 9 = .d (.int .i64 l.length) ∧ τ 10 = .d (.int .i64 k) ∧ τ 5 = .own false 26 ((sinT l v k).map chgD)) ⟨by simp [chgs], by simp, by simp, by simp, by simp [sinT_zero]⟩ ?_
  rintro k τ hk ⟨h8, h1, h9, h10, h5⟩
  by_cases hlt : k < l.length
  · have hlt' : (k : Int) < l.length := by omega
    have hy := @sinT_yes l v k hlt
    have hn := @sinT_no l v k hlt
    have hsl := sinT_len l v k
    have c1 := covers_fn v l[k].1 hv
    generalize hx : l[k] = x at *
    generalize coversB v x.1 = B at *
    simp only [csnD] at c1
    rw [hV] at h1 c1
    cases B
    · have hy := hy rfl
      simp -implicitDefEqProofs [h8, h1, h9, h10, h5, hlt, hlt', hx, chgs, chgD, csnD]
      repeat refine And.intro (by omega) ?_
      refine callK c1 ?_
      simp -implicitDefEqProofs [h8, h1, h9, h10, h5]
      repeat refine And.intro (by omega) ?_
      exact again hlt ⟨by simp [h8, chgs], by simp [h1, hV], by simp [h9], by simp, by simp [hy, chgD, csnD]⟩
    · have hn := hn rfl
      simp -implicitDefEqProofs [h8, h1, h9, h10, h5, hlt, hlt', hx, chgs, chgD, csnD]
      repeat refine And.intro (by omega) ?_
      refine callK c1 ?_
      simp -implicitDefEqProofs [h8, h1, h9, h10, h5]
      repeat refine And.intro (by omega) ?_
      exact again hlt ⟨by simp [h8, chgs], by simp [h1, hV], by simp [h9], by simp, by simp [h5, hn]⟩
  · have hlt' : ¬ (k : Int) < l.length := by omega
    rw [sinT_all (by omega)] at h5
    simp -implicitDefEqProofs [h8, h1, h9, h10, h5, hlt', chgs]
end Go.Proofs.Tz

/- Change records: the order of the sort. -/
set_option maxRecDepth 100000
set_option maxHeartbeats 4000000
set_option linter.unusedVariables false
set_option linter.unusedSimpArgs false
namespace Go.Proofs.Tz
open Go.Vw Go.RowKit Go.Proofs

abbrev cmpS (a b : Str) : Int := Go.Lib.compareBytes a b
theorem cmpS_eq : ∀ (a b : Str), cmpS a b = if a < b then -1 else if b < a then 1 else 0
  | [], [] => by simp [cmpS, Go.Lib.compareBytes]
  | [], b :: bs => by simp [cmpS, Go.Lib.compareBytes]
  | a :: l, [] => by simp [cmpS, Go.Lib.compareBytes]
  | a :: l, b :: bs => by
    have ih := cmpS_eq l bs
    simp only [cmpS, Go.Lib.compareBytes] at ih ⊢
    simp only [List.cons_lt_cons_iff]
    by_cases h1 : a < b
    · simp [h1]
    · by_cases h2 : b < a
      · have hne : ¬ a = b := by rintro rfl; exact h1 h2
        have hne' : ¬ b = a := fun e => hne e.symm
        simp [h1, h2, hne, hne']
      · have he : a = b := UInt8.le_antisymm (by simpa using h2) (by simpa using h1)
        subst he
        simp [h1, ih]
theorem cmpS_neg {a b : Str} : cmpS a b < 0 ↔ a < b := by
  rw [cmpS_eq]
  by_cases h1 : a < b
  · simp [h1]
  · by_cases h2 : b < a
    · simp [h1, h2]
    · simp [h1, h2]
set_option maxHeartbeats 1000000 in
theorem compareS_any (a b : Str) (w : World) : Calls Tryz.prog 120 #[.string ⟨a.toArray⟩, .string ⟨b.toArray⟩] w fun e w' => e = .returned (.int .i64 (cmpS a b)) ∧ w' = w := by
  go_enter Tryz.func120, Tryz.ntmps120
  go_wp2
  rw [run_callFunc_extern Tryz.func155 (by kernel_rfl) (by kernel_rfl) (by kernel_rfl) (e := Extern.BytealgCompare.compare) (by kernel_rfl), Lib.run_compareString]
  simp only [Result.andThen]
  rw [Oper.upon_value]
  go_wp2
  go_ret
  simp [cmpS]
theorem compareS_fn (a b : Str) : Ctr Tryz.prog 120 [.d (.str a), .d (.str b)] (.d (.int .i64 (cmpS a b))) := by
  refine Ctr.same (xs := [.str a, .str b]) (enters_of Tryz.func120 (by kernel_rfl) rfl) (compareS_any a b) (fun w L og vals h => ?_) (fun w L => RepV.int)
  obtain ⟨v, us, rfl, h1, v2, us2, rfl, h2, h3⟩ := h
  obtain rfl : us2 = [] := h3
  obtain rfl := RepV.str_inv h1
  obtain rfl := RepV.str_inv h2
  rfl
theorem strCompare_fn (a b : Str) : Ctr Tryz.prog 68 [.d (.str a), .d (.str b)] (.d (.int .i64 (cmpS a b))) := by
  refine fn_of_vwp (fun _ => false) (by kernel_rfl) Tryz.func68 (by kernel_rfl) rfl rfl (Nat.le_of_ble_eq_true rfl) (by kernel_rfl) rfl rfl ?_
  simp -implicitDefEqProofs
  refine callK (compareS_fn a b) ?_
  simp -implicitDefEqProofs

/-- The order of the sort. -/
def mcmp (x y : Chg) : Int := if x = y then 0 else if x.1 ≠ y.1 then cmpC x.1 y.1 else cmpS (lineCT x).1 (lineCT y).1
theorem csn_parts {a b : Csn} : (decide (a.1 = b.1) && (decide (a.2.1 = b.2.1) && decide (a.2.2 = b.2.2))) = decide (a = b) := by
  obtain ⟨a1, a2, a3⟩ := a
  obtain ⟨b1, b2, b3⟩ := b
  simp [Prod.mk.injEq, Bool.decide_and]
theorem mcmp_fn (x y : Chg) (hx : FitC x) (hy : FitC y) : Ctr Tryz.prog 66 [.d (chgD x), .d (chgD y)] (.d (.int .i64 (mcmp x y))) := by
  refine fn_of_vwp (fun _ => false) (by kernel_rfl) Tryz.func66 (by kernel_rfl) rfl rfl (Nat.le_of_ble_eq_true rfl) (by kernel_rfl) rfl rfl ?_
  have c1 := ccmp_fn x.1 y.1
  have c2 := line_fn x hx
  have c3 := line_fn y hy
  obtain ⟨R, hR⟩ : ∃ R, mcmp x y = R := ⟨_, rfl⟩
  rw [hR]
  unfold mcmp at hR
  have c4 := strCompare_fn (lineCT x).1 (lineCT y).1
  by_cases h : x = y
  · rw [if_pos h] at hR
    subst h
    subst hR
    simp -implicitDefEqProofs [chgD, csnD, leafEq]
    try decide
  rw [if_neg h] at hR
  generalize lineCT x = A at *
  generalize lineCT y = B at *
  obtain ⟨⟨x1, x2, x3⟩, xo, xi, xn, xa, xv⟩ := x
  obtain ⟨⟨y1, y2, y3⟩, yo, yi, yn, ya, yv⟩ := y
  obtain ⟨A1, A2⟩ := A
  obtain ⟨B1, B2⟩ := B
  simp only [chgD, csnD] at c1 c2 c3 c4
  simp only at hR
  by_cases hn : ((x1, x2, x3) : Csn) = (y1, y2, y3)
  · rw [if_neg (by simpa using hn)] at hR
    subst hR
    simp only [Prod.mk.injEq] at hn
    obtain ⟨rfl, rfl, rfl⟩ := hn
    have hne : ¬ (xo = yo ∧ xi = yi ∧ xn = yn ∧ xa = ya ∧ xv = yv) := by
      rintro ⟨rfl, rfl, rfl, rfl, rfl⟩; exact h rfl
    have hne2 : (decide (xo = yo) && (decide (xi = yi) && (decide (xn = yn) && (decide (xa = ya) && decide (xv = yv))))) = false := by
      simp only [Bool.and_eq_false_iff, decide_eq_false_iff_not]
      by_cases q1 : xo = yo <;> by_cases q2 : xi = yi <;> by_cases q3 : xn = yn <;> by_cases q4 : xa = ya <;> by_cases q5 : xv = yv <;> simp [q1, q2, q3, q4, q5] <;> exact hne ⟨q1, q2, q3, q4, q5⟩
    simp -implicitDefEqProofs [chgD, csnD, leafEq, hne2]
    refine callK c2 ?_
    simp -implicitDefEqProofs
    refine callK c3 ?_
    simp -implicitDefEqProofs
    refine callK c4 ?_
    simp -implicitDefEqProofs
  · rw [if_pos (by simpa using hn)] at hR
    subst hR
    have hp := @csn_parts (x1, x2, x3) (y1, y2, y3)
    simp only [hn, decide_false] at hp
    simp -implicitDefEqProofs [chgD, csnD, leafEq, hp]
    refine callK c1 ?_
    simp -implicitDefEqProofs
theorem meq_fn (x y : Chg) : Ctr Tryz.prog 70 [.d (chgD x), .d (chgD y)] (.d (.bool (decide (x.1 = y.1)))) := by
  refine fn_of_vwp (fun _ => false) (by kernel_rfl) Tryz.func70 (by kernel_rfl) rfl rfl (Nat.le_of_ble_eq_true rfl) (by kernel_rfl) rfl rfl ?_
  have hp := @csn_parts x.1 y.1
  obtain ⟨⟨x1, x2, x3⟩, xr⟩ := x
  obtain ⟨⟨y1, y2, y3⟩, yr⟩ := y
  simp only at hp
  by_cases hn : ((x1, x2, x3) : Csn) = (y1, y2, y3)
  · simp only [Prod.mk.injEq] at hn
    obtain ⟨rfl, rfl, rfl⟩ := hn
    simp -implicitDefEqProofs [chgD, csnD, leafEq]
    try decide
  · simp only [hn, decide_false] at hp ⊢
    simp -implicitDefEqProofs [chgD, csnD, leafEq, hp]
    try decide
end Go.Proofs.Tz

/- Change records: the sort. -/
set_option maxRecDepth 100000
set_option maxHeartbeats 4000000
set_option linter.unusedVariables false
set_option linter.unusedSimpArgs false
namespace Go.Proofs.Tz
open Go.Vw Go.RowKit Go.Proofs Go.Sort

abbrev FChg := {c : Chg // FitC c}
instance : Inhabited FChg := ⟨⟨zeroC, ⟨by simp [zeroC], by simp [zeroC], by simp [zeroC], by simp [zeroC]⟩⟩⟩
def encC (c : FChg) : List Value := [.int .i64 c.1.1.1, .int .i64 c.1.1.2.1, .int .i64 c.1.1.2.2, .int .i64 c.1.2.1, .string ⟨c.1.2.2.1.toArray⟩, .string ⟨c.1.2.2.2.1.toArray⟩, .string ⟨c.1.2.2.2.2.1.toArray⟩, .string ⟨c.1.2.2.2.2.2.toArray⟩]
theorem flatC : FlatE (fun c : FChg => chgD c.1) encC 8 where
  agg _ := rfl
  rep w L x cs := by
    simp only [chgD, csnD, Rep, RepL, encC]
    constructor
    · rintro ⟨css, ⟨c1, r1, rfl, ⟨d1, ⟨_, _, rfl, rfl, _, _, rfl, rfl, _, _, rfl, rfl, rfl⟩, rfl⟩, _, _, rfl, rfl, _, _, rfl, rfl, _, _, rfl, rfl, _, _, rfl, rfl, _, _, rfl, rfl, rfl⟩, rfl⟩
      rfl
    · rintro rfl
      exact ⟨[_, _, _, _, _, _], ⟨_, _, rfl, ⟨[_, _, _], ⟨_, _, rfl, rfl, _, _, rfl, rfl, _, _, rfl, rfl, rfl⟩, rfl⟩, _, _, rfl, rfl, _, _, rfl, rfl, _, _, rfl, rfl, _, _, rfl, rfl, _, _, rfl, rfl, rfl⟩, rfl⟩
  len _ := rfl
  one x v hv := by
    simp only [encC, List.mem_cons, List.not_mem_nil, or_false] at hv
    rcases hv with rfl | rfl | rfl | rfl | rfl | rfl | rfl | rfl <;> rfl
def mcf (x y : FChg) : Int := mcmp x.1 y.1
theorem mcmp_neg {x y : Chg} : mcmp x y < 0 ↔ cmpC x.1 y.1 < 0 ∨ (x.1 = y.1 ∧ (lineCT x).1 < (lineCT y).1) := by
  unfold mcmp
  by_cases h : x = y
  · subst h
    rw [if_pos rfl, cmpC_self]
    simp [List.lt_irrefl]
  · rw [if_neg h]
    by_cases hn : x.1 = y.1
    · rw [if_neg (by simpa using hn), cmpS_neg, hn, cmpC_self]
      simp
    · rw [if_pos hn]
      simp [hn]
theorem swoC : SWO (ltOf mcf) where
  irrefl x := by
    have := (mcmp_neg (x := x.1) (y := x.1)).1
    unfold ltOf mcf
    simp only [decide_eq_false_iff_not]
    intro h
    rcases this h with h1 | h1
    · rw [cmpC_self] at h1; omega
    · exact List.lt_irrefl _ h1.2
  trans x y z h1 h2 := by
    unfold ltOf mcf at *
    simp only [decide_eq_true_eq] at *
    rw [mcmp_neg] at *
    rcases h1 with h1 | ⟨h1, h3⟩ <;> rcases h2 with h2 | ⟨h2, h4⟩
    · exact .inl (cmpC_trans h1 h2)
    · rw [h2] at h1; exact .inl h1
    · rw [← h1] at h2; exact .inl h2
    · exact .inr ⟨h1.trans h2, List.lt_trans h3 h4⟩
  ntrans x y z h1 h2 := by
    unfold ltOf mcf at *
    simp only [decide_eq_false_iff_not] at *
    rw [mcmp_neg] at *
    simp only [not_or, not_and] at *
    have a1 := cmpC_anti x.1.1 y.1.1
    have a2 := cmpC_anti y.1.1 z.1.1
    have a3 := cmpC_anti x.1.1 z.1.1
    have key : ∀ {p q : Csn}, ¬ cmpC p q < 0 → p = q ∨ cmpC q p < 0 := fun {p q} h => by
      have := cmpC_anti p q
      by_cases h0 : cmpC p q = 0
      · exact .inl (cmpC_zero.1 h0)
      · right; omega
    rcases key h1.1 with e1 | g1 <;> rcases key h2.1 with e2 | g2
    · rw [e1, e2, cmpC_self]
      refine ⟨by omega, fun _ h => ?_⟩
      have b1 := h1.2 e1
      have b2 := h2.2 e2
      rw [List.not_lt] at b1 b2
      exact absurd h (by rw [List.not_lt]; exact List.le_trans b2 b1)
    · rw [e1]
      refine ⟨by omega, fun e => ?_⟩
      rw [e, cmpC_self] at g2; omega
    · rw [← e2]
      refine ⟨by omega, fun e => ?_⟩
      rw [e, cmpC_self] at g1; omega
    · have g := cmpC_trans g2 g1
      refine ⟨by omega, fun e => ?_⟩
      rw [e, cmpC_self] at g; omega
theorem sortC_fn (l : List FChg) (hl : l.length < 1000000) : CtrI Tryz.prog 65 26 (l.map fun c => chgD c.1) [.d (.clo 66 [])] ((sortL mcf l).map fun c => chgD c.1) := by
  refine sortRows_fn Tryz.layQ 8 (by decide) Tryz.isAgg26 Tryz.sizeOf26 26 Tryz.sz_26 (enters_of Tryz.func65 (by kernel_rfl) rfl) (fun c => chgD c.1) encC flatC mcf swoC 66 (fun x y => mcmp_fn x.1 y.1 x.2 y.2) (fun w => ?_) l hl
  exact AnyF.slices_SortFunc_none Tryz.layQ none 0 (.func (.func 66) #[] #[]) w
end Go.Proofs.Tz

/- slices.Grow of records, at nil. -/
set_option linter.unusedVariables false
set_option linter.unusedSimpArgs false
namespace Go.Proofs.Tz
open Go.Vw Go.RowKit Go.Proofs

set_option maxRecDepth 1000000 in
set_option maxHeartbeats 2000000 in
theorem gw_zero (w : World) : Calls Tryz.prog 115 #[.slice none 0 0, .int .i64 (0 : Nat)] w fun e w' => e = .returned (.slice none 0 0) ∧ w' = w := by
  go_enter Tryz.func115, Tryz.ntmps115
  go_wp2
  go_ret
  exact ⟨rfl, rfl⟩
set_option maxRecDepth 1000000 in
set_option maxHeartbeats 2000000 in
theorem gw_pos (n : Nat) (h0 : 0 < n) (hn : n < 1000000) (w : World) : Calls Tryz.prog 115 #[.slice none 0 0, .int .i64 n] w fun e w' =>
    ∃ C cap, e = .returned (.slice (some ⟨w.heap.size, 0, none⟩) 0 cap) ∧ w' = w.drew.alloc (.cells C 26) ∧ C.size = cap * 8 ∧ 0 < cap ∧ cap ≤ maxLen := by
  obtain ⟨i, z, f1, f2, f3, f4, f5, f6⟩ := esz_parts Tryz.ez_26
  have hb : n * i.bytes ≤ 281474976710656 := by rw [f4]; omega
  have hw : IntKind.i64.wrap (IntKind.i64.wrap (n : Int)) = n := by rw [IntKind.wrap_i64, IntKind.wrap_i64]; omega
  have hw1 : IntKind.i64.wrap (n : Int) = n := by rw [IntKind.wrap_i64]; omega
  have hap := Lib.run_append_nil_zeros (P := Tryz.prog) w 28 3 28 26 i z .i64 .i64 Tryz.underlying28 Tryz.underlying3 f1 f2 n h0 (by omega) (by omega) hb
  have hge := grownCap_ge w n 0 26
  have hle := grownCap_le_maxLen w n 0 26 (by unfold maxLen; omega)
  have hC : (Builtin.zeroCells z.cells n ++ Builtin.zeroCells z.cells (grownCap w n 0 26 - n)).size = grownCap w n 0 26 * 8 := by
    rw [Array.size_append]
    have hz : ∀ m, (Builtin.zeroCells z.cells m).size = m * 8 := fun m => by simp [Builtin.zeroCells, f5]
    rw [hz, hz]; omega
  generalize Builtin.zeroCells z.cells n ++ Builtin.zeroCells z.cells (grownCap w n 0 26 - n) = C at *
  generalize grownCap w n 0 26 = cap at *
  have hneg : ¬ ((n : Int) < 0) := by omega
  have hpos : (0 : Int) < n := by omega
  have hcap0 : ¬ cap = 0 := by omega
  go_enter Tryz.func115, Tryz.ntmps115
  go_wp2_with (at_builtin; refine Lib.wpList_append_run _ rfl _ _ _ _ rfl _ _ rfl rfl _ _ hap ?_)
  go_ret
  exact ⟨C, cap, rfl, rfl, hC, by omega, hle⟩

theorem info_26 : (Tryz.prog.info? (ety 26)).map (·.size) = some 8 := by kernel_rfl
set_option maxRecDepth 100000 in
theorem growC_fn (n : Nat) (hn : n < 1000000) : Ctr Tryz.prog 115 [.d (.raw (.slice none 0 0)), .d (.int .i64 n)] (.own true 26 []) := by
  refine ⟨enters_of Tryz.func115 (by kernel_rfl) rfl, fun w L og vals hlok hgl hog hrc => ?_⟩
  simp only [RCs] at hrc
  obtain ⟨v, us, rfl, h1, v2, us2, rfl, h2, rfl⟩ := hrc
  obtain rfl : v = .slice none 0 0 := RepV.raw_inv h1
  obtain rfl : v2 = .int .i64 n := RepV.int_inv h2
  by_cases h0 : n = 0
  · subst h0
    refine (gw_zero w).mono ?_
    rintro e w' ⟨rfl, rfl⟩
    refine ⟨_, L, none, rfl, GrownS.refl w' _, hlok, fun _ _ _ _ => Iff.rfl, fun g hg => by simp at hg, ⟨[], 8, info_26, by simp [RepL], by simp, ⟨by simp, .inl ⟨rfl, rfl⟩⟩, fun g hg => by simp [Value.ownBlock] at hg⟩⟩
  · refine (gw_pos n (by omega) hn w).mono ?_
    rintro e w' ⟨C, cap, rfl, rfl, hC, hcap, hle⟩
    have hsz : (w.drew.alloc (.cells C 26)).heap.size = w.heap.size + 1 := size_alloc _ _
    have hold : ∀ k, k < w.heap.size → (w.drew.alloc (.cells C 26)).heap[k]? = w.heap[k]? := fun k hk => Lib.alloc_old w.drew _ k hk
    have hgk : (w.drew.alloc (.cells C 26)).heap[w.heap.size]? = some (.cells C 26 (0, 0)) := by
      show (w.heap.push (.cells C 26))[w.heap.size]? = _
      rw [Array.getElem?_push, if_pos rfl]
    have hfree : ∀ q, ¬ L w.heap.size q := fun q hq => by have := hlok _ q hq; omega
    refine ⟨_, L, some w.heap.size, rfl, ⟨rfl, rfl, rfl, by omega, fun k hk hn => hold k hk, by show w.drawn ≤ w.drawn + 1; omega⟩, fun c q hq => by have := hlok c q hq; omega, fun _ _ _ _ => Iff.rfl,
      fun g hg => ?_, ⟨[], 8, info_26, by simp [RepL], by simp, ⟨rfl, .inr ⟨w.heap.size, cap, C, rfl, by rw [ety_lt (by decide), mk_lt (by decide)]; exact hgk, Nat.zero_le _, hle, by omega, by simp⟩⟩, fun g hg => ?_⟩⟩
    · obtain rfl : w.heap.size = g := by simpa using hg
      exact ⟨by omega, .inl (Nat.le_refl _)⟩
    · obtain rfl : w.heap.size = g := by simpa [Value.ownBlock] using hg
      exact ⟨rfl, fun o => ⟨fun h => absurd h (hfree o), fun h => by simp at h⟩⟩
end Go.Proofs.Tz

/- slices.Concat of records. -/
set_option maxRecDepth 100000
set_option maxHeartbeats 4000000
set_option linter.unusedVariables false
set_option linter.unusedSimpArgs false
namespace Go.Proofs.Tz
open Go.Vw Go.RowKit Go.Proofs

def catN (ls : List (List Chg)) (k : Nat) : Nat := ((ls.take k).map List.length).sum
theorem catN_zero (ls : List (List Chg)) : catN ls 0 = 0 := by simp [catN]
theorem catN_succ {ls : List (List Chg)} {k : Nat} (h : k < ls.length) : catN ls (k + 1) = catN ls k + ls[k].length := by
  unfold catN; rw [take_s h, List.map_append, List.sum_append]; simp
theorem catN_le (ls : List (List Chg)) (k : Nat) : catN ls k ≤ (ls.map List.length).sum := by
  unfold catN
  conv => rhs; rw [← List.take_append_drop k ls]
  rw [List.map_append, List.sum_append]; omega
def catL (ls : List (List Chg)) (k : Nat) : List Chg := (ls.take k).flatten
theorem catL_succ {ls : List (List Chg)} {k : Nat} (h : k < ls.length) : catL ls (k + 1) = catL ls k ++ ls[k] := by
  unfold catL; rw [take_s h, List.flatten_append]; simp
theorem catL_len (ls : List (List Chg)) (k : Nat) : (catL ls k).length = catN ls k := by simp [catL, catN, List.length_flatten]

def CatI (ls : List (List Chg)) (k : Nat) (τ : St) : Prop := τ 0 = .d (.sl (ls.map chgs)) ∧ τ 9 = .d (.sl (ls.map chgs)) ∧ τ 10 = .d (.int .i64 ls.length) ∧ τ 11 = .d (.int .i64 k) ∧ τ 3 = .d (.int .i64 (catN ls k))
def CatJ (ls : List (List Chg)) (k : Nat) (τ : St) : Prop := τ 25 = .d (.sl (ls.map chgs)) ∧ τ 26 = .d (.int .i64 ls.length) ∧ τ 27 = .d (.int .i64 k) ∧ τ 6 = .own true 26 ((catL ls k).map chgD)
theorem concatC_fn (ls : List (List Chg)) (h1 : ls.length < 1000) (h2 : (ls.map List.length).sum < 1000000) : Ctr Tryz.prog 64 [.d (.sl (ls.map chgs))] (.own true 26 (ls.flatten.map chgD)) := by
  refine fn_of_vwp (fun i => i == 24 || i == 6 || i == 31 || i == 33 || i == 35 || i == 2 || i == 10000024) (by kernel_rfl) Tryz.func64 (by kernel_rfl) rfl rfl (Nat.le_of_ble_eq_true rfl) (by kernel_rfl) rfl rfl ?_
  have hall : ls.flatten = catL ls ls.length := by simp [catL]
  rw [hall]
  simp -implicitDefEqProofs
  refine loopN ls.length (CatI ls) ⟨by simp, by simp, by simp, by simp, by simp [catN_zero]⟩ ?_
  rintro k τ hk ⟨q0, q9, q10, q11, q3⟩
  by_cases hlt : k < ls.length
  · have hlt' : (k : Int) < ls.length := by omega
    have hb := catN_le ls (k + 1)
    have hs := catN_succ hlt
    generalize hx : ls[k] = x at *
    generalize hA2 : catN ls (k + 1) = A2 at *
    generalize catN ls k = A1 at *
    have hneg : ¬ ((A1 : Int) + x.length < 0) := by omega
    simp -implicitDefEqProofs [q0, q9, q10, q11, q3, hlt, hlt', hx, chgs, hneg]
    repeat refine And.intro (by omega) ?_
    exact again hlt ⟨by simp [q0, chgs], by simp [q9, chgs], by simp [q10], by simp, by simp [hA2, hs]⟩
  have hlt' : ¬ (k : Int) < ls.length := by omega
  obtain rfl : k = ls.length := by omega
  have hb := catN_le ls ls.length
  have cg := growC_fn (catN ls ls.length) (by omega)
  simp -implicitDefEqProofs [q0, q9, q10, q11, q3, hlt']
  refine callK cg ?_
  simp -implicitDefEqProofs [q0]
  refine loopN ls.length (CatJ ls) ⟨by simp, by simp, by simp, by simp [catL]⟩ ?_
  clear cg hlt' hlt q0 q9 q10 q11 q3 hk τ
  rintro k τ hk ⟨q25, q26, q27, q6⟩
  by_cases hlt : k < ls.length
  · have hlt' : (k : Int) < ls.length := by omega
    have hb := catN_le ls (k + 1)
    have hs := catN_succ hlt
    have hl := catL_len ls k
    have hc := catL_succ hlt
    generalize hx : ls[k] = x at *
    generalize hA2 : catL ls (k + 1) = A2 at *
    generalize catL ls k = A1 at *
    simp -implicitDefEqProofs [q25, q26, q27, q6, hlt, hlt', hx, chgs, chgD, csnD]
    repeat refine And.intro (by first | omega | (rintro u _ _ _ _ _ _ _ _ _ rfl; simp [width, widths])) ?_
    exact again hlt ⟨by simp [q25, chgs], by simp [q26], by simp, by simp [hA2, hc]⟩
  · have hlt' : ¬ (k : Int) < ls.length := by omega
    obtain rfl : k = ls.length := by omega
    simp -implicitDefEqProofs [q25, q26, q27, q6, hlt']
end Go.Proofs.Tz

/- slices.CompactFunc of records, by their numbers. -/
set_option maxRecDepth 100000
set_option maxHeartbeats 4000000
set_option linter.unusedVariables false
set_option linter.unusedSimpArgs false
namespace Go.Proofs.Tz
open Go.Vw Go.RowKit Go.Proofs

def compGo (p : Csn) : List Chg → List Chg
  | [] => []
  | y :: l => if y.1 = p then compGo y.1 l else y :: compGo y.1 l
/-- Of records that follow each other with one number the first stays. -/
def compF : List Chg → List Chg
  | [] => []
  | x :: l => x :: compGo x.1 l
def lastN (p : Csn) : List Chg → Csn
  | [] => p
  | y :: l => lastN y.1 l
theorem compGo_snoc (y : Chg) : ∀ (l : List Chg) (p : Csn), compGo p (l ++ [y]) = compGo p l ++ (if y.1 = lastN p l then [] else [y])
  | [], p => by by_cases h : y.1 = p <;> simp [compGo, lastN, h]
  | z :: l, p => by
    simp only [List.cons_append, compGo, lastN]
    have ih := compGo_snoc y l z.1
    rw [ih]
    by_cases h : z.1 = p <;> by_cases h2 : y.1 = lastN z.1 l <;> simp only [h, h2, if_true, if_false, List.cons_append]
theorem lastN_take : ∀ (l : List Chg) (p : Csn) (k : Nat) (h : k < l.length), lastN p (l.take (k + 1)) = l[k].1
  | z :: l, p, 0, _ => by simp [lastN]
  | z :: l, p, k + 1, h => by
    simp only [List.take_succ_cons, lastN, List.getElem_cons_succ]
    exact lastN_take l z.1 k (by simpa using h)
def compT (l : List Chg) (k : Nat) : List Chg := compF (l.take k)
theorem compT_all {l : List Chg} {k : Nat} (h : l.length ≤ k) : compT l k = compF l := by unfold compT; rw [List.take_of_length_le h]
theorem compT_step {l : List Chg} {k : Nat} (h : k + 1 < l.length) : compT l (k + 1 + 1) = compT l (k + 1) ++ (if l[k + 1].1 = (l[k]'(by omega)).1 then [] else [l[k + 1]]) := by
  unfold compT
  rw [take_s h]
  cases l with
  | nil => simp at h
  | cons x r =>
    simp only [List.take_succ_cons, List.cons_append, compF, List.getElem_cons_succ]
    rw [compGo_snoc]
    have hr : k < r.length := by simpa using h
    have : lastN x.1 (r.take k) = ((x :: r)[k]'(by simp; omega)).1 := by
      cases k with
      | zero => simp [lastN]
      | succ k => rw [lastN_take r x.1 k (by omega)]; simp
    rw [this]
theorem compT_one {l : List Chg} (h : 0 < l.length) : compT l 1 = l.take 1 := by
  cases l with
  | nil => simp at h
  | cons x r => simp [compT, compF, compGo]
def CmpI (l : List Chg) (k : Nat) (τ : St) : Prop := τ 0 = .own true 26 (l.map chgD) ∧ τ 1 = .d (.clo 70 []) ∧ τ 5 = .d (.int .i64 (k + 1 : Nat)) ∧ compT l (k + 1) = l.take (k + 1)
def CmpJ (l : List Chg) (lo k : Nat) (τ : St) : Prop := ∃ (M : List Chg) (i : Nat), τ 0 = .own true 26 (M.map chgD) ∧ τ 1 = .d (.clo 70 []) ∧ τ 5 = .d (.int .i64 i) ∧ τ 6 = .sub 0 lo ∧ τ 7 = .d (.int .i64 (k + 1 : Nat)) ∧ M.length = l.length ∧ i ≤ lo + k ∧ 0 < i ∧ M.take i = compT l (lo + k + 1) ∧ M.drop (lo + k) = l.drop (lo + k)
set_option maxHeartbeats 10000000 in
theorem compactC_fn (l : List Chg) (hl : l.length < 1000000) : Ctr Tryz.prog 69 [.own true 26 (l.map chgD), .d (.clo 70 [])] (.own true 26 ((compF l).map chgD)) := by
  refine fn_of_vwp (fun i => i == 11000000) (by kernel_rfl) Tryz.func69 (by kernel_rfl) rfl rfl (Nat.le_of_ble_eq_true rfl) (by kernel_rfl) rfl rfl ?_
  by_cases h2 : l.length < 2
  · have h2' : (l.length : Int) < 2 := by omega
    have hc : compF l = l := by
      match l, h2 with
      | [], _ => rfl
      | [x], _ => rfl
    rw [hc]
    simp -implicitDefEqProofs [h2']
  have h2' : ¬ (l.length : Int) < 2 := by omega
  simp -implicitDefEqProofs [h2']
  refine loopN (l.length - 1) (CmpI l) ⟨by simp, by simp, by simp, compT_one (by omega)⟩ ?_
  rintro k τ hk ⟨g0, g1, g5, hI⟩
  by_cases hlt : k + 1 < l.length
  case neg =>
    have hlt' : ¬ (k : Int) + 1 < l.length := by omega
    rw [compT_all (by omega), List.take_of_length_le (by omega)] at hI
    rw [hI]
    simp -implicitDefEqProofs [g0, g1, g5, hlt']
  have hlt' : (k : Int) + 1 < l.length := by omega
  have hstep := compT_step hlt
  have hlt0 : k < l.length := by omega
  have hf := meq_fn l[k + 1] l[k]
  have ht1 := take_s hlt
  have hx1 : l[k + 1]? = some l[k + 1] := List.getElem?_eq_getElem hlt
  have hx0 : l[k]? = some l[k] := List.getElem?_eq_getElem hlt0
  by_cases he : l[k + 1].1 = l[k].1
  case neg =>
    rw [if_neg he, hI, ← ht1] at hstep
    rw [decide_eq_false he] at hf
    clear ht1 he
    generalize hX : l[k + 1] = X at *
    generalize hY : l[k] = Y at *
    simp only [chgD, csnD] at hf
    simp -implicitDefEqProofs [g0, g1, g5, hlt', hlt, hlt0, hX, hY, chgD, csnD]
    repeat refine And.intro (by omega) ?_
    refine callP hf ?_
    simp -implicitDefEqProofs [g0, g1, g5, hlt', hlt, hlt0]
    repeat refine And.intro (by omega) ?_
    exact again (by omega) ⟨by simp [g0, chgD, csnD], by simp [g1], by simp, hstep⟩
  rw [if_pos he, hI, List.append_nil] at hstep
  rw [decide_eq_true he] at hf
  clear ht1 he
  have hJ : CmpJ l (k + 1) 0 = CmpJ l (k + 1) 0 := rfl
  generalize hX : l[k + 1] = X at *
  generalize hY : l[k] = Y at *
  simp only [chgD, csnD] at hf
  simp -implicitDefEqProofs [g0, g1, g5, hlt', hlt, hlt0, hX, hY, chgD, csnD]
  repeat refine And.intro (by omega) ?_
  refine callP hf ?_
  have hk0 : (0 : Int) ≤ (k : Int) + 1 := by omega
  have hkl : k + 1 ≤ l.length := by omega
  simp -implicitDefEqProofs [g0, g1, g5, hlt', hlt, hlt0, hk0, hkl]
  repeat refine And.intro (by omega) ?_
  refine loopN (l.length - (k + 1) - 1) (CmpJ l (k + 1)) ?_ ?_
  · exact ⟨l, k + 1, by simp [g0, chgD, csnD], by simp [g1], by simp [g5], by simp, by simp, rfl, by omega, by omega, hstep.symm, rfl⟩
  clear hf hJ hX hY hx1 hx0 X Y hstep hI g0 g1 g5 hk τ
  rintro q τ hq ⟨M, i, g0, g1, g5, g6, g7, hM, hi, hi0, ht, hd⟩
  by_cases hl2 : k + 1 + (q + 1) < l.length
  case neg =>
    have hl2' : ¬ (q : Int) + 1 < ((l.length - (k + 1) : Nat) : Int) := by omega
    rw [compT_all (by omega)] at ht
    simp -implicitDefEqProofs [g0, g1, g5, g6, g7, hM, hl2', chgD, csnD]
    refine ⟨by omega, by omega, ?_⟩
    rw [List.take_append_of_le_length (by simp; omega), List.take_take, Nat.min_self, ← List.map_take, ht]
  have hl2' : (q : Int) + 1 < ((l.length - (k + 1) : Nat) : Int) := by omega
  have hstep := compT_step (l := l) (k := k + 1 + q) (by omega)
  have hf := meq_fn (l[k + 1 + (q + 1)]'hl2) (l[k + 1 + q]'(by omega))
  have b1 : k + 1 + (q + 1) < M.length := by omega
  have b0 : k + 1 + q < M.length := by omega
  have bl0 : k + 1 + q < l.length := by omega
  have bi : i < M.length := by omega
  have bil : i < l.length := by omega
  have hq0 : (0 : Int) ≤ (q : Int) + 1 := by omega
  have hM1 : M[k + 1 + (q + 1)]? = some (l[k + 1 + (q + 1)]'hl2) := by
    have := congrArg (fun x : List Chg => x[1]?) hd
    simp only [List.getElem?_drop] at this
    rw [Nat.add_assoc] at this
    rw [this]; exact List.getElem?_eq_getElem hl2
  have hM0 : M[k + 1 + q]? = some (l[k + 1 + q]'bl0) := by
    have := congrArg (fun x : List Chg => x[0]?) hd
    simp only [List.getElem?_drop, Nat.add_zero] at this
    rw [this]; exact List.getElem?_eq_getElem bl0
  have hx1 := (List.getElem?_eq_some_iff.1 hM1).2
  have hx0 := (List.getElem?_eq_some_iff.1 hM0).2
  have hd2 : M.drop (k + 1 + (q + 1)) = l.drop (k + 1 + (q + 1)) := by
    have := congrArg (List.drop 1) hd
    simpa [List.drop_drop, Nat.add_assoc] using this
  have hti := take_s bi
  have hMi : ∃ Z, M[i]? = some Z := ⟨_, List.getElem?_eq_getElem bi⟩
  obtain ⟨Z, hMi⟩ := hMi
  by_cases he : (l[k + 1 + (q + 1)]'hl2).1 = (l[k + 1 + q]'bl0).1
  · have he2 : (l[k + 1 + q + 1]'(by omega)).1 = (l[k + 1 + q]'bl0).1 := he
    rw [if_pos he2, List.append_nil, ← ht] at hstep
    rw [decide_eq_true he] at hf
    clear he he2 hti ht hd
    generalize l[k + 1 + (q + 1)]'hl2 = X at *
    generalize l[k + 1 + q]'bl0 = Y at *
    simp only [chgD, csnD] at hf
    simp -implicitDefEqProofs [g0, g1, g5, g6, g7, hM, hl2', b1, b0, hl2, bl0, hx1, hx0, hq0, chgD, csnD]
    repeat refine And.intro (by omega) ?_
    refine callP hf ?_
    simp -implicitDefEqProofs [g0, g1, g5, g6, g7, hM, hl2']
    repeat refine And.intro (by omega) ?_
    refine again (by omega) ?_
    exact ⟨M, i, by simp [g0, chgD, csnD], by simp [g1], by simp [g5], by simp [g6], by simp, hM, by omega, hi0, hstep.symm, hd2⟩
  · have he2 : ¬ (l[k + 1 + q + 1]'(by omega)).1 = (l[k + 1 + q]'bl0).1 := he
    rw [if_neg he2, ← ht] at hstep
    rw [decide_eq_false he] at hf
    have hLX : l[k + 1 + q + 1]'(by omega) = l[k + 1 + (q + 1)]'hl2 := rfl
    rw [hLX] at hstep
    clear he he2 ht hd hLX
    generalize l[k + 1 + (q + 1)]'hl2 = X at *
    generalize l[k + 1 + q]'bl0 = Y at *
    simp only [chgD, csnD] at hf
    simp -implicitDefEqProofs [g0, g1, g5, g6, g7, hM, hl2', b1, b0, hl2, bl0, hx1, hx0, hq0, chgD, csnD]
    repeat refine And.intro (by omega) ?_
    refine callP hf ?_
    simp -implicitDefEqProofs [g0, g1, g5, g6, g7, hM, hl2', b1, b0, hl2, bl0, bi, bil, hMi, hx1, hx0, hq0, chgD, csnD]
    repeat refine And.intro (by omega) ?_
    refine subK 6 (lo := k + 1) (by simp [g6]) (by decide) ?_
    simp -implicitDefEqProofs [g0, g1, g5, g6, g7, hM, hl2']
    repeat refine And.intro (by omega) ?_
    refine again (by omega) ?_
    refine ⟨M.set i X, i + 1, ?_, by simp [g1], by simp, by simp, by simp, by simpa using hM, by omega, by omega, ?_, ?_⟩
    · simp [chgD, csnD, List.map_set]
    · rw [List.take_set, take_s bi, List.set_append_right _ _ (by simp; omega)]
      simp only [List.length_take, Nat.min_eq_left (Nat.le_of_lt bi), Nat.sub_self, List.set_cons_zero]
      exact hstep.symm
    · rw [List.drop_set_of_lt (by omega)]
      exact hd2
end Go.Proofs.Tz

/- change.Merge. -/
set_option maxRecDepth 100000
set_option maxHeartbeats 4000000
set_option linter.unusedVariables false
set_option linter.unusedSimpArgs false
namespace Go.Proofs.Tz
open Go.Vw Go.RowKit Go.Proofs Go.Sort

def srtQ (x y : Chg) : Prop := cmpC x.1 y.1 ≤ 0 ∧ (x.1 = y.1 → lineC x ≤ lineC y)
theorem compGo_spec : ∀ (l : List Chg) (p : Csn), (∀ y ∈ l, cmpC p y.1 ≤ 0) → l.Pairwise srtQ → (∀ y ∈ l, chkC y = 0) →
    (compGo p l).Pairwise (fun a b => cmpC a.1 b.1 < 0) ∧ (∀ y ∈ compGo p l, cmpC p y.1 < 0) ∧ ∀ r, r ∈ compGo p l ↔ (r ∈ l ∧ r.1 ≠ p ∧ ∀ r' ∈ l, r'.1 = r.1 → lineC r ≤ lineC r')
  | [], p, _, _, _ => by simp [compGo]
  | z :: l, p, hp, hl, hc => by
    obtain ⟨h1, h2⟩ := List.pairwise_cons.1 hl
    obtain ⟨i1, i2, i3⟩ := compGo_spec l z.1 (fun y hy => (h1 y hy).1) h2 (fun y hy => hc y (by simp [hy]))
    have hpz := hp z (by simp)
    by_cases hz : z.1 = p
    · rw [compGo, if_pos hz]
      refine ⟨i1, fun y hy => by rw [← hz]; exact i2 y hy, fun r => ?_⟩
      rw [i3, List.mem_cons]
      constructor
      · rintro ⟨a, b, c⟩
        refine ⟨.inr a, by rwa [← hz], fun r' hr' he => ?_⟩
        rcases List.mem_cons.1 hr' with rfl | hr'
        · exact absurd he.symm b
        · exact c r' hr' he
      · rintro ⟨rfl | a, b, c⟩
        · exact absurd hz b
        · exact ⟨a, by rwa [hz], fun r' hr' he => c r' (by simp [hr']) he⟩
    · rw [compGo, if_neg hz]
      have hpz2 : cmpC p z.1 < 0 := by
        have : cmpC p z.1 ≠ 0 := fun e => hz (cmpC_zero.1 e).symm
        omega
      refine ⟨List.pairwise_cons.2 ⟨i2, i1⟩, fun y hy => ?_, fun r => ?_⟩
      · rcases List.mem_cons.1 hy with rfl | hy
        · exact hpz2
        · exact cmpC_trans hpz2 (i2 y hy)
      · rw [List.mem_cons, i3, List.mem_cons]
        constructor
        · rintro (rfl | ⟨a, b, c⟩)
          · refine ⟨.inl rfl, hz, fun r' hr' he => ?_⟩
            rcases List.mem_cons.1 hr' with rfl | hr'
            · exact List.le_refl _
            · exact (h1 r' hr').2 he.symm
          · refine ⟨.inr a, fun e => ?_, fun r' hr' he => ?_⟩
            · have q1 := (h1 r a).1
              rw [e] at q1
              have := cmpC_anti p z.1
              omega
            · rcases List.mem_cons.1 hr' with rfl | hr'
              · exact absurd he.symm b
              · exact c r' hr' he
        · rintro ⟨rfl | a, b, c⟩
          · exact .inl rfl
          · by_cases e : r.1 = z.1
            · left
              have q1 := c z (by simp) e.symm
              have q2 := (h1 r a).2 e.symm
              exact lineC_inj (hc r (by simp [a])) (hc z (by simp)) (List.le_antisymm q1 q2)
            · exact .inr ⟨a, e, fun r' hr' he => c r' (by simp [hr']) he⟩
theorem compF_spec {S : List Chg} (h : S.Pairwise srtQ) (hc : ∀ x ∈ S, chkC x = 0) : MergeS S (compF S) := by
  cases S with
  | nil => exact ⟨List.Pairwise.nil, by simp [compF]⟩
  | cons z l =>
    obtain ⟨h1, h2⟩ := List.pairwise_cons.1 h
    obtain ⟨i1, i2, i3⟩ := compGo_spec l z.1 (fun y hy => (h1 y hy).1) h2 (fun y hy => hc y (by simp [hy]))
    refine ⟨List.pairwise_cons.2 ⟨i2, i1⟩, fun r => ?_⟩
    rw [compF, List.mem_cons, i3, List.mem_cons]
    constructor
    · rintro (rfl | ⟨a, b, c⟩)
      · refine ⟨.inl rfl, hc _ (by simp), fun r' hr' _ he => ?_⟩
        rcases List.mem_cons.1 hr' with rfl | hr'
        · exact List.le_refl _
        · exact (h1 r' hr').2 he.symm
      · refine ⟨.inr a, hc _ (by simp [a]), fun r' hr' _ he => ?_⟩
        rcases List.mem_cons.1 hr' with rfl | hr'
        · exact absurd he.symm b
        · exact c r' hr' he
    · rintro ⟨rfl | a, b, c⟩
      · exact .inl rfl
      · by_cases e : r.1 = z.1
        · left
          have q1 := c z (by simp) (hc z (by simp)) e.symm
          have q2 := (h1 r a).2 e.symm
          exact lineC_inj (hc r (by simp [a])) (hc z (by simp)) (List.le_antisymm q1 q2)
        · exact .inr ⟨a, e, fun r' hr' he => c r' (by simp [hr']) (hc r' (by simp [hr'])) he⟩
def goodM (L : List Chg) (k : Nat) : List Chg := (L.take k).filter fun c => decide (chkC c = 0)
theorem goodM_succ {L : List Chg} {k : Nat} (h : k < L.length) : goodM L (k + 1) = goodM L k ++ (if chkC L[k] = 0 then [L[k]] else []) := by
  unfold goodM; rw [take_s h, List.filter_append]; by_cases hc : chkC L[k] = 0 <;> simp [hc]
theorem goodM_len (L : List Chg) (k : Nat) : (goodM L k).length ≤ k := by
  unfold goodM; refine Nat.le_trans (List.length_filter_le _ _) ?_; simp; omega
theorem goodM_mem {L : List Chg} {k : Nat} {x : Chg} (h : x ∈ goodM L k) : x ∈ L ∧ chkC x = 0 := by
  unfold goodM at h; rw [List.mem_filter] at h; exact ⟨List.mem_of_mem_take h.1, by simpa using h.2⟩
theorem merge_law (a b : List Chg) (F : List FChg) (hF : F.map (·.1) = goodM (a ++ b) (a.length + b.length)) : compF ((sortL mcf F).map (·.1)) = mergeL a b := by
  obtain ⟨hp, hs⟩ := sortL_perm swoC F
  have hp2 : ((sortL mcf F).map (·.1)).Perm (goodM (a ++ b) (a.length + b.length)) := by rw [← hF]; exact hp.map _
  have hgood : ∀ x ∈ (sortL mcf F).map (·.1), chkC x = 0 := fun x hx => (goodM_mem (hp2.mem_iff.1 hx)).2
  have h1 : ((sortL mcf F).map (·.1)).Pairwise srtQ := by
    rw [List.pairwise_iff_getElem]
    intro i j hi hj hij
    simp only [List.length_map] at hi hj
    have hi' := hgood _ (List.mem_map_of_mem (List.getElem_mem hi))
    have hj' := hgood _ (List.mem_map_of_mem (List.getElem_mem hj))
    have := hs i j hij hj
    simp only [List.getElem_map]
    have hn : ¬ mcmp (sortL mcf F)[j].1 (sortL mcf F)[i].1 < 0 := by
      have e : decide (mcmp (sortL mcf F)[j].1 (sortL mcf F)[i].1 < 0) = false := this
      simpa using e
    clear this
    generalize (sortL mcf F)[i].1 = x at *
    generalize (sortL mcf F)[j].1 = y at *
    rw [mcmp_neg, lineCT_ok hi', lineCT_ok hj'] at hn
    simp only [not_or, not_and] at hn
    have ha := cmpC_anti x.1 y.1
    exact ⟨by omega, fun e => by have := hn.2 e.symm; rw [List.not_lt] at this; exact this⟩
  have h2 := compF_spec h1 hgood
  have hm : ∀ x, x ∈ (sortL mcf F).map (·.1) ↔ x ∈ a ++ b ∧ chkC x = 0 := fun x => by
    rw [hp2.mem_iff]
    constructor
    · exact goodM_mem
    · rintro ⟨q1, q2⟩
      unfold goodM
      rw [List.take_of_length_le (by simp), List.mem_filter]
      exact ⟨q1, by simpa using q2⟩
  refine MergeS.uniq (S := a ++ b) ⟨h2.asc, fun r => ?_⟩ (mergeL_spec a b) (fun _ => Iff.rfl)
  rw [h2.mem, hm]
  constructor
  · rintro ⟨⟨q1, q2⟩, _, q4⟩
    exact ⟨q1, q2, fun r' hr' hc he => q4 r' ((hm r').2 ⟨hr', hc⟩) hc he⟩
  · rintro ⟨q1, q2, q4⟩
    exact ⟨⟨q1, q2⟩, q2, fun r' hr' hc he => q4 r' ((hm r').1 hr').1 hc he⟩

def MgI (L : List Chg) (k : Nat) (τ : St) : Prop := τ 11 = .own false 26 (L.map chgD) ∧ τ 12 = .d (.int .i64 L.length) ∧ τ 13 = .d (.int .i64 k) ∧ τ 5 = .own true 26 ((goodM L k).map chgD)
theorem merge_fn (a b : List Chg) (ha : ∀ x ∈ a, FitC x) (hb : ∀ x ∈ b, FitC x) (hab : a.length + b.length < 900000) : Ctr Tryz.prog 20 [.d (chgs a), .d (chgs b)] (.own true 26 ((mergeL a b).map chgD)) := by
  refine fn_of_vwp (fun i => i == 5 || i == 23 || i == 28 || i == 4 || i == 3000026) (by kernel_rfl) Tryz.func20 (by kernel_rfl) rfl rfl (Nat.le_of_ble_eq_true rfl) (by kernel_rfl) rfl rfl ?_
  have hfit : ∀ x ∈ a ++ b, FitC x := fun x hx => by
    rcases List.mem_append.1 hx with hx | hx
    · exact ha x hx
    · exact hb x hx
  have c1 := concatC_fn [a, b] (by simp) (by simp; omega)
  have hL : [a, b].flatten = a ++ b := by simp
  rw [hL] at c1
  have hlen : (a ++ b).length = a.length + b.length := by simp
  obtain ⟨R, hR⟩ : ∃ R, mergeL a b = R := ⟨_, rfl⟩
  have key := merge_law a b
  rw [hR] at key
  rw [hR]
  generalize hLL : a ++ b = L at *
  simp only [List.map_cons, List.map_nil, chgs] at c1
  simp -implicitDefEqProofs [chgs]
  refine ⟨by decide, callK c1 ?_⟩
  simp -implicitDefEqProofs
  refine loopN L.length (MgI L) ⟨by simp, by simp, by simp, by simp [goodM]⟩ ?_
  rintro k τ hk ⟨g11, g12, g13, g5⟩
  by_cases hlt : k < L.length
  · have hlt' : (k : Int) < L.length := by omega
    have c2 := chkC_fn L[k] (hfit _ (List.getElem_mem hlt))
    have hs := goodM_succ hlt
    have hgl := goodM_len L k
    generalize hA2 : goodM L (k + 1) = A2 at *
    generalize goodM L k = A1 at *
    generalize hX : L[k] = X at *
    by_cases h0 : chkC X = 0
    · rw [if_pos h0] at hs
      rw [h0] at c2
      simp only [chgD, csnD] at c2
      simp -implicitDefEqProofs [g11, g12, g13, g5, hlt, hlt', hX, chgD, csnD]
      repeat refine And.intro (by omega) ?_
      refine callK c2 ?_
      simp -implicitDefEqProofs [g11, g12, g13, g5, chgD, csnD]
      repeat refine And.intro (by omega) ?_
      exact again hlt ⟨by simp [g11, chgD, csnD], by simp [g12], by simp, by simp [hA2, hs, chgD, csnD]⟩
    · rw [if_neg h0, List.append_nil] at hs
      generalize chkC X = E at *
      simp only [chgD, csnD] at c2
      simp -implicitDefEqProofs [g11, g12, g13, g5, hlt, hlt', hX, chgD, csnD]
      repeat refine And.intro (by omega) ?_
      refine callK c2 ?_
      simp -implicitDefEqProofs [g11, g12, g13, g5, h0, chgD, csnD]
      repeat refine And.intro (by omega) ?_
      exact again hlt ⟨by simp [g11, chgD, csnD], by simp [g12], by simp, by simp [g5, hA2, hs, chgD, csnD]⟩
  · have hlt' : ¬ (k : Int) < L.length := by omega
    obtain rfl : k = L.length := by omega
    obtain ⟨F, hF⟩ : ∃ F : List FChg, F.map (·.1) = goodM L L.length :=
      ⟨(goodM L L.length).attach.map fun x => ⟨x.1, hfit _ (goodM_mem x.2).1⟩, by rw [List.map_map]; exact List.attach_map_subtype_val _⟩
    have hgl := goodM_len L L.length
    have hFl : F.length < 1000000 := by have := congrArg List.length hF; simp at this; omega
    have hFl2 : F.length < 1000000 := hFl
    have k1 := key F (by rw [hF, hlen])
    have c3 := sortC_fn F hFl
    have c4 := compactC_fn ((sortL mcf F).map (·.1)) (by rw [List.length_map, (sortL_perm swoC F).1.length_eq]; exact hFl)
    rw [k1] at c4
    have e1 : F.map (fun c => chgD c.1) = (goodM L L.length).map chgD := by rw [← hF, List.map_map]; rfl
    have e2 : (sortL mcf F).map (fun c => chgD c.1) = ((sortL mcf F).map (·.1)).map chgD := by rw [List.map_map]; rfl
    rw [e1, e2] at c3
    generalize (sortL mcf F).map (·.1) = S at *
    generalize goodM L L.length = G at *
    simp -implicitDefEqProofs [g11, g12, g13, g5, hlt']
    refine inKb c3 ?_
    simp -implicitDefEqProofs
    refine callK c4 ?_
    simp -implicitDefEqProofs
end Go.Proofs.Tz

/- Change records: the statements' bounds; equal lists. -/
set_option maxRecDepth 100000
set_option maxHeartbeats 4000000
set_option linter.unusedVariables false
set_option linter.unusedSimpArgs false
namespace Go.Proofs.Tz
open Go.Vw Go.RowKit Go.Proofs

def lightC (c : Chg) : Bool := decide (List.length c.2.2.1 ≤ 400) && decide (List.length c.2.2.2.1 ≤ 400) && decide (List.length c.2.2.2.2.1 ≤ 400) && decide (List.length c.2.2.2.2.2 ≤ 400)
def lightB (l : List Chg) : Bool := (l.take 20).all lightC && decide (l.length ≤ 20)
theorem light_fn (l : List Chg) : Ctr Tryz.prog 11 [.d (chgs l)] (.d (.bool (lightB l))) := by
  refine fn_of_vwp (fun _ => false) (by kernel_rfl) Tryz.func11 (by kernel_rfl) rfl rfl (Nat.le_of_ble_eq_true rfl) (by kernel_rfl) rfl rfl ?_
  simp -implicitDefEqProofs [chgs]
  refine loopN 20 (fun k τ => τ 0 = .d (.sl (l.map chgD)) ∧ τ 3 = .d (.int .i64 k) ∧ k ≤ l.length ∧ AllB lightC (l.take k)) (by simp [AllB.nil]) ?_
  rintro k τ hk ⟨h0, h3, hkl, hall⟩
  by_cases hlt : k < l.length
  · have hlt' : (k : Int) < l.length := by omega
    by_cases h70 : k < 20
    · have h70' : (k : Int) < 20 := by omega
      have e1 := take_s hlt
      have hin : lightC l[k] = false → lightB l = false := fun h => by
        have : l[k] ∈ l.take 20 := by rw [List.mem_take_iff_getElem]; exact ⟨k, by omega, rfl⟩
        have : (l.take 20).all lightC = false := by rw [List.all_eq_false]; exact ⟨_, this, by simp [h]⟩
        simp [lightB, this]
      generalize hr : l[k] = r at *
      obtain ⟨⟨r1, r2, r3⟩, ro, A, B, C, E⟩ := r
      by_cases a1 : (400 : Int) < List.length A
      · have := hin (by simp [lightC]; omega)
        simp -implicitDefEqProofs [h0, h3, hlt, hlt', h70', chgD, csnD, hr, a1, this]
      by_cases a2 : (400 : Int) < List.length B
      · have := hin (by simp [lightC]; omega)
        simp -implicitDefEqProofs [h0, h3, hlt, hlt', h70', chgD, csnD, hr, a1, a2, this]
      by_cases a3 : (400 : Int) < List.length C
      · have := hin (by simp [lightC]; omega)
        simp -implicitDefEqProofs [h0, h3, hlt, hlt', h70', chgD, csnD, hr, a1, a2, a3, this]
      by_cases a4 : (400 : Int) < List.length E
      · have := hin (by simp [lightC]; omega)
        simp -implicitDefEqProofs [h0, h3, hlt, hlt', h70', chgD, csnD, hr, a1, a2, a3, a4, this]
      · simp -implicitDefEqProofs [h0, h3, hlt, hlt', h70', chgD, csnD, hr, a1, a2, a3, a4]
        repeat refine And.intro (by omega) ?_
        exact again h70 ⟨by simp [h0], by simp, by omega, hall.snoc (by simp [lightC]; omega) e1⟩
    · have h70' : ¬ (k : Int) < 20 := by omega
      have e : lightB l = false := by simp [lightB]; intros; omega
      have h71 : ¬ (l.length : Int) ≤ 20 := by omega
      simp -implicitDefEqProofs [h0, h3, hlt, hlt', h70', e, h71]
  · have hlt' : ¬ (k : Int) < l.length := by omega
    rw [List.take_of_length_le (by omega)] at hall
    have h70 : (l.length : Int) ≤ 20 := by omega
    have e : lightB l = true := by
      have h1 : l.take 20 = l := List.take_of_length_le (by omega)
      have h2 : l.all lightC = true := hall.all
      rw [lightB, h1, h2]
      have : l.length ≤ 20 := by omega
      simp [this]
    simp -implicitDefEqProofs [h0, h3, hlt, hlt', h70, e]
    try omega

def lightV (vs : List Str) : Bool := vs.all fun v => decide (List.length v ≤ 300)
def lightT (a : Att) : Bool := decide (List.length a.1 ≤ 300) && decide (a.2.length ≤ 8) && lightV a.2
def lightA (l : List Att) : Bool := decide (l.length ≤ 8) && l.all lightT
theorem lightA_fn (l : List Att) : Ctr Tryz.prog 27 [.d (atts l)] (.d (.bool (lightA l))) := by
  refine fn_of_vwp (fun _ => false) (by kernel_rfl) Tryz.func27 (by kernel_rfl) rfl rfl (Nat.le_of_ble_eq_true rfl) (by kernel_rfl) rfl rfl ?_
  by_cases h8 : 8 < l.length
  · have h8' : (8 : Int) < l.length := by omega
    have e : lightA l = false := by simp [lightA]; intros; omega
    simp -implicitDefEqProofs [atts, h8', e]
  have h8' : ¬ (8 : Int) < l.length := by omega
  simp -implicitDefEqProofs [atts, h8']
  refine loopN l.length (fun k τ => τ 0 = .d (.sl (l.map att)) ∧ τ 3 = .d (.int .i64 k) ∧ AllB lightT (l.take k)) (by simp [AllB.nil]) ?_
  rintro k τ hk ⟨h0, h3, hall⟩
  by_cases hlt : k < l.length
  · have hlt' : (k : Int) < l.length := by omega
    have e1 := take_s hlt
    generalize hr : l[k] = r at *
    have hin : lightT r = false → lightA l = false := fun h => by
      have : r ∈ l := by rw [← hr]; exact List.getElem_mem hlt
      have : l.all lightT = false := by rw [List.all_eq_false]; exact ⟨r, this, by simp [h]⟩
      simp [lightA, this]
    obtain ⟨T, V⟩ := r
    by_cases a1 : (300 : Int) < List.length T
    · have := hin (by simp [lightT]; intros; omega)
      simp -implicitDefEqProofs [h0, h3, hlt, hlt', att, strs, hr, a1, this]
    by_cases a2 : (8 : Int) < V.length
    · have := hin (by simp [lightT]; intros; omega)
      simp -implicitDefEqProofs [h0, h3, hlt, hlt', att, strs, hr, a1, a2, this]
    simp -implicitDefEqProofs [h0, h3, hlt, hlt', att, strs, hr, a1, a2]
    refine loopN V.length (fun j τ => τ 0 = .d (.sl (l.map att)) ∧ τ 3 = .d (.int .i64 k) ∧ τ 4 = .d (.int .i64 j) ∧ AllB (fun v => decide (List.length v ≤ 300)) (V.take j)) (by simp [h0, h3, AllB.nil]) ?_
    clear h0 h3 τ
    rintro j τ hj ⟨h0, h3, h4, hv⟩
    by_cases hjt : j < V.length
    · have hjt' : (j : Int) < V.length := by omega
      have e2 := take_s hjt
      generalize hx : V[j] = x at *
      by_cases a3 : (300 : Int) < List.length x
      · have := hin (by
          have : x ∈ V := by rw [← hx]; exact List.getElem_mem hjt
          have : lightV V = false := by rw [lightV, List.all_eq_false]; exact ⟨x, this, by simp; omega⟩
          simp [lightT, this])
        simp -implicitDefEqProofs [h0, h3, h4, hlt, hlt', att, strs, hr, hjt, hjt', hx, a3, this]
      · simp -implicitDefEqProofs [h0, h3, h4, hlt, hlt', att, strs, hr, hjt, hjt', hx, a3]
        repeat refine And.intro (by omega) ?_
        refine again hjt ⟨by simp [h0], by simp [h3], by simp, hv.snoc (by simp; omega) e2⟩
    · have hjt' : ¬ (j : Int) < V.length := by omega
      rw [List.take_of_length_le (by omega)] at hv
      simp -implicitDefEqProofs [h0, h3, h4, hlt, hlt', att, strs, hr, hjt, hjt']
      repeat refine And.intro (by omega) ?_
      have g1 : List.length T ≤ 300 := by omega
      have g2 : V.length ≤ 8 := by omega
      have g3 : lightV V = true := hv.all
      refine again hlt ⟨by simp [h0], by simp, hall.snoc (by simp [lightT, g1, g2, g3]) e1⟩
  · have hlt' : ¬ (k : Int) < l.length := by omega
    rw [List.take_of_length_le (by omega)] at hall
    have h1 : l.length ≤ 8 := by omega
    have e : lightA l = true := by simp only [lightA, h1, decide_true, Bool.true_and]; exact hall.all
    simp -implicitDefEqProofs [h0, h3, hlt, hlt', e]

/-! ### equal lists -/
end Go.Proofs.Tz

namespace Go.Proofs.Tz
open Go.Vw
set_option maxRecDepth 100000
set_option maxHeartbeats 4000000
set_option linter.unusedSimpArgs false

end Go.Proofs.Tz

namespace Go.Proofs.Tz
open Go.Vw
set_option maxRecDepth 100000
set_option maxHeartbeats 8000000
set_option linter.unusedSimpArgs false

theorem fz_rows (H : List AV) : ∀ rs : List Row, (∀ r ∈ rs, hnd r ∈ H) → FzL H (rs.map rowD) ((rs.map nv).map att)
  | [], _ => .nil
  | r :: rs, h => .cons (.agg (.cons (.same _) (.cons (.sl (h r (by simp))) .nil))) (fz_rows H rs fun x hx => h x (by simp [hx]))

theorem sorted_fn (l : List Att) (hl : Fit2 l) : Ctr Tryz.prog 32 [.d (atts l)] (.own true 56 ((sortedL l).map att)) := by
  refine (sortedG_fn l hl).frozen (by simp) ?_
  rintro r hs ⟨rs, rfl, rfl, hp, ha⟩
  refine ⟨_, rfl, ?_⟩
  have := normal_eq l (rs.map nv) hp (fun i j hij hj => by
    have := ha i j hij (by simpa using hj)
    simpa [nv] using this)
  rw [← this]
  exact fz_rows _ rs fun r hr => List.mem_map.2 ⟨r, hr, rfl⟩
end Go.Proofs.Tz

namespace Go.Proofs.Tz
open Go.Vw
set_option maxRecDepth 100000
set_option maxHeartbeats 8000000
set_option linter.unusedSimpArgs false

theorem findQ_fn (x : Str × Sl) (n : Str) : Ctr Tryz.prog 179 [.d (rw2 x), .d (.ref (.str n))] (.d (.bool (decide (x.1 = n)))) := by
  refine fn_of_vwp (fun _ => false) (by kernel_rfl) Tryz.func179 (by kernel_rfl) rfl rfl (Nat.le_of_ble_eq_true rfl) (by kernel_rfl) rfl rfl ?_
  simp -implicitDefEqProofs [rw2]

theorem findRows_fn (rows : List (Str × Sl)) (name : Str) (hl : rows.length < 1000000) (hn : List.length name < 1000000) : Ctr Tryz.prog 131 [.d (.sl (rows.map rw2)), .d (.str name)] (.d (.int .i64 (idxR (fun x => decide (x.1 = lower name)) 0 rows))) := by
  refine fn_of_vwp (fun _ => false) (by kernel_rfl) Tryz.func131 (by kernel_rfl) rfl rfl (Nat.le_of_ble_eq_true rfl) (by kernel_rfl) rfl rfl ?_
  simp -implicitDefEqProofs
  refine callK (foldLower_fn _ hn) ?_
  simp -implicitDefEqProofs
  refine callK (indexR_fn 179 [.ref (.str (lower name))] rfl (fun x => decide (x.1 = lower name)) rows hl (fun a _ => findQ_fn a _)) ?_
  simp -implicitDefEqProofs

theorem findA_idx (n : Str) : ∀ (l : List Att) (k : Nat), (idxR (fun x : Att => decide (x.1 = n)) k l = -1 ∧ findA n l = []) ∨ ∃ i, ∃ h : i < l.length, idxR (fun x : Att => decide (x.1 = n)) k l = ((k + i : Nat) : Int) ∧ findA n l = l[i].2
  | [], k => .inl ⟨rfl, rfl⟩
  | x :: l, k => by
    rw [idxR, findA]
    by_cases hx : x.1 = n
    · exact .inr ⟨0, by simp, by simp [hx]⟩
    · simp only [hx, decide_false, Bool.false_eq_true, if_false]
      rcases findA_idx n l (k + 1) with h | ⟨i, h1, h2, h3⟩
      · exact .inl h
      · exact .inr ⟨i + 1, by simpa using h1, by rw [h2]; omega, by simpa using h3⟩

theorem get_fn (l : List Att) (name : Str) (hl : Fit2 l) (hn : List.length name < 1000000) : Ctr Tryz.prog 89 [.d (atts l), .d (.str name)] (.own true 9 ((getL l name).map .str)) := by
  refine fn_of_vwp (fun i => i == 4 || i == 5000009 || i == 2000012) (by kernel_rfl) Tryz.func89 (by kernel_rfl) rfl rfl (Nat.le_of_ble_eq_true rfl) (by kernel_rfl) rfl rfl ?_
  simp -implicitDefEqProofs
  refine givK0 (sortedG_fn l hl).shaped ?_ ?_
  · rintro r hs ⟨⟨rs, rfl, rfl, _⟩, _⟩ x hx
    obtain ⟨r, _, rfl⟩ := List.mem_map.1 hx
    rfl
  rintro r hs τ ⟨⟨rs, rfl, rfl, hp, ha⟩, hsh⟩ hhi hlo
  have h1 : τ 1 = .d (.str name) := (hlo 1 (by decide) (by simp [initG])).trans (by simp [initG])
  have h9 : τ 9 = .own true 56 (rs.map rowD) := (hlo 9 (by decide) (by simp)).trans (by simp)
  have hn2 : rs.map nv = sortedL l := normal_eq l (rs.map nv) hp (fun i j hij hj => by
    have := ha i j hij (by simpa using hj)
    simpa [nv] using this)
  have hrl : rs.length ≤ l.length := by
    have := sorted_len l
    rw [← hn2] at this
    simpa using this
  have hl1 := hl.1.1
  have hH : ∀ i (h : i < rs.length), τ (1000000 + i) = hnd rs[i] := fun i h => by rw [hhi i (by simpa using h)]; simp
  clear hhi hlo hp ha
  simp -implicitDefEqProofs [h1, h9]
  have hmr : rs.map rowD = (rs.map pr).map rw2 := by simp [rowD]
  rw [hmr]
  refine lendK (findRows_fn (rs.map pr) name (by simp; omega) hn) rfl ?_
  rw [← hmr]
  have hidx : idxR (fun x : Str × Sl => decide (x.1 = lower name)) 0 (rs.map pr) = idxR (fun x : Att => decide (x.1 = lower name)) 0 (sortedL l) := by
    rw [← hn2, idxR_map, idxR_map]; rfl
  rw [hidx]
  rcases findA_idx (lower name) (sortedL l) 0 with ⟨e1, e2⟩ | ⟨i, hi, e1, e2⟩
  · simp -implicitDefEqProofs [h1, h9, e1, getL, e2]
  · have hir : i < rs.length := by rw [← hn2] at hi; simpa using hi
    have hi0 : ¬ (i : Int) < 0 := by omega
    simp only [Nat.zero_add] at e1
    have e3 : (sortedL l)[i].2 = rs[i].2.2 := by
      have : (rs.map nv)[i]'(by simpa using hir) = nv rs[i] := by simp
      have h2 : (sortedL l)[i] = nv rs[i] := by rw [← this]; congr 1; exact hn2.symm
      rw [h2]; rfl
    obtain ⟨A, c, he⟩ := hsh (hd rs[i]) 9 (rs[i].2.2.map .str) (List.mem_map.2 ⟨rs[i], List.getElem_mem hir, rfl⟩)
    simp only [hd, Value.slice.injEq, List.length_map] at he
    simp -implicitDefEqProofs [h1, h9, e1, hi0, hir, rowD, rw2, pr, he.2.1]
    refine ⟨1000000 + i, 9, rs[i].2.2.map .str, ?_, rfl, by simp, ?_⟩
    · simp [hh_ne, hh_ne', hH i hir, hnd, hd, he.2.1]
    have e4 : (rs[i].2.2.map D.str).take rs[i].2.2.length = rs[i].2.2.map .str := List.take_of_length_le (by simp)
    simp -implicitDefEqProofs [getL, e2, e3, e4]
end Go.Proofs.Tz

namespace Go.Proofs.Tz
open Go.Vw
set_option maxRecDepth 100000
set_option maxHeartbeats 4000000
set_option linter.unusedSimpArgs false

theorem has2_fn (l : List Att) (name v : Str) (hl : Fit2 l) (hn : List.length name < 1000000) (hg : (getL l name).length < 1000000) : Ctr Tryz.prog 33 [.d (atts l), .d (.str name), .d (.str v)] (.d (.bool (decide (v ∈ getL l name)))) := by
  refine fn_of_vwp (fun _ => false) (by kernel_rfl) Tryz.func33 (by kernel_rfl) rfl rfl (Nat.le_of_ble_eq_true rfl) (by kernel_rfl) rfl rfl ?_
  simp -implicitDefEqProofs
  refine callK (get_fn l name hl hn) ?_
  simp -implicitDefEqProofs
  refine callK (contains_fn _ v hg) ?_
  simp -implicitDefEqProofs

end Go.Proofs.Tz

namespace Go.Proofs.Tz
open Go.Vw
set_option maxRecDepth 100000
set_option maxHeartbeats 4000000
set_option linter.unusedSimpArgs false

/-! ### Pick -/
/-! ### set -/
end Go.Proofs.Tz

namespace Go.Proofs.Tz
open Go.Vw
set_option maxRecDepth 100000
set_option maxHeartbeats 4000000
set_option linter.unusedSimpArgs false

end Go.Proofs.Tz

namespace Go.Proofs.Tz
open Go.Vw
set_option maxRecDepth 100000
set_option maxHeartbeats 4000000
set_option linter.unusedSimpArgs false

end Go.Proofs.Tz

namespace Go.Proofs.Tz
open Go.Vw
set_option maxRecDepth 100000
set_option maxHeartbeats 4000000
set_option linter.unusedSimpArgs false

end Go.Proofs.Tz

namespace Go.Proofs.Tz
open Go.Vw
set_option maxRecDepth 100000
set_option maxHeartbeats 4000000
set_option linter.unusedSimpArgs false

/-- Every string is within the reach of the form. -/
def ReachS (l : List Str) : Prop := ∀ v ∈ l, List.length v ≤ 140737488351232
theorem ReachS.take {l : List Str} (h : ReachS l) (k : Nat) : ReachS (l.take k) := fun v hv => h v (List.mem_of_mem_take hv)
end Go.Proofs.Tz

namespace Go.Proofs.Tz
open Go.Vw
set_option maxRecDepth 100000
set_option maxHeartbeats 4000000
set_option linter.unusedSimpArgs false

end Go.Proofs.Tz

namespace Go.Proofs.Tz
open Go.Vw Go.Lib
set_option linter.unusedSimpArgs false

theorem sorted_perm (l : List Att) : (sortedL l).Perm (((grp l).filter nonE).map normA) := by
  have hp : ((((grp l).filter nonE).map normA).mergeSort fun a b => decide (a.1 ≤ b.1)).Perm (((grp l).filter nonE).map normA) := List.mergeSort_perm _ _
  have hs := List.pairwise_mergeSort (le := fun a b : Att => decide (a.1 ≤ b.1)) (fun a b c h1 h2 => by
    simp only [decide_eq_true_eq] at *
    exact List.le_trans h1 h2) (fun a b => by
    simp only [Bool.or_eq_true, decide_eq_true_eq]
    exact List.le_total a.1 b.1) (((grp l).filter nonE).map normA)
  rw [← normal_eq l _ hp (fun i j hij hj => by
    have := List.pairwise_iff_getElem.1 hs i j (by omega) hj hij
    rw [bl_f]
    simpa using this)]
  exact hp

theorem compact_len (l : List Str) : (compact l).length ≤ l.length := by
  have key : ∀ m, (compactUpTo l.toArray m).length ≤ m := by
    intro m
    induction m with
    | zero => simp [compactUpTo]
    | succ m ih =>
      rw [compactUpTo_succ]
      split <;> simp <;> omega
  exact key l.length
theorem total_perm {a b : List Att} (h : a.Perm b) : total a = total b := (h.map _).sum_nat
theorem total_norm (l : List Att) : total ((l.filter nonE).map normA) ≤ total l := by
  induction l with
  | nil => simp [total]
  | cons a l ih =>
    have hc := compact_len (sortS a.2)
    have hs : (sortS a.2).length = a.2.length := by simp [sortS]
    rw [List.filter_cons]
    split
    · simp only [List.map_cons, total, List.sum_cons] at ih ⊢
      simp only [normA]
      omega
    · simp only [total, List.map_cons, List.sum_cons] at ih ⊢
      omega
theorem total_sorted (l : List Att) : total (sortedL l) ≤ total l := by
  rw [total_perm (sorted_perm l), ← total_grp l]
  exact total_norm _
theorem sorted_name {l : List Att} {x : Att} (h : x ∈ sortedL l) : ∃ a ∈ l, a.2 ≠ [] ∧ lower a.1 = x.1 := by
  obtain ⟨n, hn, rfl⟩ := List.mem_map.1 h
  have hN := (namesF_spec l [] (by simp [SS])).2 n
  rw [show l.foldl namesS [] = namesF l from rfl] at hN
  rcases hN.1 hn with h | h
  · simp at h
  · exact h
theorem sorted_val {l : List Att} {x : Att} (h : x ∈ sortedL l) {v : Str} (hv : v ∈ x.2) : ∃ a ∈ l, lower a.1 = x.1 ∧ v ∈ a.2 := by
  obtain ⟨n, hn, rfl⟩ := List.mem_map.1 h
  have hV := (valsF_spec n l [] (by simp [SS])).2 v
  rw [show l.foldl (valsS n) [] = valsF l n from rfl] at hV
  rcases hV.1 hv with h | h
  · simp at h
  · exact h
end Go.Proofs.Tz

/- Change records: what only one list of attributes has. -/
set_option maxRecDepth 100000
set_option maxHeartbeats 4000000
set_option linter.unusedVariables false
set_option linter.unusedSimpArgs false
namespace Go.Proofs.Tz
open Go.Vw Go.RowKit Go.Proofs

def mkC (o : Int) (id n v : Str) : Chg := ((0, 0, 0), o, id, [], n, v)
def onlyT (o : Int) (id : Str) (b : List Att) (n : Str) (vs : List Str) : List Chg := (vs.filter fun v => !decide (v ∈ getL b n)).map (mkC o id n)
def onlyK (o : Int) (id : Str) (b : List Att) (L : List Att) (k : Nat) : List Chg := (L.take k).flatMap fun t => onlyT o id b t.1 t.2
def onlyL (o : Int) (id : Str) (a b : List Att) : List Chg := (sortedL a).flatMap fun t => onlyT o id b t.1 t.2
theorem onlyK_zero (o : Int) (id : Str) (b L : List Att) : onlyK o id b L 0 = [] := by simp [onlyK]
theorem onlyK_succ (o : Int) (id : Str) (b : List Att) {L : List Att} {k : Nat} (h : k < L.length) : onlyK o id b L (k + 1) = onlyK o id b L k ++ onlyT o id b L[k].1 L[k].2 := by
  unfold onlyK; rw [take_s h, List.flatMap_append, List.flatMap_cons, List.flatMap_nil, List.append_nil]
theorem onlyT_snoc (o : Int) (id : Str) (b : List Att) (n : Str) {vs : List Str} {j : Nat} (h : j < vs.length) : onlyT o id b n (vs.take (j + 1)) = onlyT o id b n (vs.take j) ++ (if vs[j] ∈ getL b n then [] else [mkC o id n vs[j]]) := by
  unfold onlyT; rw [take_s h, List.filter_append, List.map_append]
  by_cases hv : vs[j] ∈ getL b n <;> simp [hv]
theorem onlyT_len (o : Int) (id : Str) (b : List Att) (n : Str) (vs : List Str) : (onlyT o id b n vs).length ≤ vs.length := by
  unfold onlyT; rw [List.length_map]; exact List.length_filter_le _ _
theorem onlyK_len (o : Int) (id : Str) (b : List Att) {L : List Att} (hL : ∀ t ∈ L, t.2.length ≤ 1000) : ∀ k, (onlyK o id b L k).length ≤ 1000 * k
  | 0 => by simp [onlyK]
  | k + 1 => by
    by_cases h : k < L.length
    · rw [onlyK_succ o id b h, List.length_append]
      have := onlyK_len o id b hL k
      have h2 := onlyT_len o id b L[k].1 L[k].2
      have h3 := hL _ (List.getElem_mem h)
      omega
    · have : onlyK o id b L (k + 1) = onlyK o id b L k := by unfold onlyK; rw [List.take_of_length_le (by omega), List.take_of_length_le (by omega)]
      rw [this]; have := onlyK_len o id b hL k; omega
def OnI (o : Int) (id : Str) (b L : List Att) (k : Nat) (τ : St) : Prop := τ 0 = .d (.int .i64 o) ∧ τ 1 = .d (.str id) ∧ τ 3 = .d (atts b) ∧ τ 15 = .own false 56 (L.map att) ∧ τ 16 = .d (.int .i64 L.length) ∧ τ 17 = .d (.int .i64 k) ∧ τ 9 = .own true 26 ((onlyK o id b L k).map chgD)
def OnJ (o : Int) (id : Str) (b L : List Att) (k : Nat) (n : Str) (vs : List Str) (A : List Chg) (j : Nat) (τ : St) : Prop := τ 0 = .d (.int .i64 o) ∧ τ 1 = .d (.str id) ∧ τ 3 = .d (atts b) ∧ τ 15 = .own false 56 (L.map att) ∧ τ 16 = .d (.int .i64 L.length) ∧ τ 17 = .d (.int .i64 k) ∧
  τ 11 = .box (att (n, vs)) ∧ τ 22 = .d (strs vs) ∧ τ 23 = .d (.int .i64 vs.length) ∧ τ 24 = .d (.int .i64 j) ∧ τ 9 = .own true 26 ((A ++ onlyT o id b n (vs.take j)).map chgD)
structure FitE (a b : List Att) : Prop where
  fa : Fit2 a
  fb : Fit2 b
  len : (sortedL a).length ≤ 1000
  row : ∀ t ∈ sortedL a, List.length t.1 < 1000000 ∧ t.2.length ≤ 1000
  get : ∀ n, (getL b n).length < 1000000
theorem only_fn (o : Int) (id : Str) (a b : List Att) (h : FitE a b) : Ctr Tryz.prog 77 [.d (.int .i64 o), .d (.str id), .d (atts a), .d (atts b)] (.own true 26 ((onlyL o id a b).map chgD)) := by
  refine fn_of_vwp (fun i => i == 8 || i == 9 || i == 42) (by kernel_rfl) Tryz.func77 (by kernel_rfl) rfl rfl (Nat.le_of_ble_eq_true rfl) (by kernel_rfl) rfl rfl ?_
  obtain ⟨fa, fb, hlen, hrow, hget⟩ := h
  have c1 := sorted_fn a fa
  have hall : onlyL o id a b = onlyK o id b (sortedL a) (sortedL a).length := by simp [onlyL, onlyK]
  rw [hall]
  generalize sortedL a = L at *
  simp only [atts] at c1
  simp -implicitDefEqProofs [atts]
  refine callK c1 ?_
  simp -implicitDefEqProofs
  refine loopN L.length (OnI o id b L) ?_ ?_
  · exact ⟨by simp, by simp, by simp [atts], by simp, by simp, by simp, by simp [onlyK_zero]⟩
  rintro k τ hk ⟨g0, g1, g3, g15, g16, g17, g9⟩
  have hcl := onlyK_len o id b (fun t ht => (hrow t ht).2) k
  by_cases hlt : k < L.length
  case neg =>
    have hlt' : ¬ (k : Int) < L.length := by omega
    obtain rfl : k = L.length := by omega
    simp -implicitDefEqProofs [g0, g1, g3, g15, g16, g17, g9, hlt']
  have hlt' : (k : Int) < L.length := by omega
  have hs := onlyK_succ o id b hlt
  obtain ⟨hr1, hr2⟩ := hrow _ (List.getElem_mem hlt)
  have keyi : ∀ τ, OnJ o id b L k L[k].1 L[k].2 (onlyK o id b L k) L[k].2.length τ → OnI o id b L (k + 1) (put (put τ 43 (τ 43)) 17 (.d (.int .i64 (k + 1 : Nat)))) → True := fun _ _ _ => trivial
  clear keyi
  generalize hA2 : onlyK o id b L (k + 1) = A2 at *
  generalize onlyK o id b L k = A at *
  generalize hx : L[k] = x at *
  obtain ⟨n, vs⟩ := x
  simp only at hs hr1 hr2
  simp -implicitDefEqProofs [g0, g1, g3, g15, g16, g17, g9, hlt, hlt', hx, att, strs]
  repeat refine And.intro (by omega) ?_
  refine loopN vs.length (OnJ o id b L k n vs A) ?_ ?_
  · exact ⟨by simp [g0], by simp [g1], by simp [g3], by simp [g15, att, strs], by simp [g16], by simp [g17], by simp [att, strs], by simp [strs], by simp, by simp, by simp [g9, onlyT]⟩
  clear g0 g1 g3 g15 g16 g17 g9 τ
  rintro j τ hj ⟨g0, g1, g3, g15, g16, g17, g11, g22, g23, g24, g9⟩
  have htl := onlyT_len o id b n (vs.take j)
  have htl2 : (vs.take j).length ≤ 1000 := by simp; omega
  by_cases hjt : j < vs.length
  case neg =>
    have hjt' : ¬ (j : Int) < vs.length := by omega
    rw [List.take_of_length_le (by omega), ← hs] at g9
    simp -implicitDefEqProofs [g0, g1, g3, g15, g16, g17, g11, g22, g23, g24, g9, hjt']
    repeat refine And.intro (by omega) ?_
    exact again hlt ⟨by simp [g0], by simp [g1], by simp [g3], by simp [g15], by simp [g16], by simp, by simp [g9, hA2]⟩
  have hjt' : (j : Int) < vs.length := by omega
  have hsn := onlyT_snoc o id b n hjt
  have c2 := has2_fn b n vs[j] fb hr1 (hget n)
  simp only [atts] at c2
  generalize hT2 : onlyT o id b n (vs.take (j + 1)) = T2 at *
  generalize onlyT o id b n (vs.take j) = T at *
  generalize hv : vs[j] = v at *
  by_cases hg : v ∈ getL b n
  · rw [if_pos hg, List.append_nil] at hsn
    rw [decide_eq_true hg] at c2
    simp -implicitDefEqProofs [g0, g1, g3, g15, g16, g17, g11, g22, g23, g24, g9, hjt, hjt', hv, att, strs, atts]
    repeat refine And.intro (by omega) ?_
    refine callK c2 ?_
    simp -implicitDefEqProofs [g0, g1, g3, g15, g16, g17, g11, g22, g23, g24, g9]
    repeat refine And.intro (by omega) ?_
    exact again hjt ⟨by simp [g0], by simp [g1], by simp [g3, atts], by simp [g15], by simp [g16], by simp [g17], by simp [g11, att, strs], by simp [g22, strs], by simp [g23], by simp, by simp [g9, hT2, hsn]⟩
  · rw [if_neg hg] at hsn
    rw [decide_eq_false hg] at c2
    simp -implicitDefEqProofs [g0, g1, g3, g15, g16, g17, g11, g22, g23, g24, g9, hjt, hjt', hv, att, strs, atts]
    repeat refine And.intro (by omega) ?_
    refine callK c2 ?_
    simp -implicitDefEqProofs [g0, g1, g3, g15, g16, g17, g11, g22, g23, g24, g9, att, strs]
    repeat refine And.intro (by omega) ?_
    exact again hjt ⟨by simp [g0], by simp [g1], by simp [g3, atts], by simp [g15], by simp [g16], by simp [g17], by simp [g11, att, strs], by simp [g22, strs], by simp [g23], by simp, by simp [g9, hT2, hsn, mkC, chgD, csnD]⟩
end Go.Proofs.Tz

/- Change records: what only one list of attributes has (the reference's); Edits of both. -/
set_option maxRecDepth 100000
set_option maxHeartbeats 4000000
set_option linter.unusedVariables false
set_option linter.unusedSimpArgs false
namespace Go.Proofs.Tz
open Go.Vw Go.RowKit Go.Proofs

theorem edits_fn (id : Str) (a b : List Att) (h : FitE a b) (h2 : FitE b a) (n1 : (onlyL 5 id a b).length ≤ 1000000) (n2 : (onlyL 4 id b a).length ≤ 1000000) : Ctr Tryz.prog 28 [.d (.str id), .d (atts a), .d (atts b)] (.own true 26 ((onlyL 5 id a b ++ onlyL 4 id b a).map chgD)) := by
  refine fn_of_vwp (fun i => i == 6 || i == 10 || i == 15) (by kernel_rfl) Tryz.func28 (by kernel_rfl) rfl rfl (Nat.le_of_ble_eq_true rfl) (by kernel_rfl) rfl rfl ?_
  have c1 := only_fn 5 id a b h
  have c2 := only_fn 4 id b a h2
  generalize onlyL 5 id a b = A at *
  generalize onlyL 4 id b a = B at *
  simp only [atts] at c1 c2
  simp -implicitDefEqProofs [atts]
  refine callK c1 ?_
  simp -implicitDefEqProofs
  refine callK c2 ?_
  simp -implicitDefEqProofs [chgD, csnD]
  exact ⟨by rintro u _ _ _ _ _ _ _ _ _ rfl; simp [width, widths], by omega, by omega⟩
end Go.Proofs.Tz

/- change.Vector where all records bear one replica. -/
set_option maxRecDepth 100000
set_option maxHeartbeats 4000000
set_option linter.unusedVariables false
set_option linter.unusedSimpArgs false
namespace Go.Proofs.Tz
open Go.Vw Go.RowKit Go.Proofs

theorem vecQ_fn (x : Csn) (c : Chg) : Ctr Tryz.prog 75 [.d (csnD x), .d (.ref (chgD c))] (.d (.bool (decide (c.1.2.2 ≤ x.2.2)))) := by
  refine fn_of_vwp (fun _ => false) (by kernel_rfl) Tryz.func75 (by kernel_rfl) rfl rfl (Nat.le_of_ble_eq_true rfl) (by kernel_rfl) rfl rfl ?_
  simp -implicitDefEqProofs [csnD, chgD]
def vecPut (c : Csn) : List Csn → List Csn
  | [] => [c]
  | x :: _ => if cmpC x c < 0 then [c] else [x]
def vecStep (V : List Csn) (c : Csn) : List Csn := if validC c = true then vecPut c V else V
def vecS (l : List Chg) (k : Nat) : List Csn := (l.take k).foldl (fun V c => vecStep V c.1) []
theorem vecS_succ {l : List Chg} {k : Nat} (h : k < l.length) : vecS l (k + 1) = vecStep (vecS l k) l[k].1 := by
  unfold vecS; rw [take_s h, List.foldl_append]; rfl
def VsI (l : List Chg) (r : Int) (k : Nat) (τ : St) : Prop := τ 7 = .d (.sl (l.map chgD)) ∧ τ 8 = .d (.int .i64 l.length) ∧ τ 9 = .d (.int .i64 k) ∧ τ 3 = .own true 23 ((vecS l k).map csnD) ∧ (vecS l k = [] ∨ ∃ x, vecS l k = [x] ∧ x.2.2 = r)
set_option maxHeartbeats 10000000 in
theorem vecS_fn (l : List Chg) (r : Int) (hl : l.length < 1000000) (hr : ∀ c ∈ l, c.1.2.2 = r) : Ctr Tryz.prog 25 [.d (chgs l)] (.own true 23 ((vecS l l.length).map csnD)) := by
  refine fn_of_vwp (fun i => i == 2 || i == 3 || i == 27 || i == 2000019) (by kernel_rfl) Tryz.func25 (by kernel_rfl) rfl rfl (Nat.le_of_ble_eq_true rfl) (by kernel_rfl) rfl rfl ?_
  simp -implicitDefEqProofs [chgs]
  refine loopN l.length (VsI l r) ⟨by simp, by simp, by simp, by simp [vecS], .inl (by simp [vecS])⟩ ?_
  rintro k τ hk ⟨g7, g8, g9, g3, hV⟩
  by_cases hlt : k < l.length
  case neg =>
    have hlt' : ¬ (k : Int) < l.length := by omega
    obtain rfl : k = l.length := by omega
    simp -implicitDefEqProofs [g7, g8, g9, g3, hlt']
  have hlt' : (k : Int) < l.length := by omega
  have hs := vecS_succ hlt
  have hrk := hr _ (List.getElem_mem hlt)
  have c1 := cvalid_fn l[k].1
  generalize hV2 : vecS l (k + 1) = V2 at *
  generalize vecS l k = V at *
  generalize hx : l[k] = c at *
  by_cases hv : validC c.1 = true
  case neg =>
    have hv' : validC c.1 = false := by simpa using hv
    rw [vecStep, if_neg hv] at hs
    rw [hv'] at c1
    simp only [csnD] at c1
    simp -implicitDefEqProofs [g7, g8, g9, g3, hlt, hlt', hx, chgD, csnD]
    refine callK c1 ?_
    simp -implicitDefEqProofs [g7, g8, g9, g3]
    repeat refine And.intro (by omega) ?_
    exact again hlt ⟨by simp [g7, chgD, csnD], by simp [g8], by simp, by simp [g3, hV2, hs, csnD], by rw [hV2, hs]; exact hV⟩
  rw [hv] at c1
  rw [vecStep, if_pos hv] at hs
  rcases hV with rfl | ⟨x, rfl, hxr⟩
  · have c2 := indexC_fn 75 [.ref (chgD c)] rfl (fun x => decide (c.1.2.2 ≤ x.2.2)) [] (by simp) (fun a ha => by simp at ha)
    simp only [vecPut] at hs
    simp only [csnD] at c1
    simp only [chgD, csnD, csns, List.map_nil] at c2
    simp -implicitDefEqProofs [g7, g8, g9, g3, hlt, hlt', hx, chgD, csnD]
    refine callK c1 ?_
    simp -implicitDefEqProofs [g7, g8, g9, g3]
    refine lendK c2 rfl ?_
    simp -implicitDefEqProofs [g7, g8, g9, g3, idxG, chgD, csnD]
    repeat refine And.intro (by omega) ?_
    exact again hlt ⟨by simp [g7, chgD, csnD], by simp [g8], by simp, by simp [g3, hV2, hs, csnD], by rw [hV2, hs]; exact .inr ⟨_, rfl, hrk⟩⟩
  · have c2 := indexC_fn 75 [.ref (chgD c)] rfl (fun x => decide (c.1.2.2 ≤ x.2.2)) [x] (by simp) (fun a ha => by simpa using vecQ_fn a c)
    have hidx : idxG (fun x : Csn => decide (c.1.2.2 ≤ x.2.2)) 0 [x] = 0 := by
      have : c.1.2.2 ≤ x.2.2 := by omega
      simp [idxG, this]
    rw [hidx] at c2
    have c3 := ccmp_fn x c.1
    have hng : ¬ c.1.2.2 < x.2.2 := by omega
    simp only [vecPut] at hs
    simp only [csnD] at c1 c3
    simp only [chgD, csnD, csns, List.map_cons, List.map_nil] at c2
    by_cases hlt3 : cmpC x c.1 < 0
    · rw [if_pos hlt3] at hs
      generalize cmpC x c.1 = N at *
      simp -implicitDefEqProofs [g7, g8, g9, g3, hlt, hlt', hx, chgD, csnD]
      refine callK c1 ?_
      simp -implicitDefEqProofs [g7, g8, g9, g3, csnD]
      refine lendK c2 rfl ?_
      simp -implicitDefEqProofs [g7, g8, g9, g3, chgD, csnD, hng]
      refine callP c3 ?_
      simp -implicitDefEqProofs [g7, g8, g9, g3, chgD, csnD, hng, hlt3]
      repeat refine And.intro (by omega) ?_
      exact again hlt ⟨by simp [g7, chgD, csnD], by simp [g8], by simp, by simp [g3, hV2, hs, csnD], by rw [hV2, hs]; exact .inr ⟨_, rfl, hrk⟩⟩
    · rw [if_neg hlt3] at hs
      generalize cmpC x c.1 = N at *
      simp -implicitDefEqProofs [g7, g8, g9, g3, hlt, hlt', hx, chgD, csnD]
      refine callK c1 ?_
      simp -implicitDefEqProofs [g7, g8, g9, g3, csnD]
      refine lendK c2 rfl ?_
      simp -implicitDefEqProofs [g7, g8, g9, g3, chgD, csnD, hng]
      refine callP c3 ?_
      simp -implicitDefEqProofs [g7, g8, g9, g3, chgD, csnD, hng, hlt3]
      repeat refine And.intro (by omega) ?_
      exact again hlt ⟨by simp [g7, chgD, csnD], by simp [g8], by simp, by simp [g3, hV2, hs, csnD], by rw [hV2, hs]; exact .inr ⟨_, rfl, hxr⟩⟩
end Go.Proofs.Tz

/- The statements about change records: the small cases. -/
set_option maxRecDepth 100000
set_option maxHeartbeats 8000000
set_option linter.unusedVariables false
set_option linter.unusedSimpArgs false
namespace Go.Proofs.Tz
open Go.Vw Go.RowKit Go.Proofs

def t2S : Str := [48, 48, 48, 48, 48, 48, 48, 48, 48, 48, 51, 45, 48, 48, 48, 48, 48, 48, 48, 48, 45, 48]
def t1S : Str := [48, 48, 48, 48, 48, 48, 48, 48, 48, 48, 53, 45, 48, 48, 48, 48, 48, 48, 48, 49, 45, 48]
def cnS : Str := [99, 110]
def caL : Chg := ((5, 1, 0), 5, t2S, [], cnS, [97, 32, 98])
def cbL : Chg := ((3, 0, 0), 2, t2S, [], [], [])
def ccL : Chg := ((3, 0, 0), 2, t2S, [], [], [97])
def cdL : Chg := ((5, 1, 0), 5, t2S, [], cnS, [])
def lineS : Str := [100, 114, 111, 112, 32] ++ t1S ++ [32] ++ t2S ++ [32, 99, 110, 32, 97, 37, 50, 48, 98]
theorem y_f2 : formatC (3, 0, 0) = t2S := by decide +kernel
theorem y_f1 : formatC (5, 1, 0) = t1S := by decide +kernel
theorem y_line : lineCT caL = (lineS, 0) := by decide +kernel
theorem y_chkc : chkC ccL = 4 := by decide +kernel
theorem y_chkd : chkC cdL = 8 := by decide +kernel
theorem y_read : readGo [120, 10] [] = ([], 1, 4) := by kernel_rfl
theorem y_vec : vecS [caL, cbL] 2 = [(5, 1, 0)] := by kernel_rfl
theorem y_merge : mergeL [caL, cbL] [cbL] = [cbL, caL] := by kernel_rfl
theorem y_since : sinceL [caL, cbL] [(5, 1, 0)] = [] := by kernel_rfl
def aA : List Att := [(cnS, [[97]])]
def aB : List Att := [(cnS, [[98]])]
theorem y_only1 : onlyL 5 t2S aA aB = [((0, 0, 0), 5, t2S, [], cnS, [97])] := by kernel_rfl
theorem y_only2 : onlyL 4 t2S aB aA = [((0, 0, 0), 4, t2S, [], cnS, [98])] := by kernel_rfl
theorem fit_of_light {c : Chg} (h : lightC c = true) : FitC c := by
  simp only [lightC, Bool.and_eq_true, decide_eq_true_eq] at h
  exact ⟨by omega, by omega, by omega, by omega⟩
theorem light_all {l : List Chg} (h : lightB l = true) : l.length ≤ 20 ∧ ∀ c ∈ l, lightC c = true := by
  simp only [lightB, Bool.and_eq_true, decide_eq_true_eq, List.all_eq_true] at h
  obtain ⟨h1, h2⟩ := h
  rw [List.take_of_length_le h2] at h1
  exact ⟨h2, h1⟩
theorem total_leQ {m : Nat} : ∀ (l : List Att), (∀ a ∈ l, a.2.length ≤ m) → total l ≤ l.length * m
  | [], _ => by simp [total]
  | a :: l, h => by
    have h1 := h a (by simp)
    have h2 := total_leQ l (fun x hx => h x (by simp [hx]))
    simp only [total, List.map_cons, List.sum_cons, List.length_cons] at h2 ⊢
    rw [Nat.succ_mul]; omega
theorem lightA_fit2 {a : List Att} (h : lightA a = true) : Fit2 a ∧ a.length ≤ 8 ∧ total a ≤ 64 ∧ ∀ t ∈ a, List.length t.1 ≤ 300 ∧ t.2.length ≤ 8 ∧ ∀ v ∈ t.2, List.length v ≤ 300 := by
  simp only [lightA, Bool.and_eq_true, decide_eq_true_eq, List.all_eq_true] at h
  obtain ⟨h1, h2⟩ := h
  have h3 : ∀ t ∈ a, List.length t.1 ≤ 300 ∧ t.2.length ≤ 8 ∧ ∀ v ∈ t.2, List.length v ≤ 300 := fun t ht => by
    have := h2 t ht
    simp only [lightT, lightV, Bool.and_eq_true, decide_eq_true_eq, List.all_eq_true] at this
    exact ⟨this.1.1, this.1.2, this.2⟩
  have h4 := total_leQ a (fun t ht => (h3 t ht).2.1)
  have h5 : a.length * 8 ≤ 64 := by omega
  exact ⟨⟨⟨by omega, fun t ht => ⟨by have := (h3 t ht).1; omega, by have := (h3 t ht).2.1; omega⟩⟩, by omega⟩, h1, by omega, h3⟩
theorem lightE_fit {a b : List Att} (ha : lightA a = true) (hb : lightA b = true) : FitE a b := by
  obtain ⟨fa, la, ta, ra⟩ := lightA_fit2 ha
  obtain ⟨fb, lb, tb, rb⟩ := lightA_fit2 hb
  refine ⟨fa, fb, by have := sorted_len a; omega, fun t ht => ⟨?_, ?_⟩, fun n => ?_⟩
  · obtain ⟨y, hy, _, he⟩ := sorted_name ht
    rw [← he, lower_len]
    have := (ra y hy).1; omega
  · have := sorted_vals a t ht; omega
  · have := getL_len b n; omega
theorem onlyL_le {o : Int} {id : Str} {a b : List Att} (h : FitE a b) (ha : lightA a = true) : (onlyL o id a b).length ≤ 8000 := by
  have h1 := onlyK_len o id b (L := sortedL a) (fun t ht => (h.row t ht).2) (sortedL a).length
  have h2 := sorted_len a
  have h3 := (lightA_fit2 ha).2.1
  have e : onlyL o id a b = onlyK o id b (sortedL a) (sortedL a).length := by simp [onlyL, onlyK]
  rw [e]; omega

theorem awake_fn : Ctr Tryz.prog 12 [] (.d (.bool true)) := by
  refine fn_of_vwp (fun _ => false) (by kernel_rfl) Tryz.func12 (by kernel_rfl) rfl rfl (Nat.le_of_ble_eq_true rfl) (by kernel_rfl) rfl rfl ?_
  have fitL : ∀ c ∈ [caL, cbL], FitC c := by
    intro c hc
    simp only [List.mem_cons, List.not_mem_nil, or_false] at hc
    rcases hc with rfl | rfl <;> exact fit_of_light (by decide +kernel)
  have fc : FitC ccL := fit_of_light (by decide +kernel)
  have fd : FitC cdL := fit_of_light (by decide +kernel)
  have lA : lightA aA = true := by decide +kernel
  have lB : lightA aB = true := by decide +kernel
  have fE := lightE_fit lA lB
  have fE2 := lightE_fit lB lA
  have h1 := format_fn (3, 0, 0)
  have h2 := line_fn caL (fitL _ (by simp))
  have h3 := read_fn [120, 10] (by decide)
  have h4 := vecS_fn [caL, cbL] 0 (by decide) (by
    intro c hc
    simp only [List.mem_cons, List.not_mem_nil, or_false] at hc
    rcases hc with rfl | rfl <;> rfl)
  have h5 := edits_fn t2S aA aB fE fE2 (by have := onlyL_le (o := 5) (id := t2S) fE lA; omega) (by have := onlyL_le (o := 4) (id := t2S) fE2 lB; omega)
  have h6 := merge_fn [caL, cbL] [cbL] fitL (by intro c hc; rw [List.mem_singleton.1 hc]; exact fitL _ (by simp)) (by decide)
  have h7 := format_fn (5, 1, 0)
  have h8 := chkC_fn ccL fc
  have h9 := chkC_fn cdL fd
  have h10 := since_fn [caL, cbL] [(5, 1, 0)] (by decide) (by decide)
  rw [y_f2] at h1
  rw [y_line] at h2
  rw [y_read] at h3
  have e4 : vecS [caL, cbL] [caL, cbL].length = [(5, 1, 0)] := y_vec
  rw [e4] at h4
  rw [y_only1, y_only2] at h5
  rw [y_merge] at h6
  rw [y_f1] at h7
  rw [y_chkc] at h8
  rw [y_chkd] at h9
  rw [y_since] at h10
  clear e4 fE fE2 lA lB fc fd fitL
  simp only [caL, cbL, ccL, cdL, aA, aB, t1S, t2S, cnS, lineS, chgs, chgD, csnD, csns, atts, att, strs, List.map_cons, List.map_nil, List.cons_append, List.nil_append] at h1 h2 h3 h4 h5 h6 h7 h8 h9 h10
  simp -implicitDefEqProofs
  refine callK h1 ?_
  simp -implicitDefEqProofs
  refine callK h2 ?_
  simp -implicitDefEqProofs
  refine callK h3 ?_
  simp -implicitDefEqProofs
  repeat refine And.intro (by decide) ?_
  refine callK h4 ?_
  simp -implicitDefEqProofs
  repeat refine And.intro (by decide) ?_
  refine callK h5 ?_
  simp -implicitDefEqProofs
  repeat refine And.intro (by decide) ?_
  refine callK h6 ?_
  simp -implicitDefEqProofs
  repeat refine And.intro (by decide) ?_
  refine callK h7 ?_
  simp -implicitDefEqProofs
  refine callK h8 ?_
  simp -implicitDefEqProofs
  refine callK h9 ?_
  simp -implicitDefEqProofs [leafEq]
  repeat refine And.intro (by decide) ?_
  refine callP h10 ?_
  simp -implicitDefEqProofs [leafEq]
end Go.Proofs.Tz
