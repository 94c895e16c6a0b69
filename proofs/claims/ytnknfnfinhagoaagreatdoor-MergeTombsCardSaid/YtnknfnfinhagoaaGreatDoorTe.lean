/-
  What the functions that the statements about merged states reach compute, part 5 of 5, for data of bounded size (each theorem states its bound).
-/import Derived.Test.YtnknfnfinhagoaaGreatDoorTd
import Derived.Test.YtnknfnfinhagoaaGreatDoorWc
import Derived.Test.YtnknfnfinhagoaaGreatDoorTa
import Derived.Test.YtnknfnfinhagoaaGreatDoorWd
import Derived.Shelf.SlSortCmp.NoneTotal
import Derived.Test.YtnknfnfinhagoaaGreatDoorTc
import Derived.Test.YtnknfnfinhagoaaGreatDoorTb
import Derived.MakeChecks
open Go.Proofs.Tryz
set_option linter.unusedSimpArgs false
set_option linter.unusedVariables false
set_option maxRecDepth 100000
set_option maxHeartbeats 8000000
namespace Go.Proofs.Tz
open Go.Vw Go.RowKit Go.Proofs Go.Sort
def Y8 (R : List Chg) (id : Str) : Bool := decide (K4 (O4 R (B8 R)) (M6 R id) = some id)
def G3 (R : List Chg) (id : Str) : Str := if Y8 R id then M6 R id else a9Z (M6 R id) id
def a2b (R : List Chg) : SM := (B8 R).map fun id => (id, G3 R id)
def smD (g : Nat) (N : SM) (bs : List Nat) (clk : Nat) : D := .map (.map (some g)) (N.map fun p => .str p.1) (N.map fun p => .str p.2) bs clk
theorem b5c (m : SM) : (O0 m).map (·.1) = m.map fun p => D.str p.1 := by simp [O0, Function.comp_def]
theorem c1R (m : SM) : (O0 m).map (·.2) = m.map fun p => D.str p.2 := by simp [O0, Function.comp_def]
theorem c1u (m : SM) : (m.map fun p => D.str p.1).zip (m.map fun p => D.str p.2) = O0 m := by
  induction m with
  | nil => rfl
  | cons p m ih => simp only [List.map_cons, List.zip_cons_cons, ih, O0]
theorem c6b {f : FuncId} {args : List AV} {m : SM} (h : H0 prog f args [] (fun r hs' => ∃ g, r = .d (.raw (.map (some g))) ∧ hs' = [.hm (.map (some g)) 9 (O0 m) none])) :
    H0 prog f args [] (fun r hs' => hs' = [] ∧ ∃ g N bs clk, List.Perm N m ∧ r = .d (smD g N bs clk)) := by
  refine h.frzMap ?_; rintro r hs' ⟨g, rfl, rfl⟩; refine ⟨g, 9, O0 m, rfl, rfl, fun m' bs clk hp => ?_⟩; obtain ⟨N, n1, n2⟩ := a2E hp rfl; refine ⟨rfl, g, N, bs, clk, n1, ?_⟩; have e : m' = O0 N := n2.symm; rw [e, b5c, c1R]; rfl
theorem b1r {m N : SM} (h : List.Perm N m) (hn : (m.map (·.1)).Nodup) (k : Str) : K4 N k = K4 m k := by
  have e1 : M1 (O0 N) (.str k) = M1 (O0 m) (.str k) := b2S (P := prog) (kt := 9) (h.map _) (by
    show ((O0 m).map (·.1)).Nodup
    rw [b5c]; have : (m.map fun p => D.str p.1) = (m.map (·.1)).map .str := by simp [Function.comp_def]
    rw [this]; exact (List.pairwise_map).2 (hn.imp fun hab e => hab (by simpa using e))) (F7 k)
  rw [a3D, a3D] at e1; cases h1 : K4 N k <;> cases h2 : K4 m k <;> rw [h1, h2] at e1 <;> simp at e1 <;> simp [e1]
theorem c0v {m : SM} {k v v' : Str} (h : K4 m k = none) : R5 (O0 (m ++ [(k, v)])) (.str k) (.str v') = O0 (m ++ [(k, v')]) := by
  have hne : ∀ p ∈ m, ¬ p.1 = k := by
    simp only [K4, Option.map_eq_none_iff, List.find?_eq_none] at h; intro p hp; simpa using h p hp
  unfold R5; rw [if_pos (by simp [O0, K8])]; simp only [O0, List.map_append, List.map_map, List.map_cons, List.map_nil]; congr 1
  · refine List.map_congr_left fun p hp => ?_
    simp [K8, hne p hp]
  · simp [K8]
theorem a6T {m : SM} {k : Str} : K4 m k = none ↔ ∀ p ∈ m, p.1 ≠ k := by
  simp [K4, List.find?_eq_none]
theorem b0k (R : List Chg) : SS (B8 R) := by
  have h1 : (B8 R).Pairwise fun x y => ¬ y < x := a7s (a2R R)
  have h2 : (B8 R).Nodup := (List.mergeSort_perm _ _).nodup_iff.2 (List.Nodup.sublist (List.filter_sublist.map _) (a3S R)); exact (List.Pairwise.and h1 h2).imp fun {a b} h => (Classical.byContradiction fun hn => h.2 (a2r hn h.1))
theorem a1Q (R : List Chg) : (B8 R).Nodup := (b0k R).nodup
structure d5f (R : List Chg) : Prop where
  ok : ∀ c ∈ R, I1 c = 0
  few : R.length ≤ 4096
structure b4M (own id : Str) : Prop where
  parse : (E5 own).1 ≠ []
  own : List.length own < 900000
  short : List.length id < 200
  ne : id ≠ []
def a3q (R : List Chg) (l : List Str) : SM := l.map fun id => (id, G3 R id)
theorem b7T (R : List Chg) (l : List Str) (id : Str) : a3q R (l ++ [id]) = a3q R l ++ [(id, G3 R id)] := by simp [a3q]
theorem b7q {R : List Chg} {l : List Str} {id : Str} (h : id ∉ l) : K4 (a3q R l) id = none := by
  rw [a6T]; intro p hp; obtain ⟨x, hx, rfl⟩ := List.mem_map.1 hp; rintro rfl; exact h hx
def DiI (R : List Chg) (sd : D) (g g2 : Nat) (k : Nat) (τ : St) : Prop := τ 0 = .d sd ∧ τ 3 = .d (.raw (.map (some g))) ∧ τ 4 = .d (.raw (.map (some g2))) ∧ τ 12 = .own false 9 ((B8 R).map .str) ∧ τ 13 = .d (.int .i64 (B8 R).length) ∧ τ 14 = .d (.int .i64 k) ∧
  τ 1000000 = .hm (.map (some g)) 9 (O0 (O4 R (B8 R))) none ∧ τ 1000001 = .hm (.map (some g2)) 9 (O0 (a3q R ((B8 R).take k))) none
theorem b4Q (R : List Chg) (d : D) (hd : StD R d) (hl : (S5 R).length < 100000) (hN : ∀ id ∈ B8 R, b4M (M6 R id) id) : H0 prog 42 [.d d] [] (fun r hs' => ∃ g, r = .d (.raw (.map (some g))) ∧ hs' = [.hm (.map (some g)) 9 (O0 (a2b R)) none]) := by
  obtain ⟨u1, R1, bs1, c1, u2, M, bs2, c2, rfl, hR1, hM⟩ := hd.open; have hll := a0A R; have hlv := a3e R _ hd hl; have how := b3b R _ hd hl; refine a1x (fun i => i == 5000009) (by kernel_rfl) func42 (by kernel_rfl) rfl rfl (nbl rfl) (by kernel_rfl) rfl ?_; simp -implicitDefEqProofs [A6]; refine M3 [] 1000000 how rfl rfl (by simp) ?_; rintro r hs' ⟨g, rfl, rfl⟩; simp -implicitDefEqProofs [A6, D1, C0]; refine b1d 9 1000001 (by simp [A6]) (fun g2 => ?_); simp -implicitDefEqProofs [A6]; refine A3 hlv ?_; simp -implicitDefEqProofs [A6]; obtain ⟨sd, hsd⟩ : ∃ sd, U3 u1 R1 bs1 c1 u2 M bs2 c2 = sd := ⟨_, rfl⟩; refine H3 (B8 R).length (DiI R sd g g2) ⟨by simp [A6, ← hsd], by simp [A6], by simp [A6], by simp [A6], by simp [A6], by simp [A6], by simp [A6], by simp [A6, a3q, O0]⟩ ?_; rintro k τ hk ⟨g0, g3, g4, g12, g13, g14, gA, gB⟩; by_cases hlt : k < (B8 R).length
  · have hlt' : (k : Int) < (B8 R).length := (by omega); obtain ⟨id, hid⟩ : ∃ id, (B8 R)[k] = id := ⟨_, rfl⟩; have hin : id ∈ B8 R := by rw [← hid]; exact gmm _
    obtain ⟨d, hg1, hab⟩ := hM.live hin; obtain ⟨u, V, bs, clk, hd1, hV⟩ := hab; have htk : (B8 R).take (k + 1) = (B8 R).take k ++ [id] := by rw [G5 hlt, hid]
    have hsn := b7T R ((B8 R).take k) id; rw [← htk] at hsn; have hnew : K4 (a3q R ((B8 R).take k)) id = none := b7q fun hm => by
      have := a1Q R; rw [← List.take_append_drop k (B8 R), List.nodup_append] at this; exact this.2.2 id hm id (by rw [List.drop_eq_getElem_cons hlt, hid]; simp) rfl
    have chg_eq : A8 (abF R id).nm = .agg [B6 (abF R id).nm.1, .int .i64 (abF R id).nm.2.1, .str (abF R id).nm.2.2.1, .str (M6 R id), .str (abF R id).nm.2.2.2.2.1, .str (abF R id).nm.2.2.2.2.2] := rfl; have hmg := a3D (O4 R (B8 R)) (M6 R id); have hsh : G3 R id = if Y8 R id then M6 R id else a9Z (M6 R id) id := rfl
    have hob : Y8 R id = decide (K4 (O4 R (B8 R)) (M6 R id) = some id) := rfl; have hn := hN id hin; have hot := c1K (M6 R id) id hn.own hn.short hn.parse; have hlk : ∃ r w, M1 (O0 (O4 R (B8 R))) (.str (M6 R id)) = r ∧ a0n false (.str []) r = .d (.str w) ∧ (decide (w = id) = Y8 R id) := by
      rw [hmg, hob]; cases h : K4 (O4 R (B8 R)) (M6 R id) with
      | none => exact ⟨none, [], rfl, rfl, by simp [Ne.symm hn.ne]⟩
      | some v => exact ⟨some (.str v), v, rfl, rfl, by simp⟩
    obtain ⟨r, w, hr1, hr2, hr3⟩ := hlk; rw [← a6y] at hg1; rw [hd1] at hg1; generalize a9Z (M6 R id) id = OT at *; rcases Classical.em (w = id) with hw | hw
    all_goals
      simp -implicitDefEqProofs [g0, g3, g4, g12, g13, g14, ← hsd, U3, hlt, hlt', hid]; refine a0d a3X (F7 _) (a5a M) Tryz.zd_75 hg1 ?_; simp -implicitDefEqProofs [g0, g3, g4, g12, g13, g14, P3, chg_eq, A4]; refine a5Z (m := O0 (a3q R ((B8 R).take k))) (E := none) 1000001 X4 (by simp [gB]) (F7 _) _ (List.Perm.refl _) ?_; rw [a7f hnew]; simp -implicitDefEqProofs [g0, g3, g4, g12, g13, g14]; refine a1b (m := O0 (O4 R (B8 R))) (E := none) 1000000 (by omega) X4 (by simp [gA]) (F7 _) Tryz.zd_9 hr1 ?_; rw [hr2]
    · have hb : Y8 R id = true := by rw [← hr3]; simpa using hw
      rw [hb, if_pos rfl] at hsh; simp -implicitDefEqProofs [g0, g3, g4, g12, g13, g14, hw]; (repeat refine ai (by omega) ?_); exact E8 hlt ⟨by simp [g0, ← hsd, U3], by simp [g3], by simp [g4], by simp [g12], by simp [g13], by simp, by simp [gA], by simp [hsn, hsh]⟩
    · have hb : Y8 R id = false := by rw [← hr3]; simpa using hw
      rw [hb] at hsh; simp only [Bool.false_eq_true, if_false] at hsh; simp -implicitDefEqProofs [g0, g3, g4, g12, g13, g14, hw]; refine A3 hot ?_; simp -implicitDefEqProofs [g0, g3, g4, g12, g13, g14, hw]; refine a5Z (m := O0 (a3q R ((B8 R).take k) ++ [(id, M6 R id)])) (E := none) 1000001 X4 (by simp) (F7 _) _ (List.Perm.refl _) ?_; rw [c0v hnew]; simp -implicitDefEqProofs [g0, g3, g4, g12, g13, g14]; (repeat refine ai (by omega) ?_); exact E8 hlt ⟨by simp [g0, ← hsd, U3], by simp [g3], by simp [g4], by simp [g12], by simp [g13], by simp, by simp [gA], by simp [hsn, hsh]⟩
  · have hlt' : ¬ (k : Int) < (B8 R).length := (by omega); rw [ttl (by omega)] at gB; simp -implicitDefEqProofs [g0, g3, g4, g12, g13, g14, hlt, hlt']; exact ⟨_, [1000001], by simp, by simp [gB, isH], by simp [a1M], g2, rfl, by simp [gB, a2b, a3q]⟩
structure a0l (R : List Chg) : Prop where
  few : (S5 R).length < 5000
  name : ∀ id ∈ B8 R, b4M (M6 R id) id
  vals : ∀ id, (abF R id).vs.length < 5000 ∧ ∀ p ∈ (abF R id).vs, List.length p.1.1 < 900000 ∧ List.length p.1.2 < 900000
theorem a0l.lt {R : List Chg} (h : a0l R) : (S5 R).length < 100000 := by have := h.few; omega
theorem b8W (R : List Chg) (d : D) (hd : StD R d) (hG : a0l R) : H0 prog 63 [.d d] [] (fun r hs' => hs' = [] ∧ ∃ g N bs clk, List.Perm N (O4 R (B8 R)) ∧ r = .d (smD g N bs clk)) := c6b (b3b R d hd hG.lt)
theorem a1Z (R : List Chg) (d : D) (hd : StD R d) (hG : a0l R) : H0 prog 42 [.d d] [] (fun r hs' => hs' = [] ∧ ∃ g N bs clk, List.Perm N (a2b R) ∧ r = .d (smD g N bs clk)) := c6b (b4Q R d hd hG.lt hG.name)
theorem a4Y (R : List Chg) : (a2b R).map (·.1) = B8 R := by simp [a2b, Function.comp_def]
theorem a2U {R : List Chg} {N : SM} (hN : List.Perm N (a2b R)) (id : Str) : K4 N id = if id ∈ B8 R then some (G3 R id) else none := by
  rw [b1r hN (by rw [a4Y]; exact a1Q R)]; by_cases h : id ∈ B8 R
  · rw [if_pos h]; have hn := a1Q R; unfold a2b K4; generalize B8 R = l at *
    induction l with
    | nil => simp at h
    | cons x l ih =>
      rw [List.nodup_cons] at hn; by_cases hx : x = id
      · subst hx; simp
      · rcases List.mem_cons.1 h with e | h
        · exact absurd e.symm hx
        · have := ih h hn.2; simp only [List.map_cons, List.find?_cons, decide_eq_false hx] at this ⊢; exact this
  · rw [if_neg h, a6T]; intro p hp e; exact h (by rw [← a4Y, ← e]; exact List.mem_map.2 ⟨p, hp, rfl⟩)
theorem Q7 (N : SM) : ∀ k ∈ N.map (fun p => D.str p.1), D8 prog 9 k = true := by
  intro k hk; obtain ⟨x, _, rfl⟩ := List.mem_map.1 hk; exact F7 _
theorem a2h (N : SM) (k : Str) : M1 ((N.map fun p => D.str p.1).zip (N.map fun p => D.str p.2)) (.str k) = (K4 N k).map .str := by rw [c1u, a3D]
def a3v (R : List Chg) (n : Str) : Str × Bool := match (B8 R).find? fun id => decide (G3 R id = n) with
  | some id => (id, true)
  | none => ([], false)
def noF (R : List Chg) (n : Str) (k : Nat) : Prop := a3v R n = match ((B8 R).drop k).find? fun id => decide (G3 R id = n) with
  | some id => (id, true)
  | none => ([], false)
theorem c2s (R : List Chg) (n : Str) : noF R n 0 := by simp [noF, a3v]
theorem c4G {R : List Chg} {n : Str} {k : Nat} (h : noF R n k) (hk : k < (B8 R).length) (he : G3 R (B8 R)[k] = n) : a3v R n = ((B8 R)[k], true) := by
  rw [noF, List.drop_eq_getElem_cons hk, List.find?_cons_of_pos (by simpa using he)] at h; exact h
theorem c1L {R : List Chg} {n : Str} {k : Nat} (h : noF R n k) (hk : k < (B8 R).length) (he : ¬ G3 R (B8 R)[k] = n) : noF R n (k + 1) := by
  rw [noF, List.drop_eq_getElem_cons hk, List.find?_cons_of_neg (by simpa using he)] at h; exact h
theorem c4Z {R : List Chg} {n : Str} {k : Nat} (h : noF R n k) (hk : (B8 R).length ≤ k) : a3v R n = ([], false) := by
  rw [noF, List.drop_eq_nil_of_le hk] at h; exact h
def FnI (R : List Chg) (n : Str) (g : Nat) (N : SM) (bs : List Nat) (clk : Nat) (k : Nat) (τ : St) : Prop := τ 1 = .d (.str n) ∧ τ 6 = .d (smD g N bs clk) ∧ τ 15 = .own false 9 ((B8 R).map .str) ∧ τ 16 = .d (.int .i64 (B8 R).length) ∧ τ 17 = .d (.int .i64 k) ∧ noF R n k
theorem c4l (R : List Chg) (d : D) (n : Str) (hd : StD R d) (hG : a0l R) : Ctr prog 15 [.d d, .d (.str n)] (.tup [.d (.str (a3v R n).1), .d (.bool (a3v R n).2)]) := by
  have hdi := a1Z R d hd hG; have hlv := a3e R d hd hG.lt; obtain ⟨u1, R1, bs1, c1, u2, M, bs2, c2, rfl, hR1, hM⟩ := hd.open; have hll := a0A R; have hlt := hG.lt; have hre := a2Q u1 R1 bs1 c1 u2 M bs2 c2; obtain ⟨sd, hsd⟩ : ∃ sd, U3 u1 R1 bs1 c1 u2 M bs2 c2 = sd := ⟨_, rfl⟩; rw [hsd] at hdi hlv hre ⊢; refine N7 (rv := .tmp 4) (rs := [.tmp 5]) (r := .d (.str (a3v R n).1)) (ys := [.d (.bool (a3v R n).2)]) (fun i => i == 5000013) (by kernel_rfl) func15 (by kernel_rfl) rfl rfl (by simp) (nbl rfl) (by kernel_rfl) rfl rfl ?_; simp -implicitDefEqProofs; refine A3 hre ?_; simp -implicitDefEqProofs; refine b1O hdi ?_; rintro r hs' ⟨rfl, g, N, bs, clk, hN, rfl⟩; refine ⟨rfl, ?_⟩; simp -implicitDefEqProofs; refine A3 hlv ?_; simp -implicitDefEqProofs; refine H3 (B8 R).length (FnI R n g N bs clk) ⟨by simp, by simp, by simp, by simp, by simp, c2s R n⟩ ?_; rintro k τ hk ⟨g1, g6, g15, g16, g17, gN⟩; rcases Nat.lt_or_ge k (B8 R).length with hlt | hlt
  · have hlt' : (k : Int) < (B8 R).length := (by omega); have hin : (B8 R)[k] ∈ B8 R := gmm _; have hge := a2h N (B8 R)[k]; rw [a2U hN, if_pos hin] at hge; rcases Classical.em (G3 R (B8 R)[k] = n) with he | he
    · rw [c4G gN hlt he]; simp -implicitDefEqProofs [g1, g6, g15, g16, g17, hlt, hlt', smD]; refine a0d X4 (F7 _) (Q7 N) Tryz.zd_9 hge ?_; simp -implicitDefEqProofs [g1, g6, g15, g16, g17, hlt, hlt', smD, he]
    · have hnx := c1L gN hlt he; simp -implicitDefEqProofs [g1, g6, g15, g16, g17, hlt, hlt', smD]; refine a0d X4 (F7 _) (Q7 N) Tryz.zd_9 hge ?_; simp -implicitDefEqProofs [g1, g6, g15, g16, g17, hlt, hlt', smD, he]; exact ⟨by omega, E8 hlt ⟨by simp [g1], by simp [g6, smD], by simp [g15], by simp [g16], by simp, hnx⟩⟩
  · rw [c4Z gN hlt]; have hlt' : ¬ (k : Int) < (B8 R).length := (by omega); have hlt'' : ¬ k < (B8 R).length := (by omega); simp -implicitDefEqProofs [g1, g6, g15, g16, g17, hlt', hlt'']
def b8p (p : VK × Chg) : Option Att := if opC p.2 = 4 then some (p.1.1, [p.1.2]) else none
def a0g (vs : List (VK × Chg)) : List Att := vs.filterMap b8p
def a1P (R : List Chg) (id : Str) : List Att := G0 (a0g (abF R id).vs)
def a1a (s : Str) (a : List Att) : D := .agg [.str s, H4 a]
theorem a8n {V W : List (VK × Chg)} (h : List.Perm V W) : G0 (a0g V) = G0 (a0g W) := by
  refine b0V fun n v => ?_
  have : ∀ a, a ∈ a0g V ↔ a ∈ a0g W := fun a => (h.filterMap b8p).mem_iff
  simp only [b1F, this]
theorem b4a {V : List (VK × Chg)} (h : V.length < 5000) (hs : ∀ p ∈ V, List.length p.1.1 < 900000 ∧ List.length p.1.2 < 900000) : a5j (a0g V) := by
  have hlen : (a0g V).length ≤ V.length := List.length_filterMap_le _ _; have hm : ∀ a ∈ a0g V, List.length a.1 < 900000 ∧ a.2.length = 1 := fun a ha => by
    obtain ⟨p, hp, e⟩ := List.mem_filterMap.1 ha; unfold b8p at e; split at e
    · simp only [Option.some.injEq] at e; subst e; exact ⟨(hs p hp).1, rfl⟩
    · cases e
  refine ⟨⟨by omega, fun a ha => ⟨by have := (hm a ha).1; omega, by have := (hm a ha).2; omega⟩⟩, ?_⟩; have : ∀ l : List Att, (∀ a ∈ l, a.2.length = 1) → I2 l = l.length := by
    intro l
    induction l with
    | nil => intro _; rfl
    | cons a l ih =>
      intro h; have := ih fun b hb => h b (by simp [hb])
      simp only [I2, List.map_cons, List.sum_cons, List.length_cons] at this ⊢; rw [this, h a (by simp)]; omega
  rw [this _ fun a ha => (hm a ha).2]; omega
theorem c0u (vs : List (VK × Chg)) (k : VK) (c : Chg) : (a3Q vs k c).map (·.1) = if vs.any (fun p => decide (p.1 = k)) then vs.map (·.1) else vs.map (·.1) ++ [k] := by
  unfold a3Q; split
  · rw [List.map_map]; refine List.map_congr_left fun p _ => ?_
    simp only [Function.comp_apply]; split <;> rfl
  · simp
theorem b7J {vs : List (VK × Chg)} (hn : (vs.map (·.1)).Nodup) (k : VK) (c : Chg) : ((a3Q vs k c).map (·.1)).Nodup := by
  rw [c0u]; split
  · exact hn
  · rename_i h
    refine List.nodup_append.2 ⟨hn, by simp, fun x hx z hz => ?_⟩; simp only [List.mem_singleton] at hz; subst hz; rintro rfl; obtain ⟨p, hp, e⟩ := List.mem_map.1 hx; exact h (List.any_eq_true.2 ⟨p, hp, by simpa using e⟩)
theorem a3I (R : List Chg) (id : Str) : ((abF R id).vs.map (·.1)).Nodup := by
  refine U2 (P := fun R => ((abF R id).vs.map (·.1)).Nodup) (by simp [abF, Q9]) (fun R c ih => ?_) R; rw [a0K]; split
  · unfold N5; split
    · exact ih
    · split
      · exact ih
      · split
        · exact ih
        · exact b7J ih _ _
  · exact ih
theorem c4K {a b : VK} (h : vkD a = vkD b) : a = b := by
  obtain ⟨a1, a2⟩ := a; obtain ⟨b1, b2⟩ := b; simp only [vkD, D.agg.injEq, List.cons.injEq, D.str.injEq, and_true] at h; rw [h.1, h.2]
structure a5f (V W : List (VK × Chg)) (seen : List D) : Prop where
  eq : seen = W.map fun p => vkD p.1
  nd : W.Nodup
  sub : ∀ p ∈ W, p ∈ V
theorem c5W {V : List (VK × Chg)} (hn : (V.map (·.1)).Nodup) {p q : VK × Chg} (hp : p ∈ V) (hq : q ∈ V) (e : p.1 = q.1) : p = q := by
  obtain ⟨i, hi, e1⟩ := List.getElem_of_mem hp; obtain ⟨j, hj, e2⟩ := List.getElem_of_mem hq; have := a8b hn (i := i) (j := j) (by simpa using hi) (by simpa using hj) (by simp [e1, e2, e]); subst this; rw [← e1, ← e2]
theorem a5f.next {V W : List (VK × Chg)} {seen : List D} (h : a5f V W seen) {p : VK × Chg} (hp : p ∈ V) (hn : vkD p.1 ∉ seen) : a5f V (W ++ [p]) (seen ++ [vkD p.1]) := by
  refine ⟨by rw [h.eq]; simp, ?_, fun q hq => ?_⟩
  · refine List.nodup_append.2 ⟨h.nd, by simp, fun a ha b hb => ?_⟩; simp only [List.mem_singleton] at hb; subst hb; rintro rfl; exact hn (by rw [h.eq]; exact List.mem_map.2 ⟨a, ha, rfl⟩)
  · rcases List.mem_append.1 hq with hq | hq
    · exact h.sub q hq
    · rw [List.mem_singleton.1 hq]; exact hp
theorem a8O {V : List (VK × Chg)} (hn : (V.map (·.1)).Nodup) : V.Nodup := (List.pairwise_map.1 hn).imp fun h e => h (by rw [e])
theorem a5f.le {V W : List (VK × Chg)} {seen : List D} (h : a5f V W seen) (hn : (V.map (·.1)).Nodup) : W.length ≤ V.length := by
  have hp : W.Perm (V.filter fun p => decide (p ∈ W)) := (List.perm_ext_iff_of_nodup h.nd ((a8O hn).filter _)).2 fun p => by
    simp only [List.mem_filter, decide_eq_true_eq]; exact ⟨fun hs => ⟨h.sub p hs, hs⟩, fun hs => hs.2⟩
  rw [hp.length_eq]; exact List.length_filter_le _ _
theorem a5f.all {V W : List (VK × Chg)} {seen : List D} (h : a5f V W seen) (hn : (V.map (·.1)).Nodup) (ha : ∀ p ∈ V, vkD p.1 ∈ seen) : List.Perm W V := by
  have hnv : V.Nodup := a8O hn; refine (List.perm_ext_iff_of_nodup h.nd hnv).2 fun p => ⟨h.sub p, fun hp => ?_⟩
  have := ha p hp; rw [h.eq] at this; obtain ⟨q, hq, e⟩ := List.mem_map.1 this; rw [← c5W hn (h.sub q hq) hp (c4K e)]; exact hq
theorem c3D (V : List (VK × Chg)) : (V.map fun p => vkD p.1).zip (V.map fun p => A8 p.2) = V.map fun p => (vkD p.1, A8 p.2) := by
  induction V with
  | nil => rfl
  | cons x V ih => simp only [List.map_cons, List.zip_cons_cons, ih]
theorem c2k (a : VK) : G4 (vkD a) (vkD a) = true := by simp [vkD, G4, V8, Y4]
theorem b0B (V : List (VK × Chg)) : ∀ k ∈ V.map (fun p => vkD p.1), G4 k k = true := by
  intro k hk; obtain ⟨x, _, rfl⟩ := List.mem_map.1 hk; exact c2k _
theorem b9O (c : Chg) : B0 (A8 c) = 8 := rfl
theorem b9h (W : List (VK × Chg)) (p : VK × Chg) : a0g (W ++ [p]) = a0g W ++ (if opC p.2 = 4 then [(p.1.1, [p.1.2])] else []) := by
  simp only [a0g, List.filterMap_append, List.filterMap_cons, List.filterMap_nil, b8p]; split <;> simp_all
def EnI (s : Str) (u : Value) (V : List (VK × Chg)) (bs : List Nat) (clk : Nat) (k : Nat) (τ : St) : Prop := ∃ W seen, a5f V W seen ∧ W.length = k ∧ τ 2 = .d (.str s) ∧ τ 6 = .box (.agg [.str [], .sl []]) ∧ τ 7 = .own false 72 ((a0g W).map att) ∧
  τ 18 = .d (.map u (V.map fun p => vkD p.1) (V.map fun p => A8 p.2) bs clk) ∧ τ 19 = .mit u ((V.map fun p => vkD p.1).zip bs, clk) seen
theorem b4y (R : List Chg) (d : D) (id s : Str) (hd : StD R d) (hG : a0l R) (hin : id ∈ B8 R) : Ctr prog 50 [.d d, .d (.str id), .d (.str s)] (.d (a1a s (a1P R id))) := by
  obtain ⟨u1, R1, bs1, c1, u2, M, bs2, c2, rfl, hR1, hM⟩ := hd.open; obtain ⟨d, hg1, hab⟩ := hM.live hin; obtain ⟨u, V, bs, clk, hd1, hV⟩ := hab; have hvl : V.length < 5000 := by rw [hV.length_eq]; exact (hG.vals id).1
  have hvs : ∀ p ∈ V, List.length p.1.1 < 900000 ∧ List.length p.1.2 < 900000 := fun p hp => (hG.vals id).2 p (hV.mem_iff.1 hp)
  rw [← a6y] at hg1; rw [hd1] at hg1; have hat : a1P R id = G0 (a0g V) := (a8n hV).symm; rw [hat]; refine N7 (rv := .cell 6 48) (rs := []) (r := .d (a1a s (G0 (a0g V)))) (ys := []) (fun i => false) (by kernel_rfl) func50 (by kernel_rfl) rfl rfl (by simp) (nbl rfl) (by kernel_rfl) rfl rfl ?_; simp -implicitDefEqProofs [U3]; refine a0d a3X (F7 _) (a5a M) Tryz.zd_75 hg1 ?_; simp -implicitDefEqProofs [P3, b9O]; have hVn : (V.map (·.1)).Nodup := (hV.map _).nodup_iff.2 (a3I R id); refine H3 V.length (EnI s u V bs clk) ⟨[], [], ⟨rfl, List.nodup_nil, by simp⟩, rfl, by simp, by simp, by simp [a0g], by simp, by simp⟩ ?_; rintro k τ hk ⟨W, seen, hS, hsl, g2, g6, g7, g18, g19⟩; have hle := hS.le hVn; simp -implicitDefEqProofs [g2, g6, g7, g18, g19]; refine c5U (vs := V.map fun p => A8 p.2) 18 (by simp [g18]) (b0B V) (fun x v hm hn => ?_) (fun hall => ?_)
  · have hm2 := hm; rw [c3D] at hm2; obtain ⟨p, hp, e⟩ := List.mem_map.1 hm2; simp only [Prod.mk.injEq] at e; obtain ⟨rfl, rfl⟩ := e; have hS2 := hS.next hp hn; have hlt : k < V.length := by have := hS2.le hVn; simp at this; omega
    have hsn := b9h W p; have chg_eq : A8 p.2 = .agg [B6 p.2.1, .int .i64 (opC p.2), .str p.2.2.2.1, .str p.2.2.2.2.1, .str p.2.2.2.2.2.1, .str p.2.2.2.2.2.2] := rfl; have vk_eq : vkD p.1 = .agg [.str p.1.1, .str p.1.2] := rfl; have hpl : (a0g W).length ≤ W.length := List.length_filterMap_le _ _; generalize hT2 : a0g (W ++ [p]) = T2 at *; generalize hT : a0g W = T at *; rcases Classical.em (opC p.2 = 4) with h4 | h4
    all_goals
      simp only [h4, if_true, if_false] at hsn; simp -implicitDefEqProofs [g2, g6, g7, g18, g19]; refine c5E (vs := V.map fun p => A8 p.2) 18 (by simp [g18]) (b0B V) hm ?_; simp -implicitDefEqProofs [g2, g6, g7, g18, g19, chg_eq, vk_eq, A4, h4]
    · refine ⟨by omega, by omega, E8 hlt ⟨W ++ [p], seen ++ [vkD p.1], hS2, by simp [hsl], by simp [g2], by simp [g6], by simp [hT2, hsn, att, C6], by simp [g18], by simp [vk_eq]⟩⟩
    · exact E8 hlt ⟨W ++ [p], seen ++ [vkD p.1], hS2, by simp [hsl], by simp [g2], by simp [g6], by simp [g7, hT2, hsn], by simp [g18], by simp [vk_eq]⟩
  · have hp : List.Perm W V := hS.all hVn fun p hp => hall (vkD p.1, A8 p.2) (by rw [c3D]; exact List.mem_map.2 ⟨p, hp, rfl⟩)
    have hsort := (b9v (a0g W) (b4a (by omega) fun p hp => hvs p (hS.sub p hp))); rw [a8n hp] at hsort; simp only [H4] at hsort; generalize G0 (a0g V) = A at *; generalize a0g W = T at *; simp -implicitDefEqProofs [g2, g6, g7, g18, g19]; refine A3 hsort ?_; simp -implicitDefEqProofs [g2, g6, g7, g18, g19, a1a, H4]
def N6 (R : List Chg) (id : Str) : (Str × List Att) × Bool := if id ∈ B8 R then ((G3 R id, a1P R id), true) else (([], []), false)
theorem a6o (R : List Chg) (d : D) (id : Str) (hd : StD R d) (hG : a0l R) : Ctr prog 21 [.d d, .d (.str id)] (.tup [.d (a1a (N6 R id).1.1 (N6 R id).1.2), .d (.bool (N6 R id).2)]) := by
  have hdi := a1Z R d hd hG; have hen : ∀ s, id ∈ B8 R → _ := fun s h => b4y R d id s hd hG h
  obtain ⟨u1, R1, bs1, c1, u2, M, bs2, c2, rfl, hR1, hM⟩ := hd.open; have hre := a2Q u1 R1 bs1 c1 u2 M bs2 c2; obtain ⟨sd, hsd⟩ : ∃ sd, U3 u1 R1 bs1 c1 u2 M bs2 c2 = sd := ⟨_, rfl⟩; rw [hsd] at hdi hre hen ⊢; rcases Classical.em (id ∈ B8 R) with hin | hin
  · have he : N6 R id = ((G3 R id, a1P R id), true) := (by simp [N6, hin]); rw [he]; have hen := hen (G3 R id) hin; refine N7 (rv := .cell 4 48) (rs := [.tmp 5]) (r := .d (a1a (G3 R id) (a1P R id))) (ys := [.d (.bool true)]) (fun i => i == 5000014) (by kernel_rfl) func21 (by kernel_rfl) rfl rfl (by simp) (nbl rfl) (by kernel_rfl) rfl rfl ?_; simp -implicitDefEqProofs; refine A3 hre ?_; simp -implicitDefEqProofs; refine b1O hdi ?_; rintro r hs' ⟨rfl, g, N, bs, clk, hN, rfl⟩; have hge := a2h N id; rw [a2U hN, if_pos hin] at hge; refine ⟨rfl, ?_⟩; simp -implicitDefEqProofs [smD]; refine a0d X4 (F7 _) (Q7 N) Tryz.zd_9 hge ?_; simp -implicitDefEqProofs; refine A3 hen ?_; simp -implicitDefEqProofs [a1a, H4]
  · have he : N6 R id = (([], []), false) := (by simp [N6, hin]); rw [he]; refine N7 (rv := .cell 4 48) (rs := [.tmp 5]) (r := .d (a1a [] [])) (ys := [.d (.bool false)]) (fun i => i == 5000014) (by kernel_rfl) func21 (by kernel_rfl) rfl rfl (by simp) (nbl rfl) (by kernel_rfl) rfl rfl ?_; simp -implicitDefEqProofs; refine A3 hre ?_; simp -implicitDefEqProofs; refine b1O hdi ?_; rintro r hs' ⟨rfl, g, N, bs, clk, hN, rfl⟩; have hge := a2h N id; rw [a2U hN, if_neg hin] at hge; refine ⟨rfl, ?_⟩; simp -implicitDefEqProofs [smD]; refine a0d X4 (F7 _) (Q7 N) Tryz.zd_9 hge ?_; simp -implicitDefEqProofs [a1a, H4]
theorem b7u (g : FuncId) (cs : List D) (hcs : (cs.all fun c => !c.isAgg) = true) (p : Str → Bool) (l : List Str) (hl : l.length < 1000000) (hp : ∀ a ∈ l, Ctr prog g ([.d (.str a)] ++ cs.map .d) (.d (.bool (p a)))) :
    Ctr prog 64 [.own true 9 (l.map .str), .d (.clo g cs)] (.own true 9 ((l.filter fun x => !p x).map .str)) := by
  refine fv (fun i => i == 2000010) func64 (by kernel_rfl) rfl rfl rfl rfl rfl ?_; simp -implicitDefEqProofs; refine c3I (b8Y g cs hcs p l hl hp) rfl ?_; by_cases hn : a2u p 0 l = -1
  · simp -implicitDefEqProofs [hn, b5t p l 0 hn]
  · obtain ⟨i, h1, h2, h3, h4⟩ := b4d p l 0 hn; simp only [Nat.zero_add] at h1; have e1 : ¬ ((i : Int) = -1) := (by omega); simp -implicitDefEqProofs [h1, e1]; refine ⟨by omega, ?_⟩; refine b1A (fun n τ => ∃ (j q : Nat) (m : List Str), n = l.length - j ∧ j ≤ l.length ∧ τ 0 = .own true 9 (m.map .str) ∧ τ 1 = .d (.clo g cs) ∧ τ 5 = .d (.int .i64 q) ∧ τ 6 = .d (.int .i64 j) ∧ m.length = l.length ∧ q < j ∧ m.take q = (l.take j).filter (fun x => !p x) ∧ m.drop j = l.drop j)
      (l.length - (i + 1)) ⟨i + 1, i, l, rfl, by omega, by simp, by simp, by simp, by simp, rfl, by omega, h4.symm, rfl⟩ ?_
    rintro n τ ⟨j, q, m, rfl, hj, g0, g1, g5, g6, hm, hq, ht, hd⟩; by_cases hlt : j < l.length
    · have hmj : m[j]'(by omega) = l[j] := by
        have := congrArg (fun x : List Str => x[0]?) hd; simpa [hlt, hm] using this
      have hf := hp _ (gmm hlt); simp only [List.cons_append, List.nil_append] at hf; have hlt' : (j : Int) < l.length := (by omega); simp -implicitDefEqProofs [g0, g1, g5, g6, hm, hlt', hlt, hmj]; refine ⟨by simpa using hcs, A3 hf ?_⟩; by_cases he : p l[j] = true
      · simp -implicitDefEqProofs [g0, g1, g5, g6, hm, hlt', hlt, hmj, he]; refine ⟨by omega, _, ?_, j + 1, rfl, by omega, q, m, rfl, rfl, by omega, hm, by omega, ?_, ?_⟩
        · omega
        · rw [G5 hlt, List.filter_append, ht]; simp [he]
        · rw [← List.drop_drop, hd, List.drop_drop]
      · have hq2 : q < m.length := (by omega); have hqq : m[q]? = some m[q] := List.getElem?_eq_getElem hq2; simp -implicitDefEqProofs [g0, g1, g5, g6, hm, hlt', hlt, hmj, he, hqq]; refine ⟨by omega, by omega, by omega, _, ?_, j + 1, rfl, by omega, q + 1, m.set q l[j], ?_, by simp, by simp, by simpa using hm, by omega, ?_, ?_⟩
        · omega
        · rw [List.map_set]
        · rw [List.take_set, G5 hq2, List.set_append_right _ _ (by simp; omega)]; simp only [List.length_take, Nat.min_eq_left (Nat.le_of_lt hq2), Nat.sub_self, List.set_cons_zero]; rw [G5 hlt, List.filter_append, ht]; simp [he]
        · rw [List.drop_set_of_lt (by omega), ← List.drop_drop, hd, List.drop_drop]
    · simp -implicitDefEqProofs [g0, g1, g5, g6, hm, hlt]; have hjl : j = l.length := (by omega); subst hjl; refine ⟨by omega, by omega, ?_⟩; rw [List.take_append_of_le_length (by simp; omega), List.take_take, Nat.min_self, ← List.map_take, ht, List.take_length]
def a0p (R : List Chg) : List Str := (B8 R).filter fun id => !Y8 R id
theorem c3R {R : List Chg} {N : SM} (hN : List.Perm N (O4 R (B8 R))) (k : Str) : K4 N k = K4 (O4 R (B8 R)) k := by
  refine b1r hN ?_ k; have : ∀ l : List Str, ((O4 R l).map (·.1)).Nodup := fun l => U2 (P := fun l => ((O4 R l).map (·.1)).Nodup) (by simp [O4]) (fun l id ih => by
    rw [b2Q]; cases h : K4 (O4 R l) (M6 R id) with
    | some v => simpa using ih
    | none =>
      simp only [Option.isSome_none, Bool.false_eq_true, if_false, List.map_append, List.map_cons, List.map_nil]; refine List.nodup_append.2 ⟨ih, by simp, fun a ha b hb => ?_⟩; simp only [List.mem_singleton] at hb; subst hb; rintro rfl; obtain ⟨p, hp, e⟩ := List.mem_map.1 ha; exact a6T.1 h p hp e) l
  exact this _
theorem c3p (R : List Chg) (sd : D) (hd : StD R sd) (id : Str) (hin : id ∈ B8 R) (hne : id ≠ []) (g : Nat) (N : SM) (bs : List Nat) (clk : Nat) (hN : List.Perm N (O4 R (B8 R))) :
    Ctr prog 65 ([.d (.str id)] ++ [D.ref (smD g N bs clk), D.ref sd].map .d) (.d (.bool (Y8 R id))) := by
  obtain ⟨u1, R1, bs1, c1, u2, M, bs2, c2, rfl, hR1, hM⟩ := hd.open; obtain ⟨d, hg1, hab⟩ := hM.live hin; obtain ⟨u, V, bs', clk', hd1, hV⟩ := hab; have chg_eq : A8 (abF R id).nm = .agg [B6 (abF R id).nm.1, .int .i64 (abF R id).nm.2.1, .str (abF R id).nm.2.2.1, .str (M6 R id), .str (abF R id).nm.2.2.2.2.1, .str (abF R id).nm.2.2.2.2.2] := rfl; rw [← a6y] at hg1; rw [hd1] at hg1; have hmg := a2h N (M6 R id); rw [c3R hN] at hmg; have hob : Y8 R id = decide (K4 (O4 R (B8 R)) (M6 R id) = some id) := rfl; have hlk : ∃ r w, M1 ((N.map fun p => D.str p.1).zip (N.map fun p => D.str p.2)) (.str (M6 R id)) = r ∧ a0n false (.str []) r = .d (.str w) ∧ (decide (w = id) = Y8 R id) := by
    rw [hmg, hob]; cases h : K4 (O4 R (B8 R)) (M6 R id) with
    | none => exact ⟨none, [], rfl, rfl, by simp [Ne.symm hne]⟩
    | some v => exact ⟨some (.str v), v, rfl, rfl, by simp⟩
  obtain ⟨r, w, hr1, hr2, hr3⟩ := hlk; rw [← hr3]; refine fv (fun _ => false) func65 (by kernel_rfl) rfl rfl rfl rfl rfl ?_; simp -implicitDefEqProofs [smD, U3]; refine a0d a3X (F7 _) (a5a M) Tryz.zd_75 hg1 ?_; simp -implicitDefEqProofs [P3, chg_eq, A4]; refine a0d X4 (F7 _) (Q7 N) Tryz.zd_9 hr1 ?_; rw [hr2]; simp -implicitDefEqProofs
theorem a2o (R : List Chg) (d : D) (hd : StD R d) (hG : a0l R) : Ctr prog 28 [.d d] (.own true 9 ((a0p R).map .str)) := by
  have how := b8W R d hd hG; have hlv := a3e R d hd hG.lt; have hq : ∀ id ∈ B8 R, ∀ g N bs clk, List.Perm N (O4 R (B8 R)) → _ := fun id hin g N bs clk hN => c3p R d hd id hin (hG.name id hin).ne g N bs clk hN
  have hll := a0A R; have hlt := hG.lt; obtain ⟨u1, R1, bs1, c1, u2, M, bs2, c2, rfl, hR1, hM⟩ := hd.open; have hre := a2Q u1 R1 bs1 c1 u2 M bs2 c2; obtain ⟨sd, hsd⟩ : ∃ sd, U3 u1 R1 bs1 c1 u2 M bs2 c2 = .ref sd := ⟨_, rfl⟩; rw [hsd] at how hlv hre hq ⊢; refine fv (fun i => i == 5000008 || i == 10 || i == 12 || i == 2) func28 (by kernel_rfl) rfl rfl rfl rfl rfl ?_; simp -implicitDefEqProofs; refine A3 hre ?_; simp -implicitDefEqProofs; refine b1O how ?_; rintro r hs' ⟨rfl, g, N, bs, clk, hN, rfl⟩; refine ⟨rfl, ?_⟩; have hdl := b7u 65 [D.ref (smD g N bs clk), D.ref (.ref sd)] rfl (Y8 R) (B8 R) (by omega) (fun id hid => hq id hid g N bs clk hN); simp -implicitDefEqProofs [smD]; refine A3 hlv ?_; simp -implicitDefEqProofs [smD]; simp only [smD] at hdl; refine A3 hdl ?_; simp -implicitDefEqProofs [a0p]
theorem a6G {s : Str} : K7 s = true ↔ ∃ l, M0 s = some l := by
  unfold K7; rw [Option.isSome_iff_exists]
theorem b5y : M0 [] = some [] := by decide
theorem c4p {s : Str} {l : List F9} (h : M0 s = some l) : s = [] ↔ l = [] := by
  constructor
  · rintro rfl; rw [b5y] at h; simpa using h.symm
  · rintro rfl; exact b3i h b5y
theorem c2M {p : F9} (h : NP p) : (V6 p).length ≤ 577 := by
  obtain ⟨h1, h2⟩ := a6W h; simp only [T5, S4, Bool.and_eq_true, decide_eq_true_eq] at h1 h2; have e1 : (R6 (X2 p.2)).length ≤ 2 * (X2 p.2).length := by
    unfold R6; generalize X2 p.2 = s
    induction s with
    | nil => simp
    | cons c s ih =>
      rw [List.flatMap_cons, List.length_append, List.length_cons]; have : (if V9 c = true then [92, c] else [c]).length ≤ 2 := by split <;> simp
      omega
  have e2 : (X2 p.2).length ≤ p.2.length := by
    have hq : ∀ (s : Str) (c : UInt8), (sqz c s).length ≤ s.length := by
      intro s
      induction s with
      | nil => intro c; simp [sqz]
      | cons x s ih =>
        intro c; simp only [sqz]; have := ih x; split <;> simp <;> omega
    unfold X2; have h3 := hq (D7 (I7 p.2)) 0; have h4 : (D7 (I7 p.2)).length = (I7 p.2).length := (by simp [D7]); have h5 : (I7 p.2).length ≤ p.2.length := a2j p.2; omega
  have e3 : (D7 p.1).length = p.1.length := (by simp [D7]); simp only [V6, List.length_append, List.length_cons]; omega
theorem b9w {s : Str} (h : K7 s = true) : s.length ≤ 5000 := by
  obtain ⟨l, hl⟩ := a6G.1 h; obtain ⟨h1, h8, hs, _⟩ := a2k hl; have key : ∀ l : List F9, (∀ p ∈ l, NP p) → (D6 44 (l.map V6)).length ≤ l.length * 578 := by
    intro l
    induction l with
    | nil => intro _; simp [D6]
    | cons p l ih =>
      intro h; have hp := c2M (h p (by simp)); have ih := ih (fun q hq => h q (by simp [hq])); cases l with
      | nil => simp [D6]; omega
      | cons q l =>
        simp only [List.map_cons, D6, List.length_append, List.length_cons] at ih ⊢; omega
  have := key l h1; rw [← hs] at this; omega
theorem b6p {s : Str} {p : F9} {l : List F9} (h : M0 s = some (p :: l)) : ∃ t, W0 s = (t, true) ∧ M0 t = some l := by
  have h8 := (a2k h).2.1; have ha := c0H h h (n := l) (fun q hq => .inl (by simp [hq])) (by simp at h8; omega); refine ⟨_, ?_, ha.2⟩; unfold W0; rw [h]; simp only [ha.1]
theorem b9Z {p : F9} (h : U6 p = 0) : (V6 p).length ≤ 577 := by
  unfold U6 at h; split at h
  · cases h
  · split at h
    · cases h
    · rename_i h1 h2
      simp only [Bool.not_eq_false] at h1 h2; simp only [T5, S4, Bool.and_eq_true, decide_eq_true_eq] at h1 h2; have e1 : (R6 (X2 p.2)).length ≤ 2 * (X2 p.2).length := by
        unfold R6; generalize X2 p.2 = s
        induction s with
        | nil => simp
        | cons c s ih =>
          rw [List.flatMap_cons, List.length_append, List.length_cons]; have : (if V9 c = true then [92, c] else [c]).length ≤ 2 := by split <;> simp
          omega
      have e2 : (X2 p.2).length ≤ p.2.length := by
        have hq : ∀ (s : Str) (c : UInt8), (sqz c s).length ≤ s.length := by
          intro s
          induction s with
          | nil => intro c; simp [sqz]
          | cons x s ih =>
            intro c; simp only [sqz]; have := ih x; split <;> simp <;> omega
        unfold X2; have h3 := hq (D7 (I7 p.2)) 0; have h4 : (D7 (I7 p.2)).length = (I7 p.2).length := (by simp [D7]); have h5 : (I7 p.2).length ≤ p.2.length := a2j p.2; omega
      have e3 : (D7 p.1).length = p.1.length := (by simp [D7]); simp only [V6, List.length_append, List.length_cons]; omega
theorem b6r (l : List F9) : (H9 l).1.length ≤ 5000 := by
  unfold H9; split
  · rename_i h
    unfold a0b at h; split at h
    · rename_i h1
      split at h
      · cases h
      · have h1 := a3n.1 h1; have key : ∀ l : List F9, (∀ p ∈ l, U6 p = 0) → (D6 44 (l.map V6)).length ≤ l.length * 578 := by
          intro l
          induction l with
          | nil => intro _; simp [D6]
          | cons p l ih =>
            intro h; have hp := b9Z (h p (by simp)); have ih := ih (fun q hq => h q (by simp [hq])); cases l with
            | nil => simp [D6]; omega
            | cons q l =>
              simp only [List.map_cons, D6, List.length_append, List.length_cons] at ih ⊢; omega
        have := key l h1; simp only; omega
    · rename_i h1; exact absurd h h1
  · simp
def cfK (key : Str → Str) (a b : Str) : Int := orI [a0Z (key a) (key b), a0u a b]
theorem b2o {key : Str → Str} {a b : Str} : cfK key a b < 0 ↔ a0Z (key a) (key b) < 0 ∨ (key a = key b ∧ a < b) := by
  unfold cfK orI orI orI; by_cases h : a0Z (key a) (key b) = 0
  · rw [if_neg (by simpa using h)]; by_cases h2 : a0u a b = 0
    · rw [if_neg (by simpa using h2)]; have := b3u.1 h2; subst this; simp [h]
    · rw [if_pos h2, b5K]; have := a4Z.1 h; simp [this, b3w]
  · rw [if_pos h]; have : key a ≠ key b := fun e => h (a4Z.2 e)
    simp [this]
theorem b6L (key : Str → Str) (a : Str) : ¬ cfK key a a < 0 := by
  rw [b2o, b3w]; simp
theorem a7l {key : Str → Str} {a b c : Str} (h1 : cfK key a b < 0) (h2 : cfK key b c < 0) : cfK key a c < 0 := by
  rw [b2o] at *; rcases h1 with h1 | ⟨h1, h3⟩ <;> rcases h2 with h2 | ⟨h2, h4⟩
  · exact .inl (b7L h1 h2)
  · rw [h2] at h1; exact .inl h1
  · rw [← h1] at h2; exact .inl h2
  · exact .inr ⟨h1.trans h2, a1D h3 h4⟩
theorem b7g {key : Str → Str} {a b : Str} (h1 : ¬ cfK key a b < 0) (h2 : ¬ cfK key b a < 0) : a = b := by
  rw [b2o] at *; have h3 := b9m (key a) (key b); have h4 : a0Z (key a) (key b) = 0 := (by omega); have h5 := a4Z.1 h4; exact a2r (fun h => h1 (.inr ⟨h5, h⟩)) (fun h => h2 (.inr ⟨h5.symm, h⟩))
theorem a9D (key : Str → Str) : SWO (ltOf (cfK key)) where
  irrefl x := by simpa [ltOf] using b6L key x
  trans x y z h1 h2 := by
    simp only [ltOf, decide_eq_true_eq] at *; exact a7l h1 h2
  ntrans x y z h1 h2 := by
    simp only [ltOf, decide_eq_false_iff_not] at *; intro h3; by_cases h4 : cfK key y x < 0
    · exact h2 (a7l h4 h3)
    · have := b7g h1 h4; subst this; exact h2 h3
def KS (key : Str → Str) (l : List Str) : Prop := l.Pairwise fun a b => cfK key a b < 0
theorem a9C {key : Str → Str} {l : List Str} (hn : l.Nodup) : KS key (M9 (cfK key) l) := by
  obtain ⟨h1, h2⟩ := Z3 (a9D key) l; have hn' : (M9 (cfK key) l).Nodup := h1.nodup_iff.2 hn; refine List.pairwise_iff_getElem.2 fun i j hi hj hij => ?_
  have h3 := h2 i j hij hj; simp only [ltOf, decide_eq_false_iff_not] at h3; refine Classical.byContradiction fun h4 => ?_
  have := b7g h4 h3; exact (List.pairwise_iff_getElem.1 hn') i j hi hj hij this
theorem c0e {key : Str → Str} {A B : List Str} (ha : KS key A) (hb : KS key B) (h : A.Perm B) : A = B :=
  h.eq_of_pairwise (fun a b _ _ h1 h2 => absurd (a7l h1 h2) (b6L key a)) ha hb
theorem b2F {key key' : Str → Str} {l m : List Str} (hn : l.Nodup) (hp : l.Perm m) (hk : ∀ a ∈ l, key a = key' a) : M9 (cfK key) l = M9 (cfK key') m := by
  have h1 := (Z3 (a9D key) l).1; have h2 := (Z3 (a9D key') m).1; have h3 : (M9 (cfK key) l).Perm (M9 (cfK key') m) := h1.trans (hp.trans h2.symm); refine c0e (key := key) (a9C hn) ?_ h3; have h4 : KS key' (M9 (cfK key') m) := a9C (hp.nodup_iff.1 hn); refine List.Pairwise.imp_of_mem (fun {a b} ha hb h => ?_) h4; have ha' : a ∈ l := hp.mem_iff.2 (h2.mem_iff.1 ha); have hb' : b ∈ l := hp.mem_iff.2 (h2.mem_iff.1 hb); simp only [cfK, hk a ha', hk b hb'] at h ⊢; exact h
def Z8 (N : SM) (id : Str) : Str := (K4 N id).getD []
theorem c1J (g : Nat) (N : SM) (bs : List Nat) (clk : Nat) (hN : ∀ p ∈ N, List.length p.2 < 900000) (a b : Str) :
    Ctr prog 118 ([.d (.str a), .d (.str b)] ++ [D.ref (smD g N bs clk)].map .d) (.d (.int .i64 (cfK (Z8 N) a b))) := by
  have hk : ∀ a, List.length (Z8 N a) < 900000 := fun a => by
    unfold Z8 K4; cases h : N.find? fun p => decide (p.1 = a) with
    | none => simp
    | some p => simpa using hN p (List.mem_of_find?_eq_some h)
  have hg : ∀ a, ∃ r, M1 ((N.map fun p => D.str p.1).zip (N.map fun p => D.str p.2)) (.str a) = r ∧ a0n false (.str []) r = .d (.str (Z8 N a)) := fun a => by
    rw [a2h]; unfold Z8; cases K4 N a <;> exact ⟨_, rfl, rfl⟩
  obtain ⟨r1, h1, h2⟩ := hg a; obtain ⟨r2, h3, h4⟩ := hg b; have c1 := b6n (Z8 N a) (Z8 N b) (hk a) (hk b); have c2 := a7e a b; have c3 := a6A [a0Z (Z8 N a) (Z8 N b), a0u a b] (by simp); simp only [a2D, List.map_cons, List.map_nil] at c3; refine fv (fun i => false) func118 (by kernel_rfl) rfl rfl rfl rfl rfl ?_; simp -implicitDefEqProofs [smD]; refine a0d X4 (F7 _) (Q7 N) Tryz.zd_9 h1 ?_; rw [h2]; simp -implicitDefEqProofs; refine a0d X4 (F7 _) (Q7 N) Tryz.zd_9 h3 ?_; rw [h4]; simp -implicitDefEqProofs; refine A3 c1 ?_; simp -implicitDefEqProofs; refine A3 c2 ?_; simp -implicitDefEqProofs; refine ⟨by decide, A3 c3 ?_⟩; simp -implicitDefEqProofs [cfK]
theorem c3s (g : Nat) (N : SM) (bs : List Nat) (clk : Nat) (hN : ∀ p ∈ N, List.length p.2 < 900000) (l : List Str) (hl : l.length < 1000000) : a6b prog 162 9 (l.map .str) [.d (.clo 118 [D.ref (smD g N bs clk)])] ((M9 (cfK (Z8 N)) l).map .str) := by
  refine b8o Tryz.layT 9 (by kernel_rfl) (enters_of func162 (by kernel_rfl) rfl) D.str (fun s => Value.string ⟨s.toArray⟩) b9u (cfK (Z8 N)) (a9D _) 118 [D.ref (smD g N bs clk)] (by simp [D.isAgg]) (fun x y => c1J g N bs clk hN x y) (fun w cb => ?_) l hl; exact AnyF.slices_SortFunc_none Tryz.layU none 0 _ w
theorem b8r (g q T : Nat) (N : SM) (bs : List Nat) (clk : Nat) (hl : N.length < 1000000) (hk : ∀ p ∈ N, List.length p.1 ≤ maxLen) (hN : ∀ p ∈ N, List.length p.2 < 900000) (hnd : (N.map (·.1)).Nodup) :
    H0 prog 116 [.d (.raw (a8Q 163 q)), .d (.clo 118 [D.ref (smD g N bs clk)])] [.hb (.pointer (some ⟨q, 0, none⟩)) T (smD g N bs clk)]
      (fun r hs' => r = .own true 9 ((M9 (cfK (Z8 N)) (N.map (·.1))).map .str) ∧ hs' = [.hb (.pointer (some ⟨q, 0, none⟩)) T (smD g N bs clk)]) := by
  have c1 := c2w (P := prog) (ρ := Tryz.coll_ren) (ρk := Tryz.keysA_ren) Tryz.coll { Tryz.keysA with } (enters_of func161 (by kernel_rfl) rfl) (enters_of func163 (by kernel_rfl) rfl) rfl (by decide) (by kernel_rfl) (by kernel_rfl) g q T (N.map (·.1)) (N.map fun p => .str p.2) bs clk (by simp) (by simp; omega) (by simpa using hk); have e : (D.map (.map (some g)) ((N.map (·.1)).map .str) (N.map fun p => .str p.2) bs clk) = smD g N bs clk := by simp [smD, Function.comp_def]
  rw [e] at c1; have hfix : ∀ ss, List.Perm ss (N.map (·.1)) → M9 (cfK (Z8 N)) ss = M9 (cfK (Z8 N)) (N.map (·.1)) := fun ss h => b2F (h.nodup_iff.2 hnd) h (fun _ _ => rfl)
  obtain ⟨sd, hsd⟩ : ∃ sd, smD g N bs clk = sd := ⟨_, rfl⟩; have hsI := c3s g N bs clk hN; rw [hsd] at c1 hsI ⊢; refine a1x (fun i => i == 5000007 || i == 3000010 || i == 5 || i == 8 || i == 4) (by kernel_rfl) func116 (by kernel_rfl) rfl rfl (nbl rfl) (by kernel_rfl) rfl ?_; simp -implicitDefEqProofs [A6]; refine M3 [1000000] 1000000 c1 (by simp [A6]) rfl (by simp) ?_; rintro r hs' ⟨⟨ss, hss, rfl⟩, rfl⟩; have hsl : ss.length < 1000000 := by rw [hss.length_eq]; simpa using hl
  have hI := hsI ss hsl; rw [hfix ss hss] at hI; generalize M9 (cfK (Z8 N)) (N.map (·.1)) = K at *; simp -implicitDefEqProofs [A6, D1, C0]; refine b8E hI ?_; simp -implicitDefEqProofs [A6]; exact ⟨.own true 9 (K.map .str), [1000000], by simp, by simp [isH], by simp [a1M, Tryz.coll_ren], rfl, by simp⟩
def I6 (R : List Chg) : List Str := M9 (cfK (G3 R)) (B8 R)
theorem b2t {R : List Chg} {id : Str} (h : b4M (M6 R id) id) : List.length (G3 R id) < 900000 := by
  unfold G3; split
  · exact h.own
  · have := b6r (b1T (M6 R id) id); unfold a9Z; omega
theorem c4f {R : List Chg} {N : SM} (h : List.Perm N (a2b R)) : M9 (cfK (Z8 N)) (N.map (·.1)) = I6 R := by
  have hp : (N.map (·.1)).Perm (B8 R) := by rw [← a4Y]; exact h.map _
  refine b2F (hp.nodup_iff.2 (a1Q R)) hp (fun a ha => ?_); unfold Z8; rw [a2U h, if_pos (hp.mem_iff.1 ha)]; rfl
theorem b0v (R : List Chg) (d : D) (hG : a0l R) (g : Nat) (N : SM) (bs : List Nat) (clk : Nat) (hN : List.Perm N (a2b R)) :
    Ctr prog 66 [.d d, .d (smD g N bs clk)] (.own true 9 ((I6 R).map .str)) := by
  have hmx : (1000000 : Nat) ≤ maxLen := (by decide); have hmem : ∀ p ∈ N, p.1 ∈ B8 R ∧ p.2 = G3 R p.1 := fun p hp => by
    have := hN.mem_iff.1 hp; obtain ⟨x, hx, rfl⟩ := List.mem_map.1 this; exact ⟨hx, rfl⟩
  have hll := a0A R; have hlt := hG.lt; have hNl : N.length < 1000000 := by rw [hN.length_eq]; simp [a2b]; omega
  have hv : ∀ p ∈ N, List.length p.2 < 900000 := fun p hp => by
    rw [(hmem p hp).2]; exact b2t (hG.name _ (hmem p hp).1)
  have hk : ∀ p ∈ N, List.length p.1 ≤ maxLen := fun p hp => by
    have := (hG.name _ (hmem p hp).1).short; omega
  have hnd : (N.map (·.1)).Nodup := by
    have hp : (N.map (·.1)).Perm (B8 R) := by rw [← a4Y]; exact hN.map _
    exact hp.nodup_iff.2 (a1Q R)
  have c1 := c7J (P := prog) (ρk := Tryz.keysA_ren) Tryz.keysA (enters_of func117 (by kernel_rfl) rfl) g (N.map fun p => .str p.1) (N.map fun p => .str p.2) bs clk; have c2 : ∀ q, _ := fun q => b8r g q 80 N bs clk hNl hk hv hnd
  have he := c4f hN; rw [he] at c2; have e : D.map (.map (some g)) (N.map fun p => .str p.1) (N.map fun p => .str p.2) bs clk = smD g N bs clk := rfl; rw [e] at c1; obtain ⟨sd, hsd⟩ : ∃ sd, smD g N bs clk = sd := ⟨_, rfl⟩; rw [hsd] at c1 c2 ⊢; refine fv (fun i => i == 5000006 || i == 5000008 || i == 4) func66 (by kernel_rfl) rfl rfl rfl rfl rfl ?_; simp -implicitDefEqProofs; refine ⟨⟨by rw [← hsd]; rfl, by rw [← hsd]; rfl⟩, ?_⟩; refine M3 [] 1000000 c1 rfl rfl (by simp) ?_; rintro r hs' ⟨q, rfl, rfl⟩; simp -implicitDefEqProofs [D1, C0]; refine M3 [1000000] 1000000 (c2 q) (by simp; rfl) rfl (by simp) ?_; rintro r hs' ⟨rfl, rfl⟩; generalize I6 R = K at *; simp -implicitDefEqProofs [D1, C0]
def a1O (e : Str × List Att) : D := a1a e.1 e.2
def a1S (R : List Chg) (id : Str) : Str × List Att := (G3 R id, a1P R id)
def Z7 (R : List Chg) : List (Str × List Att) := (I6 R).map (a1S R)
theorem b4r {R : List Chg} {id : Str} : id ∈ I6 R ↔ id ∈ B8 R := (Z3 (a9D (G3 R)) (B8 R)).1.mem_iff
theorem a4D {R : List Chg} : (I6 R).length = (B8 R).length := (Z3 (a9D (G3 R)) (B8 R)).1.length_eq
def EsI (R : List Chg) (sd : D) (g : Nat) (N : SM) (bs : List Nat) (clk : Nat) (k : Nat) (τ : St) : Prop := τ 0 = .d sd ∧ τ 3 = .d (smD g N bs clk) ∧ τ 4 = .own true 48 (((I6 R).take k).map fun id => a1O (a1S R id)) ∧ τ 14 = .own false 9 ((I6 R).map .str) ∧ τ 15 = .d (.int .i64 (I6 R).length) ∧ τ 16 = .d (.int .i64 k)
theorem a5Y (R : List Chg) (d : D) (hd : StD R d) (hG : a0l R) : Ctr prog 30 [.d d] (.own true 48 ((Z7 R).map a1O)) := by
  have hdi := a1Z R d hd hG; have hor : ∀ g N bs clk, List.Perm N (a2b R) → _ := fun g N bs clk hN => b0v R d hG g N bs clk hN
  have hen : ∀ id s, id ∈ B8 R → _ := fun id s h => b4y R d id s hd hG h
  have hll := a0A R; have hlt := hG.lt; have hol := a4D (R := R); obtain ⟨u1, R1, bs1, c1, u2, M, bs2, c2, rfl, hR1, hM⟩ := hd.open; have hre := a2Q u1 R1 bs1 c1 u2 M bs2 c2; obtain ⟨sd, hsd⟩ : ∃ sd, U3 u1 R1 bs1 c1 u2 M bs2 c2 = .ref sd := ⟨_, rfl⟩; rw [hsd] at hdi hor hre hen ⊢; refine fv (fun i => i == 5000011 || i == 2 || i == 4) func30 (by kernel_rfl) rfl rfl rfl rfl rfl ?_; simp -implicitDefEqProofs; refine A3 hre ?_; simp -implicitDefEqProofs; refine b1O hdi ?_; rintro r hs' ⟨rfl, g, N, bs, clk, hN, rfl⟩; refine ⟨rfl, ?_⟩; have hor := hor g N bs clk hN; simp only [smD] at hor; simp -implicitDefEqProofs [smD]; refine A3 hor ?_; simp -implicitDefEqProofs [smD]; refine H3 (I6 R).length (EsI R (.ref sd) g N bs clk) ⟨by simp, by simp [smD], by simp, by simp, by simp, by simp⟩ ?_; rintro k τ hk ⟨g0, g3, g4, g14, g15, g16⟩; rcases Nat.lt_or_ge k (I6 R).length with hlt | hlt
  · have hlt' : (k : Int) < (I6 R).length := (by omega); have hin : (I6 R)[k] ∈ B8 R := b4r.1 (gmm _); have hge := a2h N (I6 R)[k]; rw [a2U hN, if_pos hin] at hge; have he := hen (I6 R)[k] (G3 R (I6 R)[k]) hin; have htk : ((I6 R).take (k + 1)).map (fun id => a1O (a1S R id)) = ((I6 R).take k).map (fun id => a1O (a1S R id)) ++ [a1O (a1S R (I6 R)[k])] := by rw [G5 hlt, List.map_append]; rfl
    have htl : (((I6 R).take k).map (fun id => a1O (a1S R id))).length ≤ 100000 := by simp; omega
    generalize ((I6 R).take k).map (fun id => a1O (a1S R id)) = T at *; simp -implicitDefEqProofs [g0, g3, g4, g14, g15, g16, hlt, hlt', smD]; refine a0d X4 (F7 _) (Q7 N) Tryz.zd_9 hge ?_; simp -implicitDefEqProofs [g0, g3, g4, g14, g15, g16, hlt, hlt', smD]; refine A3 he ?_; simp -implicitDefEqProofs [g0, g3, g4, g14, g15, g16, hlt, hlt', smD]; exact ⟨rfl, by omega, by omega, by omega, E8 hlt ⟨by simp [g0], by simp [g3, smD], by rw [htk]; simp [a1O, a1S], by simp [g14], by simp [g15], by simp⟩⟩
  · have hlt' : ¬ (k : Int) < (I6 R).length := (by omega); have hlt'' : ¬ k < (I6 R).length := (by omega); simp -implicitDefEqProofs [g0, g3, g4, g14, g15, g16, hlt', hlt'', Z7]; rw [ttl (by simpa using hlt)]; simp [Function.comp_def]
theorem b8J (s : Str) : List.length (W0 s).1 ≤ 5000 := by
  cases h : M0 s with
  | none => simp [W0, h]
  | some l =>
    cases l with
    | nil => simp [W0, h]
    | cons p l =>
      obtain ⟨t, h1, h2⟩ := b6p h; rw [h1]; exact b9w (a6G.2 ⟨_, h2⟩)
def a1I (R : List Chg) (id : Str) : Str := (W0 (G3 R id)).1
def a8H (R : List Chg) (X : List Str) (id : Str) : Bool := decide (1 < a3y (a1I R id)) && !decide (a1I R id ∈ X)
def c1W (X : List Str) (s : Str) : List Str := if s ∈ X then X else X ++ [s]
def a1g (R : List Chg) (p : List Str × List Str) (id : Str) : List Str × List Str := if a8H R p.1 id then (p.1, p.2 ++ [id]) else (c1W p.1 (G3 R id), p.2)
def U8 (R : List Chg) (l : List Str) : List Str × List Str := l.foldl (a1g R) ([], [])
def a0m (R : List Chg) : List Str := I4 (U8 R (I6 R)).2
theorem b0P (R : List Chg) (l : List Str) (id : Str) : U8 R (l ++ [id]) = a1g R (U8 R l) id := by simp [U8]
theorem a7B (R : List Chg) (l : List Str) : (U8 R l).2.length ≤ l.length := by
  refine U2 (P := fun l => (U8 R l).2.length ≤ l.length) (by simp [U8]) (fun l id ih => ?_) l; rw [b0P]; unfold a1g; split
  · simp; omega
  · simp; omega
def a1d (X : List Str) : List (D × D) := X.map fun s => (D.str s, D.bool true)
theorem b8F (X : List Str) (k : Str) : M1 (a1d X) (.str k) = if k ∈ X then some (.bool true) else none := by
  induction X with
  | nil => rfl
  | cons x X ih =>
    simp only [M1, a1d, List.map_cons, List.find?_cons, K8] at ih ⊢; by_cases h : x = k
    · simp [h]
    · simp only [decide_eq_false h]; rw [ih]; have : ¬ k = x := fun e => h e.symm
      simp [this]
theorem b8G (X : List Str) (k : Str) : R5 (a1d X) (.str k) (.bool true) = a1d (c1W X k) := by
  unfold R5 c1W; by_cases h : k ∈ X
  · rw [if_pos h, if_pos (by simp [a1d, K8, h])]; unfold a1d; rw [List.map_map]; refine List.map_congr_left fun x _ => ?_
    simp only [Function.comp_apply, K8]; exact ite_self _
  · rw [if_neg h, if_neg (by
      simp only [a1d, List.any_map, List.any_eq_true, Function.comp_apply, K8, decide_eq_true_eq, not_exists, not_and]; rintro x hx rfl; exact h hx)]
    simp [a1d]
theorem b3T : Program.underlying prog 95 = some (.map 9 4) := by kernel_rfl
def OrI (R : List Chg) (sd : D) (g : Nat) (N : SM) (bs : List Nat) (clk : Nat) (g2 : Nat) (k : Nat) (τ : St) : Prop := τ 3 = .d (smD g N bs clk) ∧ τ 4 = .d (.raw (.map (some g2))) ∧ τ 5 = .own true 9 ((U8 R ((I6 R).take k)).2.map .str) ∧ τ 18 = .own false 9 ((I6 R).map .str) ∧ τ 19 = .d (.int .i64 (I6 R).length) ∧ τ 20 = .d (.int .i64 k) ∧
  τ 1000000 = .hm (.map (some g2)) 9 (a1d (U8 R ((I6 R).take k)).1) none
theorem a5U (R : List Chg) (d : D) (hd : StD R d) (hG : a0l R) : Ctr prog 29 [.d d] (.own true 9 ((a0m R).map .str)) := by
  have hdi := a1Z R d hd hG; have hor : ∀ g N bs clk, List.Perm N (a2b R) → _ := fun g N bs clk hN => b0v R d hG g N bs clk hN
  have hll := a0A R; have hlt := hG.lt; have hol := a4D (R := R); obtain ⟨u1, R1, bs1, c1, u2, M, bs2, c2, rfl, hR1, hM⟩ := hd.open; have hre := a2Q u1 R1 bs1 c1 u2 M bs2 c2; obtain ⟨sd, hsd⟩ : ∃ sd, U3 u1 R1 bs1 c1 u2 M bs2 c2 = .ref sd := ⟨_, rfl⟩; rw [hsd] at hdi hor hre ⊢; refine fv (fun i => i == 5000014 || i == 2 || i == 5 || i == 49 || i == 3000050) func29 (by kernel_rfl) rfl rfl rfl rfl rfl ?_; simp -implicitDefEqProofs; refine A3 hre ?_; simp -implicitDefEqProofs; refine b1O hdi ?_; rintro r hs' ⟨rfl, g, N, bs, clk, hN, rfl⟩; refine ⟨rfl, ?_⟩; have hor := hor g N bs clk hN; simp only [smD] at hor; simp -implicitDefEqProofs [smD]; refine b1d 9 1000000 (by simp) (fun g2 => ?_); simp -implicitDefEqProofs [smD]; refine A3 hor ?_; simp -implicitDefEqProofs [smD]; refine H3 (I6 R).length (OrI R (.ref sd) g N bs clk g2) ⟨by simp [smD], by simp, by simp [U8], by simp, by simp, by simp, by simp [U8, a1d]⟩ ?_; rintro k τ hk ⟨g3, g4, g5, g18, g19, g20, gB⟩; rcases Nat.lt_or_ge k (I6 R).length with hlt | hlt
  · have hlt' : (k : Int) < (I6 R).length := (by omega); obtain ⟨id, hid⟩ : ∃ id, (I6 R)[k] = id := ⟨_, rfl⟩; have hin : id ∈ B8 R := by rw [← hid]; exact b4r.1 (gmm _)
    have hge := a2h N id; rw [a2U hN, if_pos hin] at hge; have hsn := b0P R ((I6 R).take k) id; rw [← hid, ← G5 hlt, hid] at hsn; have hol := a7B R ((I6 R).take k); rw [List.length_take] at hol; have c1 := b8A (G3 R id) (b2t (hG.name id hin)); obtain ⟨b, hb⟩ : ∃ b, (W0 (G3 R id)).2 = b := ⟨_, rfl⟩; have hpl := b8J (G3 R id); have c2 := b9j (a1I R id) (by unfold a1I; omega); have hpp : (W0 (G3 R id)).1 = a1I R id := rfl; rw [hpp, hb] at c1; have hmg := b8F (U8 R ((I6 R).take k)).1 (a1I R id); have hms := b8G (U8 R ((I6 R).take k)).1 (G3 R id); have hq : a8H R (U8 R ((I6 R).take k)).1 id = (decide (1 < a3y (a1I R id)) && !decide (a1I R id ∈ (U8 R ((I6 R).take k)).1)) := rfl; unfold a1g at hsn; generalize U8 R ((I6 R).take k) = T at *; rcases Classical.em (1 < a3y (a1I R id)) with h1 | h1
    · have h1' : (1 : Int) < a3y (a1I R id) := (by omega); rcases Classical.em (a1I R id ∈ T.1) with h2 | h2
      · rw [if_pos h2] at hmg; simp only [h1, h2, decide_true, Bool.not_true, Bool.and_false] at hq; simp only [hq, Bool.false_eq_true, if_false] at hsn; simp -implicitDefEqProofs [g3, g4, g5, g18, g19, g20, hlt, hlt', smD, hid]; refine a0d X4 (F7 _) (Q7 N) Tryz.zd_9 hge ?_; simp -implicitDefEqProofs [g3, g4, g5, g18, g19, g20, hlt, hlt', smD, hid]; refine A3 c1 ?_; simp -implicitDefEqProofs [g3, g4, g5, g18, g19, g20, hlt, hlt', smD, hid]; refine A3 c2 ?_; simp -implicitDefEqProofs [g3, g4, g5, g18, g19, g20, hlt, hlt', smD, h1, h1']; refine a1b (m := a1d T.1) (E := none) 1000000 (by omega) b3T (by simp [gB]) (F7 _) Tryz.zd_4 hmg ?_; simp -implicitDefEqProofs [g3, g4, g5, g18, g19, g20, hlt, hlt', smD, h1, h1']; refine a0d X4 (F7 _) (Q7 N) Tryz.zd_9 hge ?_; simp -implicitDefEqProofs [g3, g4, g5, g18, g19, g20, hlt, hlt', smD, h1, h1']; refine a5Z (m := a1d T.1) (E := none) 1000000 b3T (by simp [gB]) (F7 _) _ (List.Perm.refl _) ?_; rw [hms]; simp -implicitDefEqProofs [g3, g4, g5, g18, g19, g20, hlt, hlt', smD, h1, h1']; exact ⟨by omega, E8 hlt ⟨by simp [g3, smD], by simp [g4], by simp [g5, hsn], by simp [g18], by simp [g19], by simp, by simp [hsn]⟩⟩
      · rw [if_neg h2] at hmg; simp only [h1, h2, decide_true, decide_false, Bool.not_false, Bool.and_true] at hq; simp only [hq, if_true] at hsn; simp -implicitDefEqProofs [g3, g4, g5, g18, g19, g20, hlt, hlt', smD, hid]; refine a0d X4 (F7 _) (Q7 N) Tryz.zd_9 hge ?_; simp -implicitDefEqProofs [g3, g4, g5, g18, g19, g20, hlt, hlt', smD, hid]; refine A3 c1 ?_; simp -implicitDefEqProofs [g3, g4, g5, g18, g19, g20, hlt, hlt', smD, hid]; refine A3 c2 ?_; simp -implicitDefEqProofs [g3, g4, g5, g18, g19, g20, hlt, hlt', smD, h1, h1']; refine a1b (m := a1d T.1) (E := none) 1000000 (by omega) b3T (by simp [gB]) (F7 _) Tryz.zd_4 hmg ?_; simp -implicitDefEqProofs [g3, g4, g5, g18, g19, g20, hlt, hlt', smD, h1, h1']; exact ⟨by omega, by omega, by omega, E8 hlt ⟨by simp [g3, smD], by simp [g4], by simp [hsn], by simp [g18], by simp [g19], by simp, by simp [gB, hsn]⟩⟩
    · have h1' : ¬ (1 : Int) < a3y (a1I R id) := (by omega); simp only [h1, decide_false, Bool.false_and] at hq; simp only [hq, Bool.false_eq_true, if_false] at hsn; simp -implicitDefEqProofs [g3, g4, g5, g18, g19, g20, hlt, hlt', smD, hid]; refine a0d X4 (F7 _) (Q7 N) Tryz.zd_9 hge ?_; simp -implicitDefEqProofs [g3, g4, g5, g18, g19, g20, hlt, hlt', smD, hid]; refine A3 c1 ?_; simp -implicitDefEqProofs [g3, g4, g5, g18, g19, g20, hlt, hlt', smD, hid]; refine A3 c2 ?_; simp -implicitDefEqProofs [g3, g4, g5, g18, g19, g20, hlt, hlt', smD, h1, h1']; refine a0d X4 (F7 _) (Q7 N) Tryz.zd_9 hge ?_; simp -implicitDefEqProofs [g3, g4, g5, g18, g19, g20, hlt, hlt', smD, h1, h1']; refine a5Z (m := a1d T.1) (E := none) 1000000 b3T (by simp [gB]) (F7 _) _ (List.Perm.refl _) ?_; rw [hms]; simp -implicitDefEqProofs [g3, g4, g5, g18, g19, g20, hlt, hlt', smD, h1, h1']; exact ⟨by omega, E8 hlt ⟨by simp [g3, smD], by simp [g4], by simp [g5, hsn], by simp [g18], by simp [g19], by simp, by simp [hsn]⟩⟩
  · have hlt' : ¬ (k : Int) < (I6 R).length := (by omega); have hlt'' : ¬ k < (I6 R).length := (by omega); rw [ttl (by simpa using hlt)] at g5 gB; have c1 := b2d (U8 R (I6 R)).2 (by have := a7B R (I6 R); omega); have e : I4 (U8 R (I6 R)).2 = a0m R := rfl; rw [e] at c1; simp -implicitDefEqProofs [g3, g4, g5, g18, g19, g20, hlt', hlt'']; refine b8E c1 ?_; simp -implicitDefEqProofs [g3, g4, g5, g18, g19, g20, hlt', hlt'']
theorem a2m (l m : List Str) (hl : l.length < 1000000) (hm : m.length < 1000000) : Ctr prog 38 [.d (C6 l), .d (C6 m)] (.d (.bool (decide (l = m)))) := by
  refine fv (fun _ => false) func38 (by kernel_rfl) rfl rfl rfl rfl rfl ?_; by_cases hlm : l.length = m.length
  · simp -implicitDefEqProofs [C6, hlm]; refine H3 m.length (fun k τ => τ 0 = .d (C6 l) ∧ τ 1 = .d (C6 m) ∧ τ 5 = .d (.int .i64 k) ∧ l.take k = m.take k) (by simp [C6, hlm]) ?_; rintro k τ hk ⟨h0, h1, h5, ht⟩; by_cases hlt : k < m.length
    · have hlt' : k < l.length := (by omega); by_cases he : l[k] = m[k]
      · simp -implicitDefEqProofs [h0, h1, h5, C6, hlm, hlt, hlt', he]; refine ⟨by omega, E8 hlt ⟨by simp [h0, C6], by simp [h1, C6], by simp, ?_⟩⟩; rw [G5 hlt, G5 hlt', ht, he]
      · simp -implicitDefEqProofs [h0, h1, h5, C6, hlm, hlt, hlt', he]; rintro rfl; exact he rfl
    · rw [ttl (by omega), ttl (by omega)] at ht; simp -implicitDefEqProofs [h0, h1, h5, C6, hlm, hlt, ht]; try omega
  · have hlm' : ¬ (l.length : Int) = m.length := (by omega); simp -implicitDefEqProofs [C6, hlm']; rintro rfl; exact hlm rfl
theorem c6s (l : List Chg) (hl : l.length < 1000000) : Ctr prog 20 [.d (H6 l)] (.own true 9 ((l.map idC).map .str)) := by
  refine fv (fun i => i == 3 || i == 2) func20 (by kernel_rfl) rfl rfl rfl rfl rfl ?_; simp -implicitDefEqProofs; refine H3 l.length (fun k τ => τ 0 = .d (H6 l) ∧ τ 3 = .own true 9 (((l.take k).map idC).map .str) ∧ τ 4 = .d (.int .i64 k)) ⟨by simp, by simp, by simp⟩ ?_; rintro k τ hk ⟨h0, h3, h4⟩; by_cases hlt : k < l.length
  · have hlt' : (k : Int) < l.length := (by omega); obtain ⟨c, hx⟩ : ∃ c, l[k] = c := ⟨_, rfl⟩; have htk : ((l.take (k + 1)).map idC).map D.str = ((l.take k).map idC).map .str ++ [.str (idC c)] := by rw [G5 hlt, hx, List.map_append, List.map_append]; rfl
    have htl : (((l.take k).map idC).map D.str).length ≤ 1000000 := by simp only [List.length_map, List.length_take]; omega
    have ec : A8 c = .agg [B6 c.1, .int .i64 (opC c), .str (idC c), .str c.2.2.2.1, .str c.2.2.2.2.1, .str c.2.2.2.2.2] := rfl; generalize ((l.take k).map idC).map D.str = T at *; simp -implicitDefEqProofs [h0, h3, h4, H6, hlt, hlt', hx, ec, A4]; refine ⟨by omega, by omega, by omega, E8 hlt ⟨by simp [h0, H6], by simp; simpa using htk.symm, by simp⟩⟩
  · rw [ttl (by omega)] at h3; simp -implicitDefEqProofs [h0, h3, h4, H6, hlt]
def smC (c : Chg) : Bool := decide (List.length c.2.2.1 ≤ 100) && (decide (List.length c.2.2.2.1 ≤ 300) && (decide (List.length c.2.2.2.2.1 ≤ 100) && decide (List.length c.2.2.2.2.2 ≤ 300)))
def a2A (l : List Chg) : Bool := l.all smC && decide (l.length ≤ 14)
theorem b5u (l : List Chg) (hl : l.length ≤ 140737488351232) : Ctr prog 9 [.d (H6 l)] (.d (.bool (a2A l))) := by
  refine fv (fun i => false) func9 (by kernel_rfl) rfl rfl rfl rfl rfl ?_; obtain ⟨R, hR⟩ : ∃ R, a2A l = R := ⟨_, rfl⟩; rw [hR]; simp -implicitDefEqProofs; refine H3 l.length (fun k τ => τ 0 = .d (H6 l) ∧ τ 3 = .d (.int .i64 k) ∧ ((l.drop k).all smC && decide (l.length ≤ 14)) = R) ⟨by simp, by simp, by simpa [a2A] using hR⟩ ?_; rintro k τ hk ⟨h0, h3, hn⟩; by_cases hlt : k < l.length
  · have hlt' : (k : Int) < l.length := (by omega); obtain ⟨x, hx⟩ : ∃ x, l[k] = x := ⟨_, rfl⟩; rw [List.drop_eq_getElem_cons hlt, List.all_cons, hx] at hn; obtain ⟨n, op, id, nm, at_, va_⟩ := x; have ec : A8 (n, op, id, nm, at_, va_) = .agg [B6 n, .int .i64 op, .str id, .str nm, .str at_, .str va_] := rfl; simp only [smC] at hn; have hF : ∀ (s : Str) (m : Nat), (m : Int) < (List.length s : Nat) → decide (List.length s ≤ m) = false := fun s m h => by simp only [decide_eq_false_iff_not]; omega
    have hT : ∀ (s : Str) (m : Nat), ¬ (m : Int) < (List.length s : Nat) → decide (List.length s ≤ m) = true := fun s m h => by simp only [decide_eq_true_eq]; omega
    rcases Classical.em (((100 : Nat) : Int) < (List.length id : Nat)) with q0 | q0
    · rw [hF id 100 q0] at hn; simp only [Bool.and_false, Bool.false_and, Bool.true_and] at hn; have hR0 : R = false := hn.symm; subst hR0; have q0' : (100 : Int) < (List.length id : Nat) := q0; simp -implicitDefEqProofs [h0, h3, H6, hlt, hlt', hx, ec, A4, q0']
    · rw [hT id 100 q0] at hn; have q0' : ¬ (100 : Int) < (List.length id : Nat) := q0; simp only [Bool.true_and] at hn; rcases Classical.em (((300 : Nat) : Int) < (List.length nm : Nat)) with q1 | q1
      · rw [hF nm 300 q1] at hn; simp only [Bool.and_false, Bool.false_and, Bool.true_and] at hn; have hR0 : R = false := hn.symm; subst hR0; have q1' : (300 : Int) < (List.length nm : Nat) := q1; simp -implicitDefEqProofs [h0, h3, H6, hlt, hlt', hx, ec, A4, q0', q1']
      · rw [hT nm 300 q1] at hn; have q1' : ¬ (300 : Int) < (List.length nm : Nat) := q1; simp only [Bool.true_and] at hn; rcases Classical.em (((100 : Nat) : Int) < (List.length at_ : Nat)) with q2 | q2
        · rw [hF at_ 100 q2] at hn; simp only [Bool.and_false, Bool.false_and, Bool.true_and] at hn; have hR0 : R = false := hn.symm; subst hR0; have q2' : (100 : Int) < (List.length at_ : Nat) := q2; simp -implicitDefEqProofs [h0, h3, H6, hlt, hlt', hx, ec, A4, q0', q1', q2']
        · rw [hT at_ 100 q2] at hn; have q2' : ¬ (100 : Int) < (List.length at_ : Nat) := q2; simp only [Bool.true_and] at hn; rcases Classical.em (((300 : Nat) : Int) < (List.length va_ : Nat)) with q3 | q3
          · rw [hF va_ 300 q3] at hn; simp only [Bool.and_false, Bool.false_and, Bool.true_and] at hn; have hR0 : R = false := hn.symm; subst hR0; have q3' : (300 : Int) < (List.length va_ : Nat) := q3; simp -implicitDefEqProofs [h0, h3, H6, hlt, hlt', hx, ec, A4, q0', q1', q2', q3']
          · rw [hT va_ 300 q3] at hn; have q3' : ¬ (300 : Int) < (List.length va_ : Nat) := q3; simp only [Bool.true_and] at hn; simp -implicitDefEqProofs [h0, h3, H6, hlt, hlt', hx, ec, A4, q0', q1', q2', q3']; exact ⟨by omega, E8 hlt ⟨by simp [h0, H6], by simp, hn⟩⟩
  · rw [List.drop_eq_nil_of_le (by omega), List.all_nil, Bool.true_and] at hn; have hlt' : ¬ (k : Int) < l.length := (by omega); simp -implicitDefEqProofs [h0, h3, H6, hlt, hlt']; rw [← hn]; rw [Bool.eq_iff_iff, decide_eq_true_eq, decide_eq_true_eq]; omega
def a3o : Str := [109, 97, 105, 108]
def atC (t op : Int) (id nm v : Str) : Chg := if op = 4 ∨ op = 5 then ((t, 0, 0), op, id, nm, a3o, v) else ((t, 0, 0), op, id, nm, [], [])
theorem a8M (t op : Int) (id nm v : Str) : Ctr prog 37 [.d (.int .i64 t), .d (.int .i64 op), .d (.str id), .d (.str nm), .d (.str v)] (.d (A8 (atC t op id nm v))) := by
  have hE : ∀ a b : Str, A8 ((t, 0, 0), op, id, nm, a, b) = .agg [.agg [.int .i64 t, .int .i64 0, .int .i64 0], .int .i64 op, .str id, .str nm, .str a, .str b] := fun _ _ => rfl
  have hA : atC t op id nm v = if op = 4 ∨ op = 5 then ((t, 0, 0), op, id, nm, a3o, v) else ((t, 0, 0), op, id, nm, [], []) := rfl
  generalize atC t op id nm v = X at *; refine N7 (rv := .cell 10 35) (rs := []) (r := .d (A8 X)) (ys := []) (fun i => false) (by kernel_rfl) func37 (by kernel_rfl) rfl rfl (by simp) (nbl rfl) (by kernel_rfl) rfl rfl ?_; rcases Classical.em (op = 4) with h4 | h4
  · rw [if_pos (.inl h4)] at hA; subst hA; rw [hE]; simp -implicitDefEqProofs [h4, a3o]
  · rcases Classical.em (op = 5) with h5 | h5
    · rw [if_pos (.inr h5)] at hA; subst hA; rw [hE]; simp -implicitDefEqProofs [h5, a3o]
    · rw [if_neg (by simp [h4, h5])] at hA; subst hA; rw [hE]; simp -implicitDefEqProofs [h4, h5]
abbrev b8q := Str × List Att
structure b0c (e : b8q) : Prop where
  normal : G0 e.2 = e.2
  fit : a5j e.2
def Z9 (l : List b8q) : D := .sl (l.map a1O)
def SmI (a b : List b8q) (k : Nat) (τ : St) : Prop := τ 0 = .d (Z9 a) ∧ τ 1 = .d (Z9 b) ∧ τ 5 = .d (.int .i64 k) ∧ a.take k = b.take k
theorem b3t (a b : List b8q) (ha : ∀ x ∈ a, b0c x) (hb : ∀ x ∈ b, b0c x) (hal : a.length < 1000000) (hbl : b.length < 1000000) : Ctr prog 47 [.d (Z9 a), .d (Z9 b)] (.d (.bool (decide (a = b)))) := by
  refine fv (fun _ => false) func47 (by kernel_rfl) rfl rfl rfl rfl rfl ?_; by_cases hlm : a.length = b.length
  · simp -implicitDefEqProofs [Z9, hlm]; refine H3 b.length (SmI a b) ⟨by simp [Z9, hlm], by simp [Z9], by simp, by simp⟩ ?_; rintro k τ hk ⟨h0, h1, h5, ht⟩; by_cases hlt : k < b.length
    · have hlt' : k < a.length := (by omega); have hB1 := ha _ (gmm hlt'); have hB2 := hb _ (gmm hlt); have hN : ∀ {l : List Att}, G0 l = l → a5j l → b1H (G0 l) := fun h1 h2 => by rw [h1]; exact h2.1
      have c1 := b9t (a[k]).2 (b[k]).2 hB1.fit hB2.fit (hN hB1.normal hB1.fit) (hN hB2.normal hB2.fit); rw [hB1.normal, hB2.normal] at c1; have hne : a[k] ≠ b[k] → a ≠ b := fun h e => h (by subst e; rfl)
      have ht2 : a[k] = b[k] → a.take (k + 1) = b.take (k + 1) := fun h => by rw [G5 hlt, G5 hlt', ht, h]
      generalize hx : a[k] = x at *; generalize hy : b[k] = y at *; obtain ⟨xi, xl⟩ := x; obtain ⟨yi, yl⟩ := y; have hA : ∀ (i : Str) (l : List Att), a1O (i, l) = .agg [.str i, .sl (l.map att)] := fun _ _ => rfl
      simp only [H4] at c1; by_cases q1 : xi = yi
      · subst q1; by_cases q3 : xl = yl
        · subst q3; simp only [decide_true] at c1; simp -implicitDefEqProofs [h0, h1, h5, Z9, hlm, hlt, hlt', hx, hy, hA]; refine E0 c1 ?_; simp -implicitDefEqProofs [h0, h1, h5, Z9, hlm, hlt, hlt', hx, hy, hA]; refine ⟨by omega, E8 hlt ⟨by simp [h0, Z9], by simp [h1, Z9], by simp, ht2 rfl⟩⟩
        · have hab : a ≠ b := hne (fun e => q3 (by simpa using e)); simp only [q3, decide_false] at c1; simp -implicitDefEqProofs [h0, h1, h5, Z9, hlm, hlt, hlt', hx, hy, hA]; refine E0 c1 ?_; simp -implicitDefEqProofs [h0, h1, h5, Z9, hlm, hlt, hlt', hx, hy, hA, hab]
      · have hab : a ≠ b := hne (fun e => q1 (by simp at e; exact e.1)); simp -implicitDefEqProofs [h0, h1, h5, Z9, hlm, hlt, hlt', hx, hy, hA, q1]; exact hab
    · rw [ttl (by omega), ttl (by omega)] at ht; simp -implicitDefEqProofs [h0, h1, h5, Z9, hlm, hlt, ht]; try omega
  · have hlm' : ¬ (a.length : Int) = b.length := (by omega); simp -implicitDefEqProofs [Z9, hlm']; rintro rfl; exact hlm rfl
theorem X6 {P : Program} {f : FuncId} {args : List AV} {e : TypeId} {l : List D} (h : Ctr P f args (.own true e l)) : Ctr P f args (.d (.sl l)) := by
  refine ⟨h.1, fun w L og vals hlok hgl hog hv => (h.2 w L og vals hlok hgl hog hv).mono ?_⟩; rintro x w' ⟨v, L', og', rfl, hgr, hlok', hold', hog', hrc⟩; obtain ⟨L2, hrc2, hlok2, hold2, hext2⟩ := hrc.demote false hlok' (fun g hg => (hog' g hg).1); refine ⟨v, L2, none, rfl, hgr, hlok2, fun c q hc hne => ?_, (fun g hg => by cases hg), D9.at_ (P := P) hrc2⟩; refine (hold2 c q (fun e => ?_)).trans (hold' c q hc hne); rcases (hog' c e.symm).2 with h1 | h1
  · omega
  · exact hne h1
structure b8d (R1 R2 : List Chg) : Prop where
  live : B8 R1 = B8 R2
  conf : a0p R1 = a0p R2
  orph : a0m R1 = a0m R2
  ents : Z7 R1 = Z7 R2
  entry : ∀ id, N6 R1 id = N6 R2 id
theorem c3y : b0c ([], []) := ⟨by decide, ⟨⟨by simp, by simp⟩, by simp [I2]⟩⟩
theorem b4A {R : List Chg} (hG : a0l R) (id : Str) : b0c (a1S R id) := by
  refine ⟨b6s _, b6o (b4a (hG.vals id).1 (hG.vals id).2)⟩
theorem c3h {R : List Chg} (hG : a0l R) (id : Str) : b0c (N6 R id).1 := by
  unfold N6; split
  · exact b4A hG id
  · exact c3y
theorem c2t (R1 R2 : List Chg) (d1 d2 : D) (h1 : StD R1 d1) (h2 : StD R2 d2) (hG1 : a0l R1) (hG2 : a0l R2) (hS : b8d R1 R2) (l : List Str) (hl : l.length < 1000000) :
    Ctr prog 22 [.d d1, .d d2, .d (C6 l)] (.d (.bool true)) := by
  have hl1 := hG1.lt; have hl2 := hG2.lt; have hll := a0A R1; have a1 := X6 (a3e R1 d1 h1 hG1.lt); have a2 := X6 (a3e R2 d2 h2 hG2.lt); have b1 := X6 (a2o R1 d1 h1 hG1); have b2 := X6 (a2o R2 d2 h2 hG2); have o1 := X6 (a5U R1 d1 h1 hG1); have o2 := X6 (a5U R2 d2 h2 hG2); have e1 := X6 (a5Y R1 d1 h1 hG1); have e2 := X6 (a5Y R2 d2 h2 hG2); have n1 : ∀ id, _ := fun id => a6o R1 d1 id h1 hG1
  have n2 : ∀ id, _ := fun id => a6o R2 d2 id h2 hG2
  have hcl : (a0p R1).length < 1000000 := by
    have : (a0p R1).length ≤ (B8 R1).length := List.length_filter_le _ _; omega
  have hol : (a0m R1).length < 1000000 := by
    have h3 := a7B R1 (I6 R1); have h4 := a4D (R := R1); unfold a0m I4; rw [List.length_mergeSort]; omega
  have hel : (Z7 R1).length < 1000000 := by
    have h4 := a4D (R := R1); unfold Z7; rw [List.length_map]; omega
  have hnS : ∀ id, b0c (N6 R1 id).1 := c3h hG1; have heB : ∀ x ∈ Z7 R1, b0c x := fun x hx => by
    obtain ⟨id, _, rfl⟩ := List.mem_map.1 hx; exact b4A hG1 id
  rw [← hS.live] at a2; rw [← hS.conf] at b2; rw [← hS.orph] at o2; rw [← hS.ents] at e2; simp only [← hS.entry] at n2; have c1 := a2m (B8 R1) (B8 R1) (by omega) (by omega); have c2 := a2m (a0p R1) (a0p R1) hcl hcl; have c3 := a2m (a0m R1) (a0m R1) hol hol; have c4 := b3t (Z7 R1) (Z7 R1) heB heB hel hel; have c5 : ∀ id, _ := fun id => b3t [(N6 R1 id).1] [(N6 R1 id).1] (by simpa using hnS id) (by simpa using hnS id) (by simp) (by simp)
  simp only [decide_true, C6, Z9] at c1 c2 c3 c4 c5; obtain ⟨x1, hx1, hy1⟩ : ∃ x, d1 = x ∧ StD R1 x := ⟨_, rfl, h1⟩; obtain ⟨x2, hx2, hy2⟩ : ∃ x, d2 = x ∧ StD R2 x := ⟨_, rfl, h2⟩; obtain ⟨y1, rfl⟩ : ∃ y, d1 = .ref y := by
    obtain ⟨u1, R1', bs1, c1, u2, M, bs2, c2, rfl, _⟩ := h1.open; exact ⟨_, rfl⟩
  obtain ⟨y2, rfl⟩ : ∃ y, d2 = .ref y := by
    obtain ⟨u1, R1', bs1, c1, u2, M, bs2, c2, rfl, _⟩ := h2.open; exact ⟨_, rfl⟩
  clear h1 h2 hx1 hy1 hx2 hy2 hnS heB; generalize B8 R1 = V1 at *; generalize a0p R1 = V2 at *; generalize a0m R1 = V3 at *; generalize Z7 R1 = V4 at *; refine fv (fun i => false) func22 (by kernel_rfl) rfl rfl rfl rfl rfl ?_; simp -implicitDefEqProofs; refine A3 a1 ?_; simp -implicitDefEqProofs; refine A3 a2 ?_; simp -implicitDefEqProofs; refine A3 c1 ?_; simp -implicitDefEqProofs; refine A3 b1 ?_; simp -implicitDefEqProofs; refine A3 b2 ?_; simp -implicitDefEqProofs; refine A3 c2 ?_; simp -implicitDefEqProofs; refine A3 o1 ?_; simp -implicitDefEqProofs; refine A3 o2 ?_; simp -implicitDefEqProofs; refine A3 c3 ?_; simp -implicitDefEqProofs; refine A3 e1 ?_; simp -implicitDefEqProofs; refine A3 e2 ?_; simp -implicitDefEqProofs; refine A3 c4 ?_; simp -implicitDefEqProofs; refine H3 l.length (fun k τ => τ 0 = .d (.ref y1) ∧ τ 1 = .d (.ref y2) ∧ τ 2 = .d (C6 l) ∧ τ 7 = .d (.int .i64 k)) ⟨by simp, by simp, by simp, by simp⟩ ?_; rintro k τ hk ⟨h0, h1, h2, h7⟩; rcases Nat.lt_or_ge k l.length with hlt | hlt
  · have hlt' : (k : Int) < l.length := (by omega); obtain ⟨id, hx⟩ : ∃ x, l[k] = x := ⟨_, rfl⟩; have n1 := n1 id; have n2 := n2 id; have c5 := c5 id; generalize N6 R1 id = p at *; obtain ⟨⟨s, a⟩, ok⟩ := p; have hE : a1O (s, a) = .agg [.str s, .sl (a.map att)] := rfl; have hE2 : a1a s a = .agg [.str s, .sl (a.map att)] := rfl; simp only [List.map_cons, List.map_nil, hE, hE2] at n1 n2 c5; simp -implicitDefEqProofs [h0, h1, h2, h7, C6, hlt, hlt', hx]; refine A3 n1 ?_; simp -implicitDefEqProofs [h0, h1, h2, h7, C6, hlt, hlt', hx]; refine A3 n2 ?_; simp -implicitDefEqProofs [h0, h1, h2, h7, C6, hlt, hlt', hx]; refine A3 c5 ?_; simp -implicitDefEqProofs [h0, h1, h2, h7, C6, hlt, hlt', hx]; exact ⟨by omega, E8 hlt ⟨by simp [h0], by simp [h1], by simp [h2, C6], by simp⟩⟩
  · have hlt' : ¬ (k : Int) < l.length := (by omega); have hlt'' : ¬ k < l.length := (by omega); simp -implicitDefEqProofs [h0, h1, h2, h7, C6, hlt', hlt'']
theorem a8S (s r m : Nat) (R : List Chg) (E : List Y6) : (stH s r m R E).all isH = true := by
  rw [List.all_eq_true]; intro x hx; simp only [stH, T9, List.mem_append, List.mem_flatMap, List.mem_cons, List.not_mem_nil, or_false] at hx; rcases hx with (rfl | rfl | rfl) | ⟨e, _, hx⟩
  · rfl
  · rfl
  · rfl
  · simp only [a2P, List.mem_cons, List.not_mem_nil, or_false] at hx; rcases hx with rfl | rfl <;> rfl
theorem a8L (s r m : Nat) (R : List Chg) (E : List Y6) : (stH s r m R E).length = 3 + 2 * E.length := by
  have : ∀ E : List Y6, (E.flatMap a2P).length = 2 * E.length := fun E => by
    induction E with
    | nil => rfl
    | cons e E ih => rw [List.flatMap_cons, List.length_append, ih]; simp [a2P]; omega
  simp [stH, T9, this]; omega
theorem b4L (R : List Chg) : (S5 R).length ≤ R.length := by
  refine U2 (P := fun R => (S5 R).length ≤ R.length) (Nat.le_refl _) (fun R c ih => ?_) R; rw [a4V]; unfold a4l; split
  · simp; omega
  · simp; omega
structure a6k (R : List Chg) : Prop where
  fit : ∀ c ∈ R, Q2 c
  ok : ∀ c ∈ R, I1 c = 0
  nd : R.Nodup
  few : R.length ≤ 4096
theorem b0m : a6k [] := ⟨by simp, by simp, List.nodup_nil, by simp⟩
theorem a6E {R : List Chg} (h : a6k R) {c : Chg} (hc : Q2 c) : a6k (G6 R c) := by
  unfold G6; split
  · rename_i hh
    refine ⟨fun x hx => ?_, fun x hx => ?_, ?_, ?_⟩
    · rcases List.mem_append.1 hx with hx | hx
      · exact h.fit x hx
      · rw [List.mem_singleton.1 hx]; exact hc
    · rcases List.mem_append.1 hx with hx | hx
      · exact h.ok x hx
      · rw [List.mem_singleton.1 hx]; exact hh.1
    · refine List.nodup_append.2 ⟨h.nd, by simp, fun a ha b hb => ?_⟩; rw [List.mem_singleton.1 hb]; rintro rfl; exact hh.2.1 ha
    · simp; omega
  · exact h
theorem b4E {R : List Chg} (h : a6k R) {s r m : Nat} {E : List Y6} (hE : a0c E = S5 R) : (stH s r m R E).length ≤ 500000 := by
  rw [a8L]; have h1 : E.length = (S5 R).length := by rw [← hE]; simp [a0c]
  have := b4L R; have := h.few; omega
def StF (σ : St) (B s : Nat) (R : List Chg) : Prop := a6k R ∧ ∃ r m E, a0c E = S5 R ∧ Fam σ B (stH s r m R E)
theorem StF.put {σ : St} {B s d : Nat} {R : List Chg} {x : AV} (h : StF σ B s R) (hd : d < B) : StF (Vw.put σ d x) B s R := by
  obtain ⟨hR, r, m, E, hE, hF⟩ := h; exact ⟨hR, r, m, E, hE, hF.put hd⟩
theorem StF.setv {σ : St} {B s d : Nat} {R : List Chg} {x : AV} (h : StF σ B s R) (hd : d < B) : StF (Vw.A9 σ d x) B s R := by
  obtain ⟨hR, r, m, E, hE, hF⟩ := h; exact ⟨hR, r, m, E, hE, hF.setv hd⟩
theorem StF.clean {σ : St} {B s : Nat} {R : List Chg} (h : StF σ B s R) (ds : List Nat) : StF (Vw.K0 ds σ) B s R := by
  obtain ⟨hR, r, m, E, hE, hF⟩ := h; exact ⟨hR, r, m, E, hE, hF.clean ds⟩
theorem b5L {σ : St} {d : Nat} {K : St → Prop} (B s : Nat) (hB : 1000000 ≤ B) (hd : d < 1000000) {R : List Chg} {c : Chg} (hF : StF σ B s R) (hc : Q2 c)
    (hk : ∀ τ ks, StF τ B s (G6 R c) → τ d = .d (.int .i64 (S6 R c)) → (∀ j, j < 1000000 → ks.contains j = false) → (∀ i, i < 1000000 → i ≠ d → τ i = F5 ks (E6 d (σ i))) →
      (∀ B2 hs2, Fam σ B2 hs2 → 1000000 ≤ B2 → (B2 + 1000000 ≤ B ∨ B + 1000000 ≤ B2) → Fam τ B2 hs2) → K τ) : a3g prog 13 [.d (.raw (va s)), .d (A8 c)] σ d K := by
  obtain ⟨hR, r, m, E, hE, hFam⟩ := hF; refine c6c B hB hd hFam (c2u s r m R E hE hR.fit c hc) (fun x hs' hp => ?_) (fun x hs' τ ks ls hp hF' h1 h2 h3 h4 => ?_)
  · obtain ⟨_, E', hE', rfl⟩ := hp; exact ⟨a8S _ _ _ _ _, b4E (a6E hR hc) hE'⟩
  · obtain ⟨rfl, E', hE', rfl⟩ := hp; refine hk τ ks ⟨a6E hR hc, r, m, E', hE', hF'⟩ ?_ h1 (fun i hi hne => ?_) h4
    · rw [h3 d hd, if_pos rfl]; rfl
    · rw [h3 i hi, if_neg hne]
def ofE : List Chg → List Chg → Int
  | _, [] => 0
  | R, c :: l => if S6 R c ≠ 0 then S6 R c else ofE (G6 R c) l
def ofR (R l : List Chg) : List Chg := l.foldl G6 R
def OfI (l : List Chg) (s : Nat) (e : Int) (k : Nat) (τ : St) : Prop := τ 4 = .d (.raw (va s)) ∧ τ 9 = .d (H6 l) ∧ τ 10 = .d (.int .i64 l.length) ∧ τ 11 = .d (.int .i64 k) ∧ ofE (ofR [] (l.take k)) (l.drop k) = e ∧ StF τ 1000000 s (ofR [] (l.take k))
theorem c7T (l : List Chg) (hl : l.length < 100000) (hf : ∀ c ∈ l, Q2 c) : H0 prog 17 [.d (H6 l)] [] (fun x hs' => (ofE [] l ≠ 0 ∧ x = .tup [.d .nilp, .d (.int .i64 (ofE [] l))] ∧ hs' = []) ∨ (ofE [] l = 0 ∧ ∃ s r m E, x = .tup [.d (.raw (va s)), .d (.int .i64 0)] ∧ a0c E = S5 (ofR [] l) ∧ hs' = stH s r m (ofR [] l) E)) := by
  refine a3k (rs := [.tmp 2, .tmp 3]) (fun i => i == 5000008 || i == 5000017) (by kernel_rfl) func17 (by kernel_rfl) rfl rfl (by simp) (nbl rfl) (by kernel_rfl) rfl ?_; simp -implicitDefEqProofs [A6]; refine M3 [] 1000000 c0p rfl rfl (by simp) ?_; rintro x hs' ⟨s, r, m, rfl, hh⟩; have hh2 : hs' = [.hb (va s) 65 (.agg [.raw (.map (some r)), .raw (.map (some m))]), .hm (.map (some r)) 35 (R7 []) none, .hm (.map (some m)) 9 (R9 []) none] := hh; clear hh; subst hh2; simp -implicitDefEqProofs [A6, D1, C0]; refine H3 l.length (OfI l s (ofE [] l)) ⟨by simp, by simp [H6], by simp, by simp, by simp [ofR], ?_⟩ ?_
  · refine ⟨b0m, r, m, [], rfl, rfl, by simp [a8L], fun i hi => ?_⟩; simp only [a8L, List.length_nil] at hi
    match i, hi with
    | 0, _ => simp [stH, T9]
    | 1, _ => simp [stH, T9, ofR]
    | 2, _ => simp [stH, T9]
  rintro k τ hk ⟨h4, h9, h10, h11, hE, hF⟩; by_cases hlt : k < l.length
  · have hlt' : (k : Int) < l.length := (by omega); obtain ⟨c, hx⟩ : ∃ c, l[k] = c := ⟨_, rfl⟩; have hc : Q2 c := by rw [← hx]; exact hf _ (gmm _)
    have ec : A8 c = .agg [B6 c.1, .int .i64 (opC c), .str (idC c), .str c.2.2.2.1, .str c.2.2.2.2.1, .str c.2.2.2.2.2] := rfl; rw [List.drop_eq_getElem_cons hlt, hx, ofE] at hE; have hR2 : ofR [] (l.take (k + 1)) = G6 (ofR [] (l.take k)) c := by rw [G5 hlt, hx]; simp [ofR]
    simp -implicitDefEqProofs [h4, h9, h10, h11, hlt, hlt', H6, hx, ec, A4]; rw [← ec]; refine b5L (R := ofR [] (l.take k)) 1000000 s (Nat.le_refl _) (by omega) (by (repeat (first | exact hF | refine StF.put ?_ (by omega) | refine StF.setv ?_ (by omega) | refine StF.clean ?_ _))) hc (fun τ2 ks hF2 hd2 hks hτ hoth => ?_); have t4 : τ2 4 = .d (.raw (va s)) := by rw [hτ 4 (by omega) (by omega)]; simp [h4, F5]
    have t9 : τ2 9 = .d (H6 l) := by rw [hτ 9 (by omega) (by omega)]; simp [h9, F5]
    have t10 : τ2 10 = .d (.int .i64 l.length) := by rw [hτ 10 (by omega) (by omega)]; simp [h10, F5]
    have t11 : τ2 11 = .d (.int .i64 k) := by rw [hτ 11 (by omega) (by omega)]; simp [h11, F5]
    by_cases he : S6 (ofR [] (l.take k)) c = 0
    · rw [if_neg (by simpa using he)] at hE; rw [← hR2] at hE hF2; rw [he] at hd2; simp -implicitDefEqProofs [t4, t9, t10, t11, hd2]; exact ⟨by omega, E8 hlt ⟨by simp [t4], by simp [t9], by simp [t10], by simp, hE, by (repeat (first | exact hF2 | refine StF.put ?_ (by omega) | refine StF.setv ?_ (by omega) | refine StF.clean ?_ _))⟩⟩
    · rw [if_pos he] at hE; rw [hE] at hd2 he; simp -implicitDefEqProofs [t4, t9, t10, t11, hd2, he]; exact ⟨[.d .nilp, .d (.int .i64 (ofE [] l))], [], by simp, by simp, by simp [W1, a1N], rfl, rfl⟩
  · have hlt' : ¬ (k : Int) < l.length := (by omega); rw [List.drop_eq_nil_of_le (by omega), ofE] at hE; rw [ttl (by omega)] at hF; obtain ⟨hB, r2, m2, E2, hE2, hF2⟩ := hF; simp -implicitDefEqProofs [h4, h9, h10, h11, hlt, hlt', H6]; have hP := (((hF2.put (x := .d (.bool false)) (d := 12) (by omega)).put (x := .d (.raw (va s))) (d := 22) (by omega)).put (x := .d (.raw (va s))) (d := 2) (by omega)).put (x := .d (.int .i64 0)) (d := 3) (by omega); exact ⟨[.d (.raw (va s)), .d (.int .i64 0)], W3 1000000 (stH s r2 m2 (ofR [] l) E2).length, a2v _ _, fun k hk => hP.isH k hk, by simp [W1, a1N], .inr ⟨hE.symm, s, rfl, r2, m2, E2, hE2, hP.map⟩⟩
def Oth (σ τ : St) (d : Nat) : Prop := ∃ ks : List Nat, (∀ j, j < 1000000 → ks.contains j = false) ∧ ∀ i, i < 1000000 → i ≠ d → τ i = F5 ks (E6 d (σ i))
theorem Oth.dd {σ τ : St} {d i : Nat} {y : D} (h : Oth σ τ d) (hi : i < 1000000) (hid : i ≠ d) (hy : σ i = .d y) : τ i = .d y := by
  obtain ⟨ks, _, h2⟩ := h; rw [h2 i hi hid, hy]; rfl
theorem Oth.bx {σ τ : St} {d i : Nat} {y : D} (h : Oth σ τ d) (hi : i < 1000000) (hid : i ≠ d) (hy : σ i = .box y) : τ i = .box y := by
  obtain ⟨ks, _, h2⟩ := h; rw [h2 i hi hid, hy]; rfl
theorem a8j {x : AV} (h : U4 x = true) (d : Nat) (ks : List Nat) : F5 ks (E6 d x) = x := by
  cases x <;> simp [U4] at h <;> rfl
theorem a3h {B n i : Nat} (hB : 1000000 ≤ B) (hi : i < 1000000) : i ∉ W3 B n := fun hm => by
  obtain ⟨j, _, hj⟩ := List.mem_map.1 hm; omega
theorem a6m {B B2 n i : Nat} (hn : n ≤ 500000) (hi : i < 500000) (h : B2 + 1000000 ≤ B ∨ B + 1000000 ≤ B2) : B2 + i ∉ W3 B n := fun hm => by
  obtain ⟨j, hj, e⟩ := List.mem_map.1 hm; have : j < n := (by simpa using hj); omega
def a4u (σ τ : St) (B : Nat) : Prop := ∀ B2 hs2, Fam σ B2 hs2 → 1000000 ≤ B2 → (B2 + 1000000 ≤ B ∨ B + 1000000 ≤ B2) → Fam τ B2 hs2
theorem a4u.st {σ τ : St} {B B2 s : Nat} {R : List Chg} (h : a4u σ τ B) (hF : StF σ B2 s R) (hB : 1000000 ≤ B2) (hBB : B2 + 1000000 ≤ B ∨ B + 1000000 ≤ B2) : StF τ B2 s R := by
  obtain ⟨hR, r, m, E, hE, hF⟩ := hF; exact ⟨hR, r, m, E, hE, h B2 _ hF hB hBB⟩
theorem a0r {f : FuncId} {σ : St} {d : Nat} {K : St → Prop} (B s : Nat) (hB : 1000000 ≤ B) (hd : d < 1000000) {R : List Chg} (hF : StF σ B s R) {ds : List D} {res : AV} (hE : Enters prog f) (h : ∀ x, StD R x → Ctr prog f (.d x :: ds.map .d) res) (hm : U4 res = true)
    (hk : ∀ τ, StF τ B s R → τ d = res → Oth σ τ d → a4u σ τ B → K τ) : a3g prog f (.d (.raw (va s)) :: ds.map .d) σ d K := by
  obtain ⟨hR, r, m, E, hEE, hFam⟩ := hF; have hlen := hFam.2.1; refine b7c (W3 B (stH s r m R E).length) (fun k hk => by obtain ⟨j, _, rfl⟩ := List.mem_map.1 hk; omega) hd (a2v _ _) hFam.isH (r := res) ?_ (fun τ h1 h2 h3 => ?_)
  · rw [hFam.map]; refine H0.lendL (ds := .raw (va s) :: ds) hE (fun w L hr => ?_) hm; obtain ⟨x, hx, hln⟩ := a9H (s := s) (r := r) (m := m) hr hEE (fun x hx => hx); exact ⟨x :: ds, .cons hln (a5G ds), h x hx⟩
  · refine hk τ ⟨hR, r, m, E, hEE, hFam.1, hFam.2.1, fun i hi => ?_⟩ (by rw [h2, a8j hm]) ⟨_, fun j hj => ?_, fun i hi hid => h3 i (a3h hB hi) hid⟩ (fun B2 hs2 hF2 hB2 hBB => ⟨hF2.1, hF2.2.1, fun i hi => ?_⟩)
    · rw [h1 _ (List.mem_map.2 ⟨i, by simpa using hi, rfl⟩)]; exact hFam.2.2 i hi
    · have := a3h (n := (stH s r m R E).length) hB hj; simp [this]
    · have h4 := hF2.2.1; have hH2 := List.all_eq_true.1 hF2.1 _ (gmm hi); rw [h3 _ (a6m hlen (by omega) hBB) (by omega), hF2.2.2 i hi, a2y hH2, a1y hH2]
theorem c2c {f : FuncId} {σ : St} {d : Nat} {K : St → Prop} (B1 s1 B2 s2 : Nat) (hB1 : 1000000 ≤ B1) (hB2 : 1000000 ≤ B2) (hBB : B1 + 1000000 ≤ B2) (hd : d < 1000000) {R1 R2 : List Chg} (hF1 : StF σ B1 s1 R1) (hF2 : StF σ B2 s2 R2) {ds : List D} {res : AV} (hE : Enters prog f)
    (h : ∀ x y, StD R1 x → StD R2 y → Ctr prog f (.d x :: .d y :: ds.map .d) res) (hm : U4 res = true)
    (hk : ∀ τ, StF τ B1 s1 R1 → StF τ B2 s2 R2 → τ d = res → Oth σ τ d → (∀ B3 s3 R3, StF σ B3 s3 R3 → 1000000 ≤ B3 → (B3 + 1000000 ≤ B1 ∨ B1 + 1000000 ≤ B3) → (B3 + 1000000 ≤ B2 ∨ B2 + 1000000 ≤ B3) → StF τ B3 s3 R3) → K τ) : a3g prog f (.d (.raw (va s1)) :: .d (.raw (va s2)) :: ds.map .d) σ d K := by
  obtain ⟨hR1, r1, m1, E1, hE1, hFam1⟩ := hF1; obtain ⟨hR2, r2, m2, E2, hE2, hFam2⟩ := hF2; have hl1 := hFam1.2.1; have hl2 := hFam2.2.1; refine b7c (W3 B1 (stH s1 r1 m1 R1 E1).length ++ W3 B2 (stH s2 r2 m2 R2 E2).length) (fun k hk => ?_) hd ?_ (fun k hk => ?_) (r := res) ?_ (fun τ h1 h2 h3 => ?_)
  · rcases List.mem_append.1 hk with hk | hk
    · obtain ⟨j, _, rfl⟩ := List.mem_map.1 hk; omega
    · obtain ⟨j, _, rfl⟩ := List.mem_map.1 hk; omega
  · refine List.nodup_append.2 ⟨a2v _ _, a2v _ _, fun a ha b hb e => ?_⟩; obtain ⟨i, hi, rfl⟩ := List.mem_map.1 ha; obtain ⟨j, hj, rfl⟩ := List.mem_map.1 hb; have : i < (stH s1 r1 m1 R1 E1).length := (by simpa using hi); omega
  · rcases List.mem_append.1 hk with hk | hk
    · exact hFam1.isH k hk
    · exact hFam2.isH k hk
  · rw [List.map_append, hFam1.map, hFam2.map]; refine H0.lendL (ds := .raw (va s1) :: .raw (va s2) :: ds) hE (fun w L hr => ?_) hm; obtain ⟨x, hx, hln⟩ := a9H (s := s1) (r := r1) (m := m1) hr hE1 (fun x hx => List.mem_append.2 (.inl hx)); obtain ⟨y, hy, hln2⟩ := a9H (s := s2) (r := r2) (m := m2) hr hE2 (fun x hx => List.mem_append.2 (.inr hx)); exact ⟨x :: y :: ds, .cons hln (.cons hln2 (a5G ds)), h x y hx hy⟩
  · refine hk τ ⟨hR1, r1, m1, E1, hE1, hFam1.1, hFam1.2.1, fun i hi => ?_⟩ ⟨hR2, r2, m2, E2, hE2, hFam2.1, hFam2.2.1, fun i hi => ?_⟩ (by rw [h2, a8j hm]) ⟨_, fun j hj => ?_, fun i hi hid => h3 i (fun hm => ?_) hid⟩ (fun B3 s3 R3 hF3 hB3 q1 q2 => ?_)
    · rw [h1 _ (List.mem_append.2 (.inl (List.mem_map.2 ⟨i, by simpa using hi, rfl⟩)))]; exact hFam1.2.2 i hi
    · rw [h1 _ (List.mem_append.2 (.inr (List.mem_map.2 ⟨i, by simpa using hi, rfl⟩)))]; exact hFam2.2.2 i hi
    · have e1 := a3h (n := (stH s1 r1 m1 R1 E1).length) hB1 hj; have e2 := a3h (n := (stH s2 r2 m2 R2 E2).length) hB2 hj; simp [e1, e2]
    · rcases List.mem_append.1 hm with hm | hm
      · exact a3h hB1 hi hm
      · exact a3h hB2 hi hm
    · obtain ⟨hR3, r3, m3, E3, hE3, hF3⟩ := hF3; refine ⟨hR3, r3, m3, E3, hE3, hF3.1, hF3.2.1, fun i hi => ?_⟩; have h4 := hF3.2.1; have hH3 := List.all_eq_true.1 hF3.1 _ (gmm hi); rw [h3 _ (fun hm => ?_) (by omega), hF3.2.2 i hi, a2y hH3, a1y hH3]; rcases List.mem_append.1 hm with hm | hm
      · exact a6m hl1 (by omega) q1 hm
      · exact a6m hl2 (by omega) q2 hm
theorem b9W {σ : St} {d : Nat} {K : St → Prop} (B : Nat) (hB : 1000000 ≤ B) (hd : d < 1000000)
    (hk : ∀ s τ, StF τ B s [] → τ d = .d (.raw (va s)) → Oth σ τ d → a4u σ τ B → K τ) : a3g prog 11 [] σ d K := by
  refine ⟨[], B, _, by simp, by simp, c0p, fun x hs' hp => ?_⟩; obtain ⟨s, r, m, rfl, hh⟩ := hp; have hh2 : hs' = [.hb (va s) 65 (.agg [.raw (.map (some r)), .raw (.map (some m))]), .hm (.map (some r)) 35 (R7 []) none, .hm (.map (some m)) 9 (R9 []) none] := hh; have hH : ∀ x ∈ hs', isH x = true := fun x hx => by rw [hh] at hx; exact List.all_eq_true.1 (a8S s r m [] []) x hx
  have hlen : hs'.length = 3 := by rw [hh2]; rfl
  have hput : ∀ i, i ∉ a0j [] B 3 → D1 (put (C0 σ []) d (.d (.raw (va s)))) [] B hs' i = F5 (a0j [] B 3) (put σ d (.d (.raw (va s))) i) := fun i hi => by
    have := a0a hs' [] (put (C0 σ []) d (.d (.raw (va s)))) B i (by rw [hlen]; exact hi); rw [hlen] at this; exact this
  have hL : ∀ k ∈ a0j [] B 3, B ≤ k ∧ k < B + 3 := fun k hk => by
    rcases a2Z _ _ _ _ hk with h | h
    · simp at h
    · exact h
  refine hk s _ ⟨b0m, r, m, [], rfl, a8S _ _ _ _ _, by simp [a8L], fun i hi => ?_⟩ ?_ ⟨a0j [] B 3, fun j hj => ?_, fun i hi hid => ?_⟩ (fun B2 hs2 hF2 hB2 hBB => ⟨hF2.1, hF2.2.1, fun i hi => ?_⟩)
  · have := a8U hs' (put (C0 σ []) d (.d (.raw (va s)))) B hH i (by rw [hh]; exact hi); rw [this]; simp only [hh]
  · rw [hput d (fun hm => by have := hL d hm; omega)]; simp only [put, if_true]; rfl
  · rw [Bool.eq_false_iff]; intro hc; have := hL j (by simpa using hc); omega
  · rw [hput i (fun hm => by have := hL i hm; omega)]; simp only [put, if_neg hid]
  · have h4 := hF2.2.1; have hH2 := List.all_eq_true.1 hF2.1 _ (gmm hi); rw [hput _ (fun hm => by have := hL _ hm; omega)]; simp only [put, if_neg (show ¬ B2 + i = d by omega)]; rw [hF2.2.2 i hi, a2y hH2, a1y hH2]
def idS (n : UInt8) : Str := [48, 48, 48, 48, 48, 48, 48, 48, 48, 48, n, 45, 48, 48, 48, 48, 48, 48, 48, 48, 45, 48]
def nxS : Str := [99, 110, 61, 120, 44, 111, 61, 97, 99, 109, 101]
def nyS : Str := [99, 110, 61, 121, 44, 111, 117, 61, 115, 44, 111, 61, 97, 99, 109, 101]
def alL : List Chg := [atC 2 1 (idS 50) nxS [], atC 1 1 (idS 49) nxS [], atC 5 4 (idS 49) [] [109], atC 4 5 (idS 49) [] [109], atC 6 1 (idS 54) nyS []]
theorem c5F : H8 (1, 0, 0) = idS 49 := by kernel_rfl
theorem c6k : H8 (2, 0, 0) = idS 50 := by kernel_rfl
theorem c6e : H8 (6, 0, 0) = idS 54 := by kernel_rfl
theorem c7v : ofE [] alL = 0 := by kernel_rfl
theorem d1x : ofR [] alL = alL := by kernel_rfl
def al2 : List Chg := alL ++ [atC 3 2 (idS 49) [] []]
theorem d3a : S6 alL (atC 3 2 (idS 49) [] []) = 0 := by kernel_rfl
theorem c7U : G6 alL (atC 3 2 (idS 49) [] []) = al2 := by kernel_rfl
theorem c5X : a2R alL = [idS 50, idS 49, idS 54] := by kernel_rfl
theorem b5i {l m : List Str} (hm : SS m) (hp : m.Perm l) : I4 l = m := by
  have h1 : (I4 l).Pairwise fun x y => ¬ y < x := a7s l
  have h2 : m.Pairwise fun x y => ¬ y < x := hm.imp fun h h' => List.lt_irrefl _ (List.lt_trans h h')
  have h3 : (I4 l).Perm m := (List.mergeSort_perm _ _).trans hp.symm; exact h3.eq_of_pairwise (fun a b _ _ h4 h5 => a2r h5 h4) h1 h2
theorem a4h : B8 alL = [idS 49, idS 50, idS 54] := by
  unfold B8; rw [c5X]; exact b5i (by unfold SS; decide) (List.Perm.swap _ _ _)
theorem c3Z : O4 alL [idS 49, idS 50, idS 54] = [(nxS, idS 49), (nyS, idS 54)] := by kernel_rfl
theorem b4D (id : Str) : Y8 alL id = decide (K4 [(nxS, idS 49), (nyS, idS 54)] (M6 alL id) = some id) := by unfold Y8; rw [a4h, c3Z]
theorem c4A : a0p alL = [idS 50] := by
  unfold a0p; rw [a4h]; simp only [b4D]
  kernel_rfl
theorem c5l : a1P alL (idS 49) = [(a3o, [[109]])] := by
  kernel_rfl
def nx2 : Str := [99, 110, 61, 120, 35] ++ idS 50 ++ [44, 111, 61, 97, 99, 109, 101]
theorem b7G (id : Str) : G3 alL id = if decide (K4 [(nxS, idS 49), (nyS, idS 54)] (M6 alL id) = some id) then M6 alL id else a9Z (M6 alL id) id := by unfold G3; rw [b4D]
theorem b3Y : G3 alL (idS 49) = nxS := by rw [b7G]; kernel_rfl
theorem b3M : G3 alL (idS 50) = nx2 := by rw [b7G]; kernel_rfl
theorem b8L : G3 alL (idS 54) = nyS := by rw [b7G]; kernel_rfl
theorem c8x : N6 alL (idS 49) = ((nxS, [(a3o, [[109]])]), true) := by
  unfold N6; rw [if_pos (by rw [a4h]; simp), b3Y, c5l]
theorem c1Z : a1P alL (idS 50) = [] := by kernel_rfl
theorem c8Z : N6 alL (idS 50) = ((nx2, []), true) := by
  unfold N6; rw [if_pos (by rw [a4h]; simp), b3M, c1Z]
theorem c6L : I6 alL = [idS 49, idS 50, idS 54] := by
  unfold I6; rw [a4h]; have hn : [idS 49, idS 50, idS 54].Nodup := (by decide); refine c0e (key := G3 alL) (a9C hn) ?_ (Z3 (a9D _) _).1; unfold KS; have h1 : cfK (G3 alL) (idS 49) (idS 50) = -1 := by
    unfold cfK; rw [b3Y, b3M]; kernel_rfl
  have h2 : cfK (G3 alL) (idS 49) (idS 54) = -1 := by
    unfold cfK; rw [b3Y, b8L]; kernel_rfl
  have h3 : cfK (G3 alL) (idS 50) (idS 54) = -1 := by
    unfold cfK; rw [b3M, b8L]; kernel_rfl
  simp [h1, h2, h3]
theorem c3l : (U8 alL [idS 49, idS 50, idS 54]).2 = [idS 54] := by
  simp only [U8, List.foldl_cons, List.foldl_nil, a1g, a8H, a1I, b3Y, b3M, b8L]
  kernel_rfl
theorem c4j : (a0m alL).length = 1 := by
  unfold a0m I4; rw [List.length_mergeSort, c6L, c3l]; rfl
theorem c5d : a2R al2 = [idS 50, idS 54] := by kernel_rfl
theorem a6u : B8 al2 = [idS 50, idS 54] := by
  unfold B8; rw [c5d]; exact b5i (by unfold SS; decide) (List.Perm.refl _)
theorem c4k : O4 al2 [idS 50, idS 54] = [(nxS, idS 50), (nyS, idS 54)] := by kernel_rfl
theorem b2G (id : Str) : Y8 al2 id = decide (K4 [(nxS, idS 50), (nyS, idS 54)] (M6 al2 id) = some id) := by unfold Y8; rw [a6u, c4k]
theorem c2y : a0p al2 = [] := by
  unfold a0p; rw [a6u]; simp only [b2G]
  kernel_rfl
theorem c6a : G3 al2 (idS 50) = nxS := by unfold G3; rw [b2G]; kernel_rfl
theorem c1D : a3v al2 nxS = (idS 50, true) := by
  unfold a3v; rw [a6u, List.find?_cons_of_pos (by rw [c6a]; simp)]
theorem c2x : (Z7 al2).length = 2 := by
  unfold Z7; rw [List.length_map, a4D, a6u]; rfl
theorem a9p {a b : Chg} (ha : opC a = 0 ∨ F4 (opC a) = true) (hb : F4 (opC b) = true) : F4 (opC (N1 a b)) = true := by
  unfold N1; split
  · exact hb
  · rename_i h
    rcases ha with h1 | h1
    · exact absurd (.inl h1) h
    · exact h1
theorem c0A (R : List Chg) (id : Str) : (opC (abF R id).nm = 0 ∨ F4 (opC (abF R id).nm) = true) ∧ ((abF R id).cr = true → F4 (opC (abF R id).nm) = true) := by
  refine U2 (P := fun R => (opC (abF R id).nm = 0 ∨ F4 (opC (abF R id).nm) = true) ∧ ((abF R id).cr = true → F4 (opC (abF R id).nm) = true)) ⟨.inl rfl, by simp [abF, Q9]⟩ (fun R c ih => ?_) R; rw [a0K]; split
  · unfold N5; split
    · rename_i h
      have := a9p (b := c) ih.1 (by simp [F4, h]); exact ⟨.inr this, fun _ => this⟩
    · split
      · rename_i h
        have := a9p (b := c) ih.1 (by simp [F4, h]); exact ⟨.inr this, fun _ => this⟩
      · split
        · exact ih
        · exact ih
  · exact ih
theorem c2O (R : List Chg) (id : Str) : (abF R id).vs.length ≤ R.length ∧ ∀ p ∈ (abF R id).vs, ∃ c ∈ R, p.1 = a0t c := by
  refine U2 (P := fun R => (abF R id).vs.length ≤ R.length ∧ ∀ p ∈ (abF R id).vs, ∃ c ∈ R, p.1 = a0t c) ⟨by simp [abF, Q9], by simp [abF, Q9]⟩ (fun R c ih => ?_) R; have h0 : (abF R id).vs.length ≤ (R ++ [c]).length ∧ ∀ p ∈ (abF R id).vs, ∃ x ∈ R ++ [c], p.1 = a0t x := by
    refine ⟨by have := ih.1; simp; omega, fun p hp => ?_⟩; obtain ⟨x, hx, e⟩ := ih.2 p hp; exact ⟨x, by simp [hx], e⟩
  rw [a0K]; split
  · unfold N5; split
    · exact h0
    · split
      · exact h0
      · split
        · exact h0
        · simp only; unfold a3Q; split
          · refine ⟨by simpa using h0.1, fun p hp => ?_⟩; obtain ⟨q, hq, e⟩ := List.mem_map.1 hp; obtain ⟨x, hx, e2⟩ := h0.2 q hq; refine ⟨x, hx, ?_⟩; rw [← e, ← e2]; split <;> rfl
          · refine ⟨by have := ih.1; simp; omega, fun p hp => ?_⟩; rcases List.mem_append.1 hp with hp | hp
            · exact h0.2 p hp
            · rw [List.mem_singleton.1 hp]; exact ⟨c, by simp, rfl⟩
  · exact h0
theorem a6J {R : List Chg} (h : a6k R) : a0l R := by
  refine ⟨by have := b4L R; have := h.few; omega, fun id hid => ?_, fun id => ?_⟩
  · obtain ⟨⟨c, hc, rfl⟩, hl⟩ := a2l.1 hid; have hcr : (abF R (idC c)).cr = true := by
      simp only [a2a, Bool.and_eq_true] at hl; exact hl.1
    have hn := (c0A R (idC c)).2 hcr; obtain ⟨h1, _⟩ := b4q R (idC c); have hm : (abF R (idC c)).nm ∈ R := by
      rcases h1 with h1 | h1
      · exact h1
      · rw [h1] at hn; exact absurd hn (by decide)
    have ho := a0z.1 (h.ok _ hc); have hon := a0z.1 (h.ok _ hm); obtain ⟨h3, h4⟩ := a4r (c := (N8 (idC c)).1) (s := idC c) (by rw [← ho.id]); have hidl : List.length (idC c) = 22 := by rw [← h3, a3l h4]
    have hb := hon.name; unfold J2 at hb; have hn' : F4 (abF R (idC c)).nm.2.1 = true := hn; simp only [hn', Bool.true_and, Bool.or_eq_false_iff, decide_eq_false_iff_not, Bool.not_eq_false'] at hb; obtain ⟨l, hl2⟩ := a6G.1 hb.1.2; have hpl : (E5 (M6 R (idC c))).1 = l := by
      have h6 := hl2; unfold M0 at h6; split at h6
      · exact Option.some.inj h6
      · cases h6
    refine ⟨?_, (h.fit _ hm).name, by omega, fun e => by rw [e] at hidl; simp at hidl⟩; rw [hpl]; intro e; exact hb.1.1 ((c4p hl2).2 e)
  · obtain ⟨h1, h2⟩ := c2O R id; refine ⟨by have := h.few; omega, fun p hp => ?_⟩; obtain ⟨c, hc, e⟩ := h2 p hp; rw [e]; exact ⟨(h.fit c hc).attr, (h.fit c hc).value⟩
theorem a8P (a b : Chg) : ltM a b = true ↔ W4 a.1 b.1 < 0 ∨ (a.1 = b.1 ∧ (I0 a).1 < (I0 b).1) := by
  unfold ltM orI orI orI; rw [decide_eq_true_eq]; by_cases h : W4 a.1 b.1 = 0
  · rw [if_neg (by simpa using h)]; have h1 := a3w.1 h; by_cases h2 : a0u (I0 a).1 (I0 b).1 = 0
    · rw [if_neg (by simpa using h2)]; have h3 := b3u.1 h2; rw [h3]; have : ¬ (I0 b).1 < (I0 b).1 := List.lt_irrefl _; simp [this, h]
    · rw [if_pos h2, b5K]; exact ⟨fun h3 => .inr ⟨h1, h3⟩, fun h3 => h3.elim (fun h4 => by omega) (·.2)⟩
  · rw [if_pos h]; have : a.1 ≠ b.1 := fun e => h (a3w.2 e)
    simp [this]
theorem b6J (a : Chg) : ltM a a = false := by
  rw [Bool.eq_false_iff, ne_eq, a8P]; rintro (h | ⟨_, h⟩)
  · rw [a3w.2 rfl] at h; omega
  · exact List.lt_irrefl _ h
theorem b9c {a b c : Chg} (h1 : ltM a b = true) (h2 : ltM b c = true) : ltM a c = true := by
  rw [a8P] at *; rcases h1 with h1 | ⟨h1, h3⟩ <;> rcases h2 with h2 | ⟨h2, h4⟩
  · exact .inl (b8v h1 h2)
  · rw [h2] at h1; exact .inl h1
  · rw [← h1] at h2; exact .inl h2
  · exact .inr ⟨h1.trans h2, List.lt_trans h3 h4⟩
theorem c4m {a b : Chg} (ha : I1 a = 0) (hb : I1 b = 0) (h1 : ltM a b = false) (h2 : ltM b a = false) : a = b := by
  have h1' : ¬ (W4 a.1 b.1 < 0 ∨ (a.1 = b.1 ∧ (I0 a).1 < (I0 b).1)) := fun h => by rw [← a8P, h1] at h; cases h
  have h2' : ¬ (W4 b.1 a.1 < 0 ∨ (b.1 = a.1 ∧ (I0 b).1 < (I0 a).1)) := fun h => by rw [← a8P, h2] at h; cases h
  have h3 := b9I a.1 b.1; have h4 : W4 a.1 b.1 = 0 := by
    simp only [not_or] at h1' h2'; omega
  have h5 := a3w.1 h4; have h6 : (I0 a).1 = (I0 b).1 := a2r (fun h => h1' (.inr ⟨h5, h⟩)) (fun h => h2' (.inr ⟨h5.symm, h⟩)); rw [a7p ha, a7p hb] at h6; exact c0z ha hb h6
theorem c3F {c : Chg} (h : I1 c = 0) : opC c ≠ 0 := by
  have := (a0z.1 h).op1
  show c.2.1 ≠ 0
  omega
def a0y (L : List Chg) : Chg := L.foldl N1 L9
theorem a4N (L : List Chg) (c : Chg) : a0y (L ++ [c]) = N1 (a0y L) c := by simp [a0y]
theorem b3e {L : List Chg} (h : ∀ c ∈ L, I1 c = 0) : (L = [] ∧ a0y L = L9) ∨ (a0y L ∈ L ∧ ∀ c ∈ L, ltM (a0y L) c = false) := by
  have key : ∀ L : List Chg, (∀ c ∈ L, I1 c = 0) → (L = [] ∧ a0y L = L9) ∨ (a0y L ∈ L ∧ ∀ c ∈ L, ltM (a0y L) c = false) := fun L => by
    refine U2 (P := fun L => (∀ c ∈ L, I1 c = 0) → (L = [] ∧ a0y L = L9) ∨ (a0y L ∈ L ∧ ∀ c ∈ L, ltM (a0y L) c = false)) (fun _ => .inl ⟨rfl, rfl⟩) (fun L c ih h => ?_) L; have hc := h c (by simp); refine .inr ?_; rw [a4N]; rcases ih (fun x hx => h x (by simp [hx])) with ⟨rfl, e⟩ | ⟨h1, h2⟩
    · rw [e]; have : N1 L9 c = c := by unfold N1; rw [if_pos (.inl rfl)]
      rw [this]; refine ⟨by simp, fun x hx => ?_⟩; simp only [List.nil_append, List.mem_singleton] at hx; rw [hx, b6J]
    · have hm := h _ (List.mem_append.2 (.inl h1)); unfold N1; by_cases hlt : ltM (a0y L) c = true
      · rw [if_pos (.inr ⟨c3F hc, hlt⟩)]; refine ⟨by simp, fun x hx => ?_⟩; rcases List.mem_append.1 hx with hx | hx
        · rw [Bool.eq_false_iff]; intro hq; have := b9c hlt hq; rw [h2 x hx] at this; cases this
        · rw [List.mem_singleton.1 hx, b6J]
      · rw [if_neg (by
          rintro (h5 | ⟨_, h5⟩)
          · exact c3F hm h5
          · exact hlt h5)]
        refine ⟨by simp [h1], fun x hx => ?_⟩; rcases List.mem_append.1 hx with hx | hx
        · exact h2 x hx
        · rw [List.mem_singleton.1 hx]; simpa using hlt
  exact key L h
theorem b4t {L M : List Chg} (h : ∀ c ∈ L, I1 c = 0) (hLM : ∀ c, c ∈ L ↔ c ∈ M) : a0y L = a0y M := by
  have h' : ∀ c ∈ M, I1 c = 0 := fun c hc => h c ((hLM c).2 hc)
  rcases b3e h with ⟨rfl, e1⟩ | ⟨h1, h2⟩ <;> rcases b3e h' with ⟨rfl, e2⟩ | ⟨h3, h4⟩
  · rw [e1]
  · exact absurd ((hLM _).2 h3) (by simp)
  · exact absurd ((hLM _).1 h1) (by simp)
  · exact c4m (h _ h1) (h' _ h3) (h2 _ ((hLM _).2 h3)) (h4 _ ((hLM _).1 h1))
def b0X (R : List Chg) (id : Str) : List Chg := R.filter fun c => decide (idC c = id) && F4 (opC c)
def U1 (R : List Chg) (id : Str) (k : VK) : List Chg := R.filter fun c => decide (idC c = id) && (F1 (opC c) && decide (a0t c = k))
theorem c1x {c : Chg} (h : I1 c = 0) : opC c = 1 ∨ opC c = 2 ∨ opC c = 3 ∨ opC c = 4 ∨ opC c = 5 := by
  have h1 := (a0z.1 h).op1; have h2 := (a0z.1 h).op5
  show c.2.1 = 1 ∨ c.2.1 = 2 ∨ c.2.1 = 3 ∨ c.2.1 = 4 ∨ c.2.1 = 5
  omega
theorem c0s (R : List Chg) (id : Str) : (abF R id).cr = R.any fun c => decide (idC c = id) && decide (opC c = 1) := by
  refine U2 (P := fun R => (abF R id).cr = R.any fun c => decide (idC c = id) && decide (opC c = 1)) rfl (fun R c ih => ?_) R; rw [a0K, List.any_append, ← ih]; by_cases h : idC c = id
  · rw [if_pos h]; unfold N5; by_cases h1 : opC c = 1
    · simp [h, h1]
    · rw [if_neg h1]; simp only [h1, decide_false, Bool.and_false, List.any_cons, List.any_nil, Bool.or_false]
      (repeat' split) <;> rfl
  · rw [if_neg h]; simp [h]
theorem b4W (R : List Chg) (id : Str) : (abF R id).rm = R.any fun c => decide (idC c = id) && decide (opC c = 2) := by
  refine U2 (P := fun R => (abF R id).rm = R.any fun c => decide (idC c = id) && decide (opC c = 2)) rfl (fun R c ih => ?_) R; rw [a0K, List.any_append, ← ih]; by_cases h : idC c = id
  · rw [if_pos h]; unfold N5; by_cases h1 : opC c = 1
    · simp [h, h1]
    · by_cases h3 : opC c = 3
      · simp [h, h3]
      · by_cases h2 : opC c = 2
        · simp [h, h2]
        · simp [h, h1, h2, h3]
  · rw [if_neg h]; simp [h]
theorem b9Q (R : List Chg) (id : Str) : (abF R id).nm = a0y (b0X R id) := by
  refine U2 (P := fun R => (abF R id).nm = a0y (b0X R id)) rfl (fun R c ih => ?_) R; rw [a0K]; unfold b0X at ih ⊢; rw [List.filter_append]; by_cases h : idC c = id
  · rw [if_pos h]; unfold N5; by_cases h1 : opC c = 1
    · rw [if_pos h1]; simp only [List.filter_cons, h, h1, F4, decide_true, Bool.true_or, Bool.and_self, if_true, List.filter_nil, a4N, ih]
    · rw [if_neg h1]; by_cases h3 : opC c = 3
      · rw [if_pos h3]; simp only [List.filter_cons, h, h3, F4, decide_true, Bool.or_true, Bool.and_self, if_true, List.filter_nil, a4N, ih]
      · rw [if_neg h3]; have : F4 (opC c) = false := (by simp [F4, h1, h3]); simp only [List.filter_cons, h, this, Bool.and_false, Bool.false_eq_true, if_false, List.filter_nil, List.append_nil]; split <;> exact ih
  · rw [if_neg h]; simp only [List.filter_cons, h, decide_false, Bool.false_and, Bool.false_eq_true, if_false, List.filter_nil, List.append_nil]; exact ih
theorem b8S (vs : List (VK × Chg)) (k k' : VK) (c : Chg) : a0I (a3Q vs k c) k' = if k = k' then some c else a0I vs k' := by
  unfold a0I a3Q; by_cases ha : vs.any (fun p => decide (p.1 = k)) = true
  · rw [if_pos ha]; have key : ∀ vs : List (VK × Chg), ((vs.map fun p => if p.1 = k then (p.1, c) else p).find? fun p => decide (p.1 = k')) = (vs.find? fun p => decide (p.1 = k')).map fun p => if p.1 = k then (p.1, c) else p := by
      intro vs
      induction vs with
      | nil => rfl
      | cons p vs ih =>
        rw [List.map_cons, List.find?_cons, List.find?_cons]; by_cases h : p.1 = k
        · rw [if_pos h]; by_cases h2 : p.1 = k'
          · simp only [decide_eq_true h2, Option.map_some, if_pos h]
          · simp only [decide_eq_false h2]; exact ih
        · rw [if_neg h]; by_cases h2 : p.1 = k'
          · simp only [decide_eq_true h2, Option.map_some, if_neg h]
          · simp only [decide_eq_false h2]; exact ih
    rw [key]; by_cases h : k = k'
    · rw [if_pos h]; obtain ⟨p, hp, e⟩ := List.any_eq_true.1 ha; cases hf : vs.find? fun p => decide (p.1 = k') with
      | none => exact absurd (by rw [← h]; exact e) (List.find?_eq_none.1 hf p hp)
      | some q =>
        have : q.1 = k' := by simpa using List.find?_some hf
        simp [this, h]
    · rw [if_neg h]; cases hf : vs.find? fun p => decide (p.1 = k') with
      | none => rfl
      | some q =>
        have hq : q.1 = k' := by simpa using List.find?_some hf
        have : ¬ q.1 = k := fun e => h (e.symm.trans hq)
        simp [this]
  · rw [if_neg ha, List.find?_append]; by_cases h : k = k'
    · subst h; rw [if_pos rfl]; have : vs.find? (fun p => decide (p.1 = k)) = none := by
        rw [List.find?_eq_none]; intro p hp hq; exact ha (List.any_eq_true.2 ⟨p, hp, hq⟩)
      simp [this]
    · rw [if_neg h]; have : List.find? (fun p : VK × Chg => decide (p.1 = k')) [(k, c)] = none := by simp [h]
      simp [this]
theorem b9U {R : List Chg} (hR : ∀ c ∈ R, I1 c = 0) (id : Str) (k : VK) : a0I (abF R id).vs k = if U1 R id k = [] then none else some (a0y (U1 R id k)) := by
  have key : ∀ R : List Chg, (∀ c ∈ R, I1 c = 0) → a0I (abF R id).vs k = if U1 R id k = [] then none else some (a0y (U1 R id k)) := fun R => by
    refine U2 (P := fun R => (∀ c ∈ R, I1 c = 0) → a0I (abF R id).vs k = if U1 R id k = [] then none else some (a0y (U1 R id k))) (fun _ => rfl) (fun R c ih h => ?_) R; have ih := ih fun x hx => h x (by simp [hx])
    have hc := h c (by simp); rw [a0K]; have hsn : U1 (R ++ [c]) id k = U1 R id k ++ (if idC c = id ∧ (F1 (opC c) = true ∧ a0t c = k) then [c] else []) := by
      unfold U1; rw [List.filter_append]; congr 1
      by_cases h1 : idC c = id <;> by_cases h2 : F1 (opC c) = true <;> by_cases h3 : a0t c = k <;> simp [h1, h2, h3]
    by_cases hid : idC c = id
    · rw [if_pos hid]; have hops := c1x hc; unfold N5; by_cases h1 : opC c = 1
      · rw [if_neg (by simp [F1, h1]), List.append_nil] at hsn; rw [if_pos h1, hsn]; exact ih
      · rw [if_neg h1]; by_cases h3 : opC c = 3
        · rw [if_neg (by simp [F1, h3]), List.append_nil] at hsn; rw [if_pos h3, hsn]; exact ih
        · rw [if_neg h3]; by_cases h2 : opC c = 2
          · rw [if_neg (by simp [F1, h2]), List.append_nil] at hsn; rw [if_pos h2, hsn]; exact ih
          · rw [if_neg h2]; have hv : F1 (opC c) = true := by simp only [F1, Bool.or_eq_true, decide_eq_true_eq]; omega
            simp only [b8S]; by_cases hk : a0t c = k
            · rw [if_pos ⟨hid, hv, hk⟩] at hsn; rw [if_pos hk, hsn, if_neg (by simp), a4N]; congr 1
              unfold a0H; rw [hk, ih]; split
              · rename_i e; rw [e]; rfl
              · rfl
            · rw [if_neg (by simp [hk]), List.append_nil] at hsn; rw [if_neg hk, hsn]; exact ih
    · rw [if_neg (by simp [hid]), List.append_nil] at hsn; rw [if_neg hid, hsn]; exact ih
  exact key R hR
structure AbE (a b : Abt) : Prop where
  cr : a.cr = b.cr
  rm : a.rm = b.rm
  nm : a.nm = b.nm
  vs : List.Perm a.vs b.vs
theorem b3d {vs : List (VK × Chg)} (hn : (vs.map (·.1)).Nodup) {k : VK} {c : Chg} : a0I vs k = some c ↔ (k, c) ∈ vs := by
  unfold a0I; constructor
  · intro h; cases hf : vs.find? fun p => decide (p.1 = k) with
    | none => rw [hf] at h; cases h
    | some q =>
      rw [hf] at h; have hq : q.1 = k := by simpa using List.find?_some hf
      simp only [Option.map_some, Option.some.injEq] at h; have := List.mem_of_find?_eq_some hf; rw [← hq, ← h]; exact this
  · intro h; cases hf : vs.find? fun p => decide (p.1 = k) with
    | none => exact absurd (by simp) (List.find?_eq_none.1 hf _ h)
    | some q =>
      have hq : q.1 = k := by simpa using List.find?_some hf
      have := c5W hn (List.mem_of_find?_eq_some hf) h hq; rw [this]; rfl
theorem c5i {R1 R2 : List Chg} (h1 : ∀ c ∈ R1, I1 c = 0) (hm : ∀ c, c ∈ R1 ↔ c ∈ R2) (id : Str) : AbE (abF R1 id) (abF R2 id) := by
  have h2 : ∀ c ∈ R2, I1 c = 0 := fun c hc => h1 c ((hm c).2 hc)
  have hany : ∀ f : Chg → Bool, R1.any f = R2.any f := fun f => by
    rw [Bool.eq_iff_iff, List.any_eq_true, List.any_eq_true]; exact ⟨fun ⟨c, hc, e⟩ => ⟨c, (hm c).1 hc, e⟩, fun ⟨c, hc, e⟩ => ⟨c, (hm c).2 hc, e⟩⟩
  refine ⟨by rw [c0s, c0s, hany], by rw [b4W, b4W, hany], ?_, ?_⟩
  · rw [b9Q, b9Q]; refine b4t (fun c hc => h1 c ((List.mem_filter.1 hc).1)) fun c => ?_
    simp only [b0X, List.mem_filter, hm]
  · refine (List.perm_ext_iff_of_nodup (a8O (a3I R1 id)) (a8O (a3I R2 id))).2 fun p => ?_
    obtain ⟨k, c⟩ := p; rw [← b3d (a3I R1 id), ← b3d (a3I R2 id), b9U h1, b9U h2]; have hv : ∀ x, x ∈ U1 R1 id k ↔ x ∈ U1 R2 id k := fun x => by simp only [U1, List.mem_filter, hm]
    have he : U1 R1 id k = [] ↔ U1 R2 id k = [] := by
      rw [List.eq_nil_iff_forall_not_mem, List.eq_nil_iff_forall_not_mem]; simp only [hv]
    have hmx := b4t (L := U1 R1 id k) (fun c hc => h1 c (List.mem_filter.1 hc).1) hv; rw [hmx]; simp only [he]
theorem c2n {R1 R2 : List Chg} (h1 : ∀ c ∈ R1, I1 c = 0) (hm : ∀ c, c ∈ R1 ↔ c ∈ R2) : b8d R1 R2 := by
  have hA := c5i h1 hm; have hown : M6 R1 = M6 R2 := by funext id; unfold M6; rw [(hA id).nm]
  have hat : a1P R1 = a1P R2 := by funext id; exact a8n (hA id).vs
  have hlive : B8 R1 = B8 R2 := by
    refine a8p (b0k R1) (b0k R2) fun id => ?_
    rw [a2l, a2l]; refine and_congr ⟨fun ⟨c, hc, e⟩ => ⟨c, (hm c).1 hc, e⟩, fun ⟨c, hc, e⟩ => ⟨c, (hm c).2 hc, e⟩⟩ ?_; unfold a2a; rw [(hA id).cr, (hA id).rm]
  have hot : O4 R1 = O4 R2 := by funext l; unfold O4; rw [hown]
  have hob : Y8 R1 = Y8 R2 := by funext id; unfold Y8; rw [hot, hlive, hown]
  have hsh : G3 R1 = G3 R2 := by funext id; unfold G3; rw [hob, hown]
  have hord : I6 R1 = I6 R2 := by unfold I6; rw [hsh, hlive]
  have hpar : a1I R1 = a1I R2 := by funext id; unfold a1I; rw [hsh]
  have hq : a8H R1 = a8H R2 := by funext X id; unfold a8H; rw [hpar]
  have hst : a1g R1 = a1g R2 := by funext p id; unfold a1g; rw [hq, hsh]
  refine ⟨hlive, by unfold a0p; rw [hlive, hob], by unfold a0m U8; rw [hst, hord], ?_, fun id => by unfold N6; rw [hlive, hsh, hat]⟩; unfold Z7; rw [hord]; refine List.map_congr_left fun id _ => ?_
  unfold a1S; rw [hsh, hat]
theorem c1j {σ : St} {d B : Nat} {r : AV} {hs : List AV} (hB : 1000000 ≤ B) (hd : d < 1000000) (hH : hs.all isH = true) (hl : hs.length ≤ 500000) (hm : U4 r = true) {τ : St} (hτ : τ = D1 (put (C0 σ []) d r) [] B hs) :
    Fam τ B hs ∧ τ d = r ∧ Oth σ τ d ∧ a4u σ τ B := by
  have hH' : ∀ x ∈ hs, isH x = true := fun x hx => List.all_eq_true.1 hH x hx
  have hput : ∀ i, i ∉ a0j [] B hs.length → τ i = F5 (a0j [] B hs.length) (put σ d r i) := fun i hi => by
    rw [hτ]; exact a0a hs [] (put (C0 σ []) d r) B i hi
  have hL : ∀ k ∈ a0j [] B hs.length, B ≤ k ∧ k < B + hs.length := fun k hk => by
    rcases a2Z _ _ _ _ hk with h | h
    · simp at h
    · exact h
  refine ⟨⟨hH, hl, fun i hi => ?_⟩, ?_, ⟨a0j [] B hs.length, fun j hj => ?_, fun i hi hid => ?_⟩, (fun B2 hs2 hF2 hB2 hBB => ⟨hF2.1, hF2.2.1, fun i hi => ?_⟩)⟩
  · rw [hτ]; exact a8U hs (put (C0 σ []) d r) B hH' i hi
  · rw [hput d (fun hm => by have := hL d hm; omega)]; simp only [put, if_true]; exact a8j hm d _
  · rw [Bool.eq_false_iff]; intro hc; have := hL j (by simpa using hc); omega
  · rw [hput i (fun hm => by have := hL i hm; omega)]; simp only [put, if_neg hid]
  · have h4 := hF2.2.1; have hH2 := List.all_eq_true.1 hF2.1 _ (gmm hi); rw [hput _ (fun hm => by have := hL _ hm; omega)]; simp only [put, if_neg (show ¬ B2 + i = d by omega)]; rw [hF2.2.2 i hi, a2y hH2, a1y hH2]
theorem c4e {l : List Chg} (hf : ∀ c ∈ l, Q2 c) : ∀ {R : List Chg}, a6k R → a6k (ofR R l) := by
  induction l with
  | nil => intro R h; exact h
  | cons c l ih =>
    intro R h; exact ih (fun x hx => hf x (by simp [hx])) (a6E h (hf c (by simp)))
theorem c9o {σ : St} {d : Nat} {K : St → Prop} (B : Nat) (hB : 1000000 ≤ B) (hd : d < 1000000) {l : List Chg} (hl : l.length < 100000) (hf : ∀ c ∈ l, Q2 c) (h0 : ofE [] l = 0)
    (hk : ∀ s τ, StF τ B s (ofR [] l) → τ d = .tup [.d (.raw (va s)), .d (.int .i64 0)] → Oth σ τ d → a4u σ τ B → K τ) : a3g prog 17 [.d (H6 l)] σ d K := by
  refine ⟨[], B, _, by simp, by simp, c7T l hl hf, fun x hs' hp => ?_⟩; rcases hp with ⟨h1, _⟩ | ⟨_, s, r, m, E, rfl, hE, rfl⟩
  · exact absurd h0 h1
  · have hR := c4e hf b0m; obtain ⟨f1, f2, f3, f4⟩ := c1j (σ := σ) (d := d) (r := .tup [.d (.raw (va s)), .d (.int .i64 0)]) hB hd (a8S s r m (ofR [] l) E) (b4E hR hE) rfl rfl; exact hk s _ ⟨hR, r, m, E, hE, f1⟩ f2 f3 f4
theorem a8w {σ : St} {d : Nat} {K : St → Prop} (B s : Nat) (hB : 1000000 ≤ B) (hd : d < 1000000) {R : List Chg} {c : Chg} (hF : StF σ B s R) (hc : Q2 c)
    (hk : ∀ τ, StF τ B s (G6 R c) → τ d = .d (.int .i64 (S6 R c)) → Oth σ τ d → a4u σ τ B → K τ) : a3g prog 13 [.d (.raw (va s)), .d (A8 c)] σ d K :=
  b5L B s hB hd hF hc fun τ ks h1 h2 h3 h4 h5 => hk τ h1 h2 ⟨ks, h3, h4⟩ h5
theorem b4N (l : List Str) : a1c (l.map .str) = true := by
  induction l with
  | nil => rfl
  | cons s l ih => simp [a1c, a2B, ih]
theorem c2l (l : List Att) : a1c (l.map att) = true := by
  induction l with
  | nil => rfl
  | cons s l ih =>
    simp only [List.map_cons, a1c, ih, Bool.and_true]; simp [att, a2B, a1c, C6, b4N]
theorem b7e (s : Str) (a : List Att) : a2B (a1a s a) = true := by simp [a1a, a2B, a1c, H4, c2l]
theorem c3v (l : List (Str × List Att)) : a1c (l.map a1O) = true := by
  induction l with
  | nil => rfl
  | cons s l ih => simp [a1c, ih, a1O, b7e]
theorem a3C (s : Str) (a : List Att) (b : Bool) : U4 (.tup [.d (a1a s a), .d (.bool b)]) = true := by simp [U4, a8o, b7e, a2B]
theorem c5P : ∀ c ∈ alL, Q2 c := by
  have h : (alL.all fun c => decide (List.length c.2.2.1 < 900000) && (decide (List.length c.2.2.2.1 < 900000) && (decide (List.length c.2.2.2.2.1 < 900000) && decide (List.length c.2.2.2.2.2 < 900000)))) = true := by kernel_rfl
  intro c hc; have := List.all_eq_true.1 h c hc; simp only [Bool.and_eq_true, decide_eq_true_eq] at this; exact ⟨this.1, this.2.1, this.2.2.1, this.2.2.2⟩
theorem c3o : Ctr prog 10 [] (.d (.bool true)) := by
  have g1 := a4R (1, 0, 0); have g2 := a4R (2, 0, 0); have g6 := a4R (6, 0, 0); rw [c5F] at g1; rw [c6k] at g2; rw [c6e] at g6; have k1 := a8M 2 1 (idS 50) nxS []; have k2 := a8M 1 1 (idS 49) nxS []; have k3 := a8M 5 4 (idS 49) [] [109]; have k4 := a8M 4 5 (idS 49) [] [109]; have k5 := a8M 6 1 (idS 54) nyS []; have k6 := a8M 3 2 (idS 49) [] []; have hal : H6 alL = .sl [A8 (atC 2 1 (idS 50) nxS []), A8 (atC 1 1 (idS 49) nxS []), A8 (atC 5 4 (idS 49) [] [109]), A8 (atC 4 5 (idS 49) [] [109]), A8 (atC 6 1 (idS 54) nyS [])] := rfl; have hw : ∀ c, B0 (A8 c) = 8 := fun _ => rfl
  have hcs : ∀ t : Int, B6 (t, 0, 0) = .agg [.int .i64 t, .int .i64 0, .int .i64 0] := fun _ => rfl
  simp only [hcs] at g1 g2 g6; refine fv (fun i => i == 5000031 || i == 5000043 || i == 5000049 || i == 5000087 || i == 5000093 || i == 5000104 || i == 5000113 || i == 5000116 || i == 5000131 || i == 5000137) func10 (by kernel_rfl) rfl rfl rfl rfl rfl ?_; generalize atC 2 1 (idS 50) nxS [] = C1 at *; generalize atC 1 1 (idS 49) nxS [] = C2 at *; generalize atC 5 4 (idS 49) [] [109] = C3 at *; generalize atC 4 5 (idS 49) [] [109] = C4 at *; generalize atC 6 1 (idS 54) nyS [] = C5 at *; generalize hi1 : idS 49 = i1 at *; generalize hi2 : idS 50 = i2 at *; generalize hi6 : idS 54 = i6 at *; simp only [nxS, nyS] at k1 k2 k3 k4 k5 k6; simp -implicitDefEqProofs; refine A3 g1 ?_; simp -implicitDefEqProofs; refine A3 g2 ?_; simp -implicitDefEqProofs; refine A3 k1 ?_; simp -implicitDefEqProofs; refine A3 k2 ?_; simp -implicitDefEqProofs; refine A3 k3 ?_; simp -implicitDefEqProofs; refine A3 k4 ?_; simp -implicitDefEqProofs; refine A3 g6 ?_; simp -implicitDefEqProofs; refine A3 k5 ?_; simp -implicitDefEqProofs [hw]; refine ⟨by decide, ?_⟩; rw [← hal]; refine c9o 1000000 (Nat.le_refl _) (by omega) (by decide) c5P c7v (fun s τ1 hF1 f1 o1 _ => ?_); rw [d1x] at hF1; have t11 : τ1 1 = .d (.str i1) := o1.dd (by omega) (by omega) (by simp); have t12 : τ1 2 = .d (.str i2) := o1.dd (by omega) (by omega) (by simp); have hG := a6J hF1.1; have nxe : nxS = [99, 110, 61, 120, 44, 111, 61, 97, 99, 109, 101] := rfl; have me : a3o = [109, 97, 105, 108] := rfl; have n2e : nx2 = 99 :: 110 :: 61 :: 120 :: 35 :: (i2 ++ [44, 111, 61, 97, 99, 109, 101]) := by rw [← hi2]; rfl
  have hl2 : List.length i2 = 22 := by rw [← hi2]; rfl
  have hE1 := c8x; have hE2 := c8Z; rw [hi1] at hE1; rw [hi2] at hE2; have en : ∀ id x, StD alL x → _ := fun id x hx => a6o alL x id hx hG
  have enE := enters_of func21 (by kernel_rfl) rfl; simp -implicitDefEqProofs [f1, t11, t12]; refine a0r (ds := [.str i1]) 1000000 s (Nat.le_refl _) (by omega) (by (repeat (first | exact hF1 | refine StF.put ?_ (by omega) | refine StF.setv ?_ (by omega) | refine StF.clean ?_ _))) enE (fun x hx => en i1 x hx) (a3C _ _ _) (fun τ2 hF2 f2 o2 _ => ?_); rw [hE1] at f2; have hd2 : a1a (nxS, [(a3o, [[109]])]).1 (nxS, [(a3o, [[109]])]).2 = .agg [.str nxS, .sl [.agg [.str a3o, .sl [.str [109]]]]] := rfl; simp only [hd2] at f2; simp only [nxe, me] at f2; have t21 : τ2 1 = .d (.str i1) := o2.dd (by omega) (by omega) (by simp [t11]); have t22 : τ2 2 = .d (.str i2) := o2.dd (by omega) (by omega) (by simp [t12]); have t24 : τ2 4 = .d (.raw (va s)) := o2.dd (by omega) (by omega) (by simp); simp -implicitDefEqProofs [f2, t21, t22, t24]; refine a0r (ds := [.str i2]) 1000000 s (Nat.le_refl _) (by omega) (by (repeat (first | exact hF2 | refine StF.put ?_ (by omega) | refine StF.setv ?_ (by omega) | refine StF.clean ?_ _))) enE (fun x hx => en i2 x hx) (a3C _ _ _) (fun τ3 hF3 f3 o3 _ => ?_); rw [hE2] at f3; have hd3 : a1a nx2 [] = .agg [.str nx2, .sl []] := rfl; simp only [hd3] at f3; simp only [n2e] at f3; have t31 : τ3 1 = .d (.str i1) := o3.dd (by omega) (by omega) (by simp [t21]); have t32 : τ3 2 = .d (.str i2) := o3.dd (by omega) (by omega) (by simp [t22]); have t34 : τ3 4 = .d (.raw (va s)) := o3.dd (by omega) (by omega) (by simp [t24]); have t36 : τ3 6 = .box (.agg [.str [99, 110, 61, 120, 44, 111, 61, 97, 99, 109, 101], .sl [.agg [.str [109, 97, 105, 108], .sl [.str [109]]]]]) := o3.bx (by omega) (by omega) (by simp); have t37 : τ3 7 = .d (.bool true) := o3.dd (by omega) (by omega) (by simp); simp -implicitDefEqProofs [f3, t31, t32, t34, t36, t37, hl2]; have orp : ∀ x, StD alL x → Ctr prog 29 [.d x] (.d (.sl ((a0m alL).map .str))) := fun x hx => X6 (a5U alL x hx hG)
  have liv : ∀ x, StD alL x → Ctr prog 27 [.d x] (.d (.sl ((B8 alL).map .str))) := fun x hx => X6 (a3e alL x hx hG.lt)
  have con : ∀ x, StD alL x → Ctr prog 28 [.d x] (.d (.sl ((a0p alL).map .str))) := fun x hx => X6 (a2o alL x hx hG)
  have hol : ((a0m alL).map D.str).length = 1 := (by simp [c4j]); have hmO := b4N (a0m alL); generalize (a0m alL).map D.str = OL at *; rw [a4h, hi1, hi2, hi6] at liv; rw [c4A, hi2] at con; refine a0r (ds := []) (res := .d (.sl OL)) 1000000 s (Nat.le_refl _) (by omega) (by (repeat (first | exact hF3 | refine StF.put ?_ (by omega) | refine StF.setv ?_ (by omega) | refine StF.clean ?_ _))) (enters_of func29 (by kernel_rfl) rfl) orp hmO (fun τ4 hF4 f4 o4 _ => ?_); have t41 : τ4 1 = .d (.str i1) := o4.dd (by omega) (by omega) (by simp [t31]); have t42 : τ4 2 = .d (.str i2) := o4.dd (by omega) (by omega) (by simp [t32]); have t44 : τ4 4 = .d (.raw (va s)) := o4.dd (by omega) (by omega) (by simp [t34]); have t485 : τ4 85 = .d (.bool false) := o4.dd (by omega) (by omega) (by simp); simp -implicitDefEqProofs [f4, t41, t42, t44, t485, hol]; refine a0r (ds := []) (res := .d (C6 [i1, i2, i6])) 1000000 s (Nat.le_refl _) (by omega) (by (repeat (first | exact hF4 | refine StF.put ?_ (by omega) | refine StF.setv ?_ (by omega) | refine StF.clean ?_ _))) (enters_of func27 (by kernel_rfl) rfl) liv rfl (fun τ5 hF5 f5 o5 _ => ?_); have t51 : τ5 1 = .d (.str i1) := o5.dd (by omega) (by omega) (by simp [t41]); have t52 : τ5 2 = .d (.str i2) := o5.dd (by omega) (by omega) (by simp [t42]); have t54 : τ5 4 = .d (.raw (va s)) := o5.dd (by omega) (by omega) (by simp [t44]); have t591 : τ5 91 = .d (.bool false) := o5.dd (by omega) (by omega) (by simp); simp -implicitDefEqProofs [f5, t51, t52, t54, t591, C6]; have l1 := a2m [i1, i2, i6] [i1, i2, i6] (by simp) (by simp); have l2 := a2m [i2] [i2] (by simp) (by simp); simp only [C6, List.map_cons, List.map_nil, decide_true] at l1 l2; refine A3 g6 ?_; simp -implicitDefEqProofs [f5, t51, t52, t54, t591, C6]; refine ⟨by decide, A3 l1 ?_⟩; simp -implicitDefEqProofs [f5, t51, t52, t54, t591, C6]; refine a0r (ds := []) (res := .d (C6 [i2])) 1000000 s (Nat.le_refl _) (by omega) (by (repeat (first | exact hF5 | refine StF.put ?_ (by omega) | refine StF.setv ?_ (by omega) | refine StF.clean ?_ _))) (enters_of func28 (by kernel_rfl) rfl) con rfl (fun τ6 hF6 f6 o6 _ => ?_); have t61 : τ6 1 = .d (.str i1) := o6.dd (by omega) (by omega) (by simp [t51]); have t62 : τ6 2 = .d (.str i2) := o6.dd (by omega) (by omega) (by simp [t52]); have t64 : τ6 4 = .d (.raw (va s)) := o6.dd (by omega) (by omega) (by simp [t54]); have t602 : τ6 102 = .d (.bool false) := o6.dd (by omega) (by omega) (by simp); simp -implicitDefEqProofs [f6, t61, t62, t64, t602, C6]; refine A3 l2 ?_; simp -implicitDefEqProofs [f6, t61, t62, t64, t602, C6]; refine A3 k6 ?_; simp -implicitDefEqProofs [f6, t61, t62, t64, t602, C6]; have ha2 := d3a; have hr2 := c7U; have hfc : Q2 (atC 3 2 (idS 49) [] []) := by
    rw [hi1]; have h5 : List.length i1 = 22 := by rw [← hi1]; rfl
    exact ⟨by simp [atC]; omega, by simp [atC], by simp [atC], by simp [atC]⟩
  rw [hi1] at ha2 hr2 hfc; refine a8w 1000000 s (Nat.le_refl _) (by omega) (R := alL) (by (repeat (first | exact hF6 | refine StF.put ?_ (by omega) | refine StF.setv ?_ (by omega) | refine StF.clean ?_ _))) hfc (fun τ7 hF7 f7 o7 _ => ?_); rw [ha2] at f7; rw [hr2] at hF7; have t72 : τ7 2 = .d (.str i2) := o7.dd (by omega) (by omega) (by simp [t62]); have t74 : τ7 4 = .d (.raw (va s)) := o7.dd (by omega) (by omega) (by simp [t64]); have hG2 := a6J hF7.1; have fnd : ∀ x, StD al2 x → _ := fun x hx => c4l al2 x nxS hx hG2
  rw [c1D, hi2] at fnd; simp only [nxe] at fnd; have hen : ∀ x, StD al2 x → Ctr prog 30 [.d x] (.d (.sl ((Z7 al2).map a1O))) := fun x hx => X6 (a5Y al2 x hx hG2)
  have con2 : ∀ x, StD al2 x → Ctr prog 28 [.d x] (.d (.sl ((a0p al2).map .str))) := fun x hx => X6 (a2o al2 x hx hG2)
  have hel : ((Z7 al2).map a1O).length = 2 := (by simp [c2x]); have hme := c3v (Z7 al2); generalize (Z7 al2).map a1O = EL at *; rw [c2y] at con2; simp -implicitDefEqProofs [f7, t72, t74]; refine a0r (ds := [.str [99, 110, 61, 120, 44, 111, 61, 97, 99, 109, 101]]) 1000000 s (Nat.le_refl _) (by omega) (by (repeat (first | exact hF7 | refine StF.put ?_ (by omega) | refine StF.setv ?_ (by omega) | refine StF.clean ?_ _))) (enters_of func15 (by kernel_rfl) rfl) fnd rfl (fun τ8 hF8 f8 o8 _ => ?_); have t82 : τ8 2 = .d (.str i2) := o8.dd (by omega) (by omega) (by simp [t72]); have t84 : τ8 4 = .d (.raw (va s)) := o8.dd (by omega) (by omega) (by simp [t74]); have t810 : τ8 10 = .d (.int .i64 0) := o8.dd (by omega) (by omega) (by simp); simp -implicitDefEqProofs [f8, t82, t84, t810]; refine a0r (ds := []) (res := .d (.sl EL)) 1000000 s (Nat.le_refl _) (by omega) (by (repeat (first | exact hF8 | refine StF.put ?_ (by omega) | refine StF.setv ?_ (by omega) | refine StF.clean ?_ _))) (enters_of func30 (by kernel_rfl) rfl) hen hme (fun τ9 hF9 f9 o9 _ => ?_); have t94 : τ9 4 = .d (.raw (va s)) := o9.dd (by omega) (by omega) (by simp [t84]); have t929 : τ9 129 = .d (.bool true) := o9.dd (by omega) (by omega) (by simp); simp -implicitDefEqProofs [f9, t94, t929, hel]; refine a0r (ds := []) (res := .d (.sl [])) 1000000 s (Nat.le_refl _) (by omega) (by (repeat (first | exact hF9 | refine StF.put ?_ (by omega) | refine StF.setv ?_ (by omega) | refine StF.clean ?_ _))) (enters_of func28 (by kernel_rfl) rfl) con2 rfl (fun τ10 hF10 f10 o10 _ => ?_); have tA : τ10 135 = .d (.bool true) := o10.dd (by omega) (by omega) (by simp); simp -implicitDefEqProofs [f10, tA]
theorem c4h {c : Chg} (h : smC c = true) : Q2 c := by
  simp only [smC, Bool.and_eq_true, decide_eq_true_eq] at h; exact ⟨by omega, by omega, by omega, by omega⟩
theorem b2W {l : List Chg} (h : a2A l = true) : l.length ≤ 14 ∧ ∀ c ∈ l, Q2 c := by
  simp only [a2A, Bool.and_eq_true, decide_eq_true_eq, List.all_eq_true] at h; exact ⟨h.2, fun c hc => c4h (h.1 c hc)⟩
theorem a6c {l : List Chg} : ∀ {R : List Chg}, R.length + l.length ≤ 4000 → (∀ x, x ∈ ofR R l ↔ x ∈ R ∨ (x ∈ l ∧ I1 x = 0)) ∧ (ofR R l).length ≤ R.length + l.length := by
  induction l with
  | nil => intro R _; exact ⟨fun x => by simp [ofR], by simp [ofR]⟩
  | cons c l ih =>
    intro R h; simp only [List.length_cons] at h; have hl : (G6 R c).length ≤ R.length + 1 := by
      unfold G6; split <;> simp
    have hm : ∀ x, x ∈ G6 R c ↔ x ∈ R ∨ (x = c ∧ I1 x = 0) := fun x => by
      unfold G6; split
      · rename_i hh
        simp only [List.mem_append, List.mem_singleton]; refine or_congr_right ⟨fun e => ⟨e, by rw [e]; exact hh.1⟩, fun e => e.1⟩
      · rename_i hh
        refine ⟨.inl, fun hx => hx.elim id ?_⟩; rintro ⟨rfl, h0⟩; refine Classical.byContradiction fun hn => hh ⟨h0, hn, by omega⟩
    obtain ⟨i1, i2⟩ := ih (R := G6 R c) (by omega); refine ⟨fun x => ?_, ?_⟩
    · show x ∈ ofR (G6 R c) l ↔ _
      rw [i1, hm, or_assoc]; refine or_congr_right ?_; simp only [List.mem_cons]; constructor
      · rintro (⟨h1, h2⟩ | ⟨h1, h2⟩)
        · exact ⟨.inl h1, h2⟩
        · exact ⟨.inr h1, h2⟩
      · rintro ⟨h1 | h1, h2⟩
        · exact .inl ⟨h1, h2⟩
        · exact .inr ⟨h1, h2⟩
    · show (ofR (G6 R c) l).length ≤ _
      simp only [List.length_cons]; omega
theorem b7o {R : List Chg} {c : Chg} (h : R.length < 4096) : S6 R c = I1 c := by
  unfold S6; split
  · rfl
  · rename_i h0
    have h0 : I1 c = 0 := (by simpa using h0); split
    · exact h0.symm
    · rw [if_neg (by omega)]; exact h0.symm
theorem c4J {R : List Chg} (h : a6k R) {id : Str} (hid : id ∈ B8 R) : List.length id = 22 := by
  obtain ⟨⟨c, hc, rfl⟩, _⟩ := a2l.1 hid; have ho := a0z.1 (h.ok _ hc); obtain ⟨h3, h4⟩ := a4r (c := (N8 (idC c)).1) (s := idC c) (by rw [← ho.id]); rw [← h3, a3l h4]
theorem b0z {R : List Chg} {id : Str} (h : id ∉ B8 R) : N6 R id = (([], []), false) := by unfold N6; rw [if_neg h]
theorem c4D {R : List Chg} {c : Chg} (hc : c ∈ R) (h2 : opC c = 2) : idC c ∉ B8 R := fun h => by
  obtain ⟨_, h3⟩ := a2l.1 h; have : (abF R (idC c)).rm = true := by
    rw [b4W, List.any_eq_true]; exact ⟨c, hc, by simp [h2]⟩
  simp [a2a, this] at h3
def T1I (l : List Chg) (c : Chg) (s t : Nat) (k : Nat) (τ : St) : Prop := τ 0 = .d (H6 l) ∧ τ 3 = .box (A8 c) ∧ τ 5 = .d (.raw (va s)) ∧ τ 6 = .d (.raw (va t)) ∧ τ 7 = .d (.int .i64 k) ∧ StF τ 1000000 s (ofR [] (l.take k)) ∧ StF τ 3000000 t []
def T2I (l : List Chg) (c : Chg) (s t : Nat) (k : Nat) (τ : St) : Prop := τ 0 = .d (H6 l) ∧ τ 3 = .box (A8 c) ∧ τ 5 = .d (.raw (va s)) ∧ τ 6 = .d (.raw (va t)) ∧ τ 8 = .d (.int .i64 k) ∧ StF τ 1000000 s (G6 (ofR [] l) c) ∧ StF τ 3000000 t (ofR (G6 [] c) (l.take k))
theorem c2X (l : List Chg) (c : Chg) (hl : l.length ≤ 140737488351232) : Ctr prog 4 [.d (H6 l), .d (A8 c)] (.d (.bool true)) := by
  have a1 := c3o; have s1 := b5u l hl; have s2 := b5u [c] (by simp); have ec : A8 c = .agg [B6 c.1, .int .i64 (opC c), .str (idC c), .str c.2.2.2.1, .str c.2.2.2.2.1, .str c.2.2.2.2.2] := rfl; have hw : ∀ c, B0 (A8 c) = 8 := fun _ => rfl
  simp only [H6, List.map_cons, List.map_nil] at s1 s2; refine fv (fun i => i == 5000023 || i == 5000024 || i == 5000042 || i == 5000045 || i == 5000050 || i == 5000062 || i == 5000067 || i == 5000078 || i == 5000090) func4 (by kernel_rfl) rfl rfl rfl rfl rfl ?_; rcases Classical.em (a2A l = true) with q1 | q1
  · rw [q1] at s1; rcases Classical.em (a2A [c] = true) with q2 | q2
    · rw [q2] at s2; obtain ⟨hl14, hfl⟩ := b2W q1; have hfc : Q2 c := (b2W q2).2 c (by simp); rw [ec] at s2; simp -implicitDefEqProofs [H6, ec, A4]; refine A3 s1 ?_; simp -implicitDefEqProofs [H6, ec, A4]; refine A3 s2 ?_; simp -implicitDefEqProofs [H6, ec, A4]; refine b9W 1000000 (Nat.le_refl _) (by omega) (fun s τ1 hF1 f1 o1 p1 => ?_); have t10 : τ1 0 = .d (H6 l) := o1.dd (by omega) (by omega) (by simp [H6]); have t13 : τ1 3 = .box (A8 c) := o1.bx (by omega) (by omega) (by simp [ec]); simp -implicitDefEqProofs [f1, t10, t13, ec, A4]; refine b9W 3000000 (by omega) (by omega) (fun t τ2 hG2 f2 o2 p2 => ?_); have t20 : τ2 0 = .d (H6 l) := o2.dd (by omega) (by omega) (by simp [t10]); have t23 : τ2 3 = .box (A8 c) := o2.bx (by omega) (by omega) (by simp [t13]); have t223 : τ2 23 = .d (.raw (va s)) := o2.dd (by omega) (by omega) (by simp [f1]); have hF2 : StF τ2 1000000 s [] := p2.st hF1 (Nat.le_refl _) (by omega); simp -implicitDefEqProofs [f2, t20, t23, t223, ec, A4]; refine H3 l.length (T1I l c s t) ⟨by simp [t20], by simp [t23], by simp, by simp, by simp, by (repeat (first | exact hF2 | refine StF.put ?_ (by omega) | refine StF.setv ?_ (by omega) | refine StF.clean ?_ _)), by (repeat (first | exact hG2 | refine StF.put ?_ (by omega) | refine StF.setv ?_ (by omega) | refine StF.clean ?_ _))⟩ ?_; rintro k τ hk ⟨h0, h3, h5, h6, h7, hF, hG⟩; rcases Nat.lt_or_ge k l.length with hlt | hlt
      · have hlt' : (k : Int) < l.length := (by omega); obtain ⟨x, hx⟩ : ∃ x, l[k] = x := ⟨_, rfl⟩; have hfx : Q2 x := by rw [← hx]; exact hfl _ (gmm _)
        have ex : A8 x = .agg [B6 x.1, .int .i64 (opC x), .str (idC x), .str x.2.2.2.1, .str x.2.2.2.2.1, .str x.2.2.2.2.2] := rfl; have hR2 : ofR [] (l.take (k + 1)) = G6 (ofR [] (l.take k)) x := by rw [G5 hlt, hx]; simp [ofR]
        simp -implicitDefEqProofs [h0, h3, h5, h6, h7, hlt, hlt', H6, hx, ex, A4]; rw [← ex]; refine a8w (R := ofR [] (l.take k)) 1000000 s (Nat.le_refl _) (by omega) (by (repeat (first | exact hF | refine StF.put ?_ (by omega) | refine StF.setv ?_ (by omega) | refine StF.clean ?_ _))) hfx (fun τ3 hF3 f3 o3 p3 => ?_); rw [← hR2] at hF3; have u0 : τ3 0 = .d (H6 l) := o3.dd (by omega) (by omega) (by simp [h0]); have u3 : τ3 3 = .box (A8 c) := o3.bx (by omega) (by omega) (by simp [h3]); have u5 : τ3 5 = .d (.raw (va s)) := o3.dd (by omega) (by omega) (by simp [h5]); have u6 : τ3 6 = .d (.raw (va t)) := o3.dd (by omega) (by omega) (by simp [h6]); have u7 : τ3 7 = .d (.int .i64 k) := o3.dd (by omega) (by omega) (by simp [h7]); have hG3 : StF τ3 3000000 t [] := p3.st (by (repeat (first | exact hG | refine StF.put ?_ (by omega) | refine StF.setv ?_ (by omega) | refine StF.clean ?_ _))) (by omega) (by omega); simp -implicitDefEqProofs [u0, u3, u5, u6, u7]; exact ⟨by omega, E8 hlt ⟨by simp [u0], by simp [u3], by simp [u5], by simp [u6], by simp, by (repeat (first | exact hF3 | refine StF.put ?_ (by omega) | refine StF.setv ?_ (by omega) | refine StF.clean ?_ _)), by (repeat (first | exact hG3 | refine StF.put ?_ (by omega) | refine StF.setv ?_ (by omega) | refine StF.clean ?_ _))⟩⟩
      · have hlt' : ¬ (k : Int) < l.length := (by omega); have hlt'' : ¬ k < l.length := (by omega); rw [ttl hlt] at hF; obtain ⟨m1, n1⟩ := a6c (R := []) (l := l) (by simp; omega); simp only [List.length_nil, Nat.zero_add] at n1; have hE : S6 (ofR [] l) c = I1 c := b7o (by omega); simp -implicitDefEqProofs [h0, h3, h5, h6, h7, hlt', hlt'', H6, ec, A4]; rw [← ec]; refine a8w (R := ofR [] l) 1000000 s (Nat.le_refl _) (by omega) (by (repeat (first | exact hF | refine StF.put ?_ (by omega) | refine StF.setv ?_ (by omega) | refine StF.clean ?_ _))) hfc (fun τ3 hF3 f3 o3 p3 => ?_); rw [hE] at f3; have u0 : τ3 0 = .d (H6 l) := o3.dd (by omega) (by omega) (by simp [h0]); have u3 : τ3 3 = .box (A8 c) := o3.bx (by omega) (by omega) (by simp [h3]); have u5 : τ3 5 = .d (.raw (va s)) := o3.dd (by omega) (by omega) (by simp [h5]); have u6 : τ3 6 = .d (.raw (va t)) := o3.dd (by omega) (by omega) (by simp [h6]); have hG3 : StF τ3 3000000 t [] := p3.st (by (repeat (first | exact hG | refine StF.put ?_ (by omega) | refine StF.setv ?_ (by omega) | refine StF.clean ?_ _))) (by omega) (by omega); rcases Classical.em (I1 c = 0) with h00 | h00
        · rw [h00] at f3; simp -implicitDefEqProofs [u0, u3, u5, u6, f3, ec, A4]; rw [← ec]; refine a8w (R := []) 3000000 t (by omega) (by omega) (by (repeat (first | exact hG3 | refine StF.put ?_ (by omega) | refine StF.setv ?_ (by omega) | refine StF.clean ?_ _))) hfc (fun τ4 hG4 f4 o4 p4 => ?_); have v0 : τ4 0 = .d (H6 l) := o4.dd (by omega) (by omega) (by simp [u0]); have v3 : τ4 3 = .box (A8 c) := o4.bx (by omega) (by omega) (by simp [u3, ec]); have v5 : τ4 5 = .d (.raw (va s)) := o4.dd (by omega) (by omega) (by simp [u5]); have v6 : τ4 6 = .d (.raw (va t)) := o4.dd (by omega) (by omega) (by simp [u6]); have hF4 : StF τ4 1000000 s (G6 (ofR [] l) c) := p4.st (by (repeat (first | exact hF3 | refine StF.put ?_ (by omega) | refine StF.setv ?_ (by omega) | refine StF.clean ?_ _))) (by omega) (by omega); simp -implicitDefEqProofs [v0, v3, v5, v6, ec, A4]; refine H3 l.length (T2I l c s t) ⟨by simp [v0], by simp [v3], by simp [v5], by simp [v6], by simp, by (repeat (first | exact hF4 | refine StF.put ?_ (by omega) | refine StF.setv ?_ (by omega) | refine StF.clean ?_ _)), by (repeat (first | exact hG4 | refine StF.put ?_ (by omega) | refine StF.setv ?_ (by omega) | refine StF.clean ?_ _))⟩ ?_; clear u0 u3 u5 u6 v0 v3 v5 v6 h0 h3 h5 h6 h7 hF hG hF3 hG3 hF4 hG4; clear f3 o3 p3 f4 o4 p4 f1 o1 p1 f2 o2 p2; rintro j τ hj ⟨h0, h3, h5, h6, h8, hF, hG⟩; rcases Nat.lt_or_ge j l.length with hjl | hjl
          · have hjl' : (j : Int) < l.length := (by omega); obtain ⟨x, hx⟩ : ∃ x, l[j] = x := ⟨_, rfl⟩; have hfx : Q2 x := by rw [← hx]; exact hfl _ (gmm _)
            have ex : A8 x = .agg [B6 x.1, .int .i64 (opC x), .str (idC x), .str x.2.2.2.1, .str x.2.2.2.2.1, .str x.2.2.2.2.2] := rfl; have hR2 : ofR (G6 [] c) (l.take (j + 1)) = G6 (ofR (G6 [] c) (l.take j)) x := by rw [G5 hjl, hx]; simp [ofR]
            simp -implicitDefEqProofs [h0, h3, h5, h6, h8, hjl, hjl', H6, hx, ex, A4]; rw [← ex]; refine a8w (R := ofR (G6 [] c) (l.take j)) 3000000 t (by omega) (by omega) (by (repeat (first | exact hG | refine StF.put ?_ (by omega) | refine StF.setv ?_ (by omega) | refine StF.clean ?_ _))) hfx (fun τ3 hG3 f3 o3 p3 => ?_); rw [← hR2] at hG3; have u0 : τ3 0 = .d (H6 l) := o3.dd (by omega) (by omega) (by simp [h0]); have u3 : τ3 3 = .box (A8 c) := o3.bx (by omega) (by omega) (by simp [h3]); have u5 : τ3 5 = .d (.raw (va s)) := o3.dd (by omega) (by omega) (by simp [h5]); have u6 : τ3 6 = .d (.raw (va t)) := o3.dd (by omega) (by omega) (by simp [h6]); have u8 : τ3 8 = .d (.int .i64 j) := o3.dd (by omega) (by omega) (by simp [h8]); have hF3 : StF τ3 1000000 s (G6 (ofR [] l) c) := p3.st (by (repeat (first | exact hF | refine StF.put ?_ (by omega) | refine StF.setv ?_ (by omega) | refine StF.clean ?_ _))) (by omega) (by omega); simp -implicitDefEqProofs [u0, u3, u5, u6, u8]; exact ⟨by omega, E8 hjl ⟨by simp [u0], by simp [u3], by simp [u5], by simp [u6], by simp, by (repeat (first | exact hF3 | refine StF.put ?_ (by omega) | refine StF.setv ?_ (by omega) | refine StF.clean ?_ _)), by (repeat (first | exact hG3 | refine StF.put ?_ (by omega) | refine StF.setv ?_ (by omega) | refine StF.clean ?_ _))⟩⟩
          · have hjl' : ¬ (j : Int) < l.length := (by omega); have hjl'' : ¬ j < l.length := (by omega); rw [ttl hjl] at hG; have hmS : ∀ x, x ∈ G6 (ofR [] l) c ↔ (x ∈ l ∧ I1 x = 0) ∨ x = c := fun x => by
              have := (a6c (R := ofR [] l) (l := [c]) (by simp; omega)).1 x; have e : ofR (ofR [] l) [c] = G6 (ofR [] l) c := rfl; rw [e, m1] at this; rw [this]; simp only [List.not_mem_nil, false_or, List.mem_singleton]; refine or_congr_right ⟨fun h => h.1, fun h => ⟨h, by rw [h]; exact h00⟩⟩
            have hmT : ∀ x, x ∈ ofR (G6 [] c) l ↔ (x ∈ l ∧ I1 x = 0) ∨ x = c := fun x => by
              have h1 := (a6c (R := []) (l := [c]) (by simp)).1 x; have e : ofR [] [c] = G6 [] c := rfl; rw [e] at h1; have h2 : (G6 [] c).length ≤ 1 := by unfold G6; split <;> simp
              rw [(a6c (R := G6 [] c) (l := l) (by omega)).1 x, h1]; simp only [List.not_mem_nil, false_or, List.mem_singleton]; constructor
              · rintro (h | h)
                · exact .inr h.1
                · exact .inl h
              · rintro (h | h)
                · exact .inr h
                · exact .inl ⟨h, by rw [h]; exact h00⟩
            have hSS : b8d (G6 (ofR [] l) c) (ofR (G6 [] c) l) := c2n hF.1.ok fun x => by rw [hmS, hmT]
            have hcS : c ∈ G6 (ofR [] l) c := (hmS c).2 (.inr rfl); generalize G6 (ofR [] l) c = RS at *; generalize ofR (G6 [] c) l = RT at *; have hGS := a6J hF.1; have hGT := a6J hG.1; have en : ∀ id x, StD RS x → _ := fun id x hx => a6o RS x id hx hGS
            have enE := enters_of func21 (by kernel_rfl) rfl; have c20 := c6s l (by omega); have hal := fun (X : List Str) (hX : X.length < 1000000) x y (hx : StD RS x) (hy : StD RT y) => c2t RS RT x y hx hy hGS hGT hSS X hX
            simp -implicitDefEqProofs [h0, h3, h5, h6, h8, hjl', hjl'', H6, ec, A4]; refine a0r (ds := [.str (idC c)]) 1000000 s (Nat.le_refl _) (by omega) (by (repeat (first | exact hF | refine StF.put ?_ (by omega) | refine StF.setv ?_ (by omega) | refine StF.clean ?_ _))) enE (fun x hx => en (idC c) x hx) (a3C _ _ _) (fun τ5 hF5 f5 o5 p5 => ?_); have w0 : τ5 0 = .d (H6 l) := o5.dd (by omega) (by omega) (by simp [h0]); have w3 : τ5 3 = .box (A8 c) := o5.bx (by omega) (by omega) (by simp [h3, ec]); have w5 : τ5 5 = .d (.raw (va s)) := o5.dd (by omega) (by omega) (by simp [h5]); have w6 : τ5 6 = .d (.raw (va t)) := o5.dd (by omega) (by omega) (by simp [h6]); have hG5 : StF τ5 3000000 t RT := p5.st (by (repeat (first | exact hG | refine StF.put ?_ (by omega) | refine StF.setv ?_ (by omega) | refine StF.clean ?_ _))) (by omega) (by omega); obtain ⟨⟨⟨es, ea⟩, eb⟩, hee⟩ : ∃ p, N6 RS (idC c) = p := ⟨_, rfl⟩; rw [hee] at f5; have hE2 : a1a es ea = .agg [.str es, .sl (ea.map att)] := rfl; simp only [hE2] at f5; have hrm : opC c = 2 → eb = false := fun h2 => by
              rw [b0z (c4D hcS h2)] at hee; simp only [Prod.mk.injEq] at hee; exact hee.2.symm
            simp only [H6] at c20; simp -implicitDefEqProofs [w0, w3, w5, w6, f5, H6, ec, A4]; refine E0 c20 ?_; simp -implicitDefEqProofs [w0, w3, w5, w6, f5, H6, ec, A4]; have hstrs : C6 (l.map idC ++ [idC c]) = .sl (l.map (D.str ∘ idC) ++ [.str (idC c)]) := (by simp [C6]); have h22 : (l.map idC ++ [idC c]).length < 1000000 := by simp; omega
            have hal := hal (l.map idC ++ [idC c]) h22; rw [hstrs] at hal; refine ⟨by omega, by omega, ?_⟩; refine c2c (ds := [.sl (l.map (D.str ∘ idC) ++ [.str (idC c)])]) (res := .d (.bool true)) (d := 78) 1000000 s 3000000 t (Nat.le_refl _) (by omega) (by omega) (by omega) ?_ ?_ (enters_of func22 (by kernel_rfl) rfl) hal rfl (fun τ6 hF6 hG6 f6 o6 _ => ?_)
            · (repeat (first | exact hF5 | refine StF.put ?_ (by omega) | refine StF.setv ?_ (by omega) | refine StF.clean ?_ _))
            · (repeat (first | exact hG5 | refine StF.put ?_ (by omega) | refine StF.setv ?_ (by omega) | refine StF.clean ?_ _))
            have x3 : τ6 3 = .box (A8 c) := o6.bx (by omega) (by omega) (by simp [w3, ec]); have x5 : τ6 5 = .d (.raw (va s)) := o6.dd (by omega) (by omega) (by simp [w5]); have x10 : τ6 10 = .d (.bool eb) := o6.dd (by omega) (by omega) (by simp); have hnone : N6 RS [110, 111, 110, 101] = (([], []), false) := b0z fun h => by
              have := c4J hF.1 h; simp at this
            have en2 := fun x hx => en [110, 111, 110, 101] x hx
            rw [hnone] at en2; rcases Classical.em (opC c = 2) with h2 | h2
            · have heb := hrm h2; subst heb; simp -implicitDefEqProofs [f6, x3, x5, x10, ec, A4, h2]; refine a0r (ds := [.str [110, 111, 110, 101]]) 1000000 s (Nat.le_refl _) (by omega) (by (repeat (first | exact hF6 | refine StF.put ?_ (by omega) | refine StF.setv ?_ (by omega) | refine StF.clean ?_ _))) enE en2 (a3C _ _ _) (fun τ7 hF7 f7 o7 p7 => ?_); have hE3 : a1a [] [] = .agg [.str [], .sl []] := rfl; simp only [hE3] at f7; simp -implicitDefEqProofs [f7]; refine A3 a1 ?_; simp -implicitDefEqProofs [f7]
            · simp -implicitDefEqProofs [f6, x3, x5, x10, ec, A4, h2]; refine a0r (ds := [.str [110, 111, 110, 101]]) 1000000 s (Nat.le_refl _) (by omega) (by (repeat (first | exact hF6 | refine StF.put ?_ (by omega) | refine StF.setv ?_ (by omega) | refine StF.clean ?_ _))) enE en2 (a3C _ _ _) (fun τ7 hF7 f7 o7 p7 => ?_); have hE3 : a1a [] [] = .agg [.str [], .sl []] := rfl; simp only [hE3] at f7; simp -implicitDefEqProofs [f7]; refine A3 a1 ?_; simp -implicitDefEqProofs [f7]
        · simp -implicitDefEqProofs [u0, u3, u5, u6, f3, h00]; refine A3 a1 ?_; simp -implicitDefEqProofs [u0, u3, u5, u6, f3, h00]
    · have q2' : a2A [c] = false := (by simpa using q2); rw [q2'] at s2; rw [ec] at s2; simp -implicitDefEqProofs [H6, ec, A4]; refine A3 s1 ?_; simp -implicitDefEqProofs [H6, ec, A4]; refine A3 s2 ?_; simp -implicitDefEqProofs [H6, ec, A4]; refine A3 a1 ?_; simp -implicitDefEqProofs [H6, ec, A4]
  · have q1' : a2A l = false := (by simpa using q1); rw [q1'] at s1; simp -implicitDefEqProofs [H6, ec, A4]; refine A3 s1 ?_; simp -implicitDefEqProofs [H6, ec, A4]; refine A3 a1 ?_; simp -implicitDefEqProofs [H6, ec, A4]
end Go.Proofs.Tz
namespace Go.Proofs.Tz
open Go.Vw
end Go.Proofs.Tz
namespace Go.Proofs.Tz
open Go.Vw Go.RowKit Go.Proofs
theorem c1w {d : D} (h : Sh.Fits (.agg [.int .i64, .int .i64, .int .i64]) d) : ∃ x : Csn, d = B6 x := by
  simp only [Sh.Fits, Sh.FitsL] at h; obtain ⟨ds, rfl, x, xs, rfl, ⟨a, rfl, _⟩, y, ys, rfl, ⟨b, rfl, _⟩, z, zs, rfl, ⟨c, rfl, _⟩, rfl⟩ := h; exact ⟨(a, b, c), rfl⟩
theorem fits_chg {d : D} (h : Sh.Fits (.agg [.agg [.int .i64, .int .i64, .int .i64], .int .i64, .str, .str, .str, .str]) d) : ∃ x : Chg, d = A8 x := by
  simp only [Sh.Fits, Sh.FitsL] at h; obtain ⟨ds, rfl, n, ns, rfl, hn, o, os, rfl, ⟨ov, rfl, _⟩, i, is, rfl, ⟨iv, rfl, _⟩, m, ms, rfl, ⟨mv, rfl, _⟩, a, az, rfl, ⟨av, rfl, _⟩, v, vs, rfl, ⟨vv, rfl, _⟩, rfl⟩ := h; obtain ⟨c, rfl⟩ := c1w (by simp only [Sh.Fits, Sh.FitsL]; exact hn); exact ⟨(c, ov, iv, mv, av, vv), rfl⟩
theorem fits_chgs {d : D} (h : Sh.Fits (.sl (.agg [.agg [.int .i64, .int .i64, .int .i64], .int .i64, .str, .str, .str, .str])) d) : ∃ x : List Chg, d = H6 x := by
  rw [Sh.Fits] at h; obtain ⟨ds, rfl, _, hd⟩ := h; have key : ∀ (ds : List D), (∀ x ∈ ds, Sh.Fits (.agg [.agg [.int .i64, .int .i64, .int .i64], .int .i64, .str, .str, .str, .str]) x) → ∃ l : List Chg, ds = l.map A8 := by
    intro ds
    induction ds with
    | nil => intro _; exact ⟨[], rfl⟩
    | cons d ds ih =>
      intro h; obtain ⟨x, rfl⟩ := fits_chg (h d (by simp)); obtain ⟨l, rfl⟩ := ih (fun y hy => h y (by simp [hy])); exact ⟨x :: l, rfl⟩
  obtain ⟨l, rfl⟩ := key ds hd; exact ⟨l, rfl⟩
theorem c2j {l : List Chg} (h : D.lim 140737488351232 (H6 l)) : l.length ≤ 140737488351232 := by
  simpa [H6, D.lim] using h.1
theorem MergeTombs_ok (l : List Chg) (c : Chg) (hb : D.lims 140737488351232 [H6 l, A8 c]) : Ctr prog 4 [.d (H6 l), .d (A8 c)] (.d (.bool true)) := by
  obtain ⟨h1, _⟩ := hb; exact c2X l c (c2j h1)
end Go.Proofs.Tz