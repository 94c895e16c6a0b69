/-
  What the functions that the statements about merged states reach compute, part 5 of 6, for data of bounded size (each theorem states its bound).
-/import Derived.Test.YtnknfnfinhagoaaGreatDoorTd
import Derived.Test.YtnknfnfinhagoaaGreatDoorWc
import Derived.Test.YtnknfnfinhagoaaGreatDoorTa
import Derived.Test.YtnknfnfinhagoaaGreatDoorWd
import Derived.Shelf.SlSortCmp.NoneTotal
import Derived.Test.YtnknfnfinhagoaaGreatDoorTc
open List
open Go.Proofs.Tryz
set_option linter.unusedSimpArgs false
set_option linter.unusedVariables false
set_option maxRecDepth 100000
set_option maxHeartbeats 8000000
namespace Go.Proofs.Tz
open Go.Vw Go.RowKit Go.Proofs Go.Sort
structure a1b (R : List Chg) : Prop where
 few : (S4 R).length < 5000
 name : ∀ id ∈ A9 R, b4L (G2 R id) id
 vals : ∀ id, (abF R id).vs.length < 5000 /\ ∀ p ∈ (abF R id).vs, List.length p.1.1 < 900000 /\ List.length p.1.2 < 900000
theorem a1b.lt {R : List Chg} (h : a1b R) : (S4 R).length < 100000 := by have := h.few; omega
theorem b8R (R : List Chg) (d : D) (hd : StD R d) (hG : a1b R) : G1 prog 63 [.d d] [] (fun r hs' => hs' = [] /\ ∃ g N bs clk, Perm N (P2 R (A9 R)) /\ r = .d (smD g N bs clk)) := c5B (b3r R d hd hG.lt)
theorem a1T (R : List Chg) (d : D) (hd : StD R d) (hG : a1b R) : G1 prog 42 [.d d] [] (fun r hs' => hs' = [] /\ ∃ g N bs clk, Perm N (a1Z R) /\ r = .d (smD g N bs clk)) := c5B (b4G R d hd hG.lt hG.name)
theorem a5g (R : List Chg) : (a1Z R).map (·.1) = A9 R := by simp [a1Z, Function.comp_def]
theorem a2Z {R : List Chg} {N : SM} (hN : Perm N (a1Z R)) (id : Str) : J1 N id = if id ∈ A9 R then some (C7 R id) else none := by
 rw [b0w hN (by rw [a5g]; exact X7 R)]; by_cases h : id ∈ A9 R
 . rw [if_pos h]; have hn := X7 R; unfold a1Z J1; generalize A9 R = l at *
   induction l with
   | nil => simp at h
   | cons x l ih =>
     rw [nodup_cons] at hn; by_cases hx : x = id
     . subst hx; simp
     . rcases mem_cons.1 h with e | h
       . exact absurd e.symm hx
       . have := ih h hn.2; simp only [map_cons, find?_cons, decide_eq_false hx] at this ⊢; exact this
 . rw [if_neg h, a6J]; intro p hp e; exact h (by rw [<- a5g, <- e]; exact mem_map.2 ⟨p, hp, rfl⟩)
theorem R8 (N : SM) : ∀ k ∈ N.map (fun p => D.str p.1), F4 prog 9 k = true := by
 intro k hk; obtain ⟨x, _, rfl⟩ := mem_map.1 hk; exact G4 _
theorem a2d (N : SM) (k : Str) : M6 ((N.map fun p => D.str p.1).zip (N.map fun p => D.str p.2)) (.str k) = (J1 N k).map .str := by rw [c1Q, a3w]
def O8 (R : List Chg) (n : Str) : Str × Bool := match (A9 R).find? fun id => decide (C7 R id = n) with
 | some id => (id, true)
 | none => ([], false)
def noF (R : List Chg) (n : Str) (k : Nat) : Prop := O8 R n = match ((A9 R).drop k).find? fun id => decide (C7 R id = n) with
 | some id => (id, true)
 | none => ([], false)
theorem b3V (R : List Chg) (n : Str) : noF R n 0 := by simp [noF, O8]
theorem b6Z {R : List Chg} {n : Str} {k : Nat} (h : noF R n k) (hk : k < (A9 R).length) (he : C7 R (A9 R)[k] = n) : O8 R n = ((A9 R)[k], true) := by
 rw [noF, drop_eq_getElem_cons hk, find?_cons_of_pos (by simpa using he)] at h; exact h
theorem b4u {R : List Chg} {n : Str} {k : Nat} (h : noF R n k) (hk : k < (A9 R).length) (he : ¬ C7 R (A9 R)[k] = n) : noF R n (k + 1) := by
 rw [noF, drop_eq_getElem_cons hk, find?_cons_of_neg (by simpa using he)] at h; exact h
theorem b6O {R : List Chg} {n : Str} {k : Nat} (h : noF R n k) (hk : (A9 R).length <= k) : O8 R n = ([], false) := by
 rw [noF, drop_eq_nil_of_le hk] at h; exact h
def FnI (R : List Chg) (n : Str) (g : Nat) (N : SM) (bs : List Nat) (clk : Nat) (k : Nat) (τ : St) : Prop := τ 1 = .d (.str n) /\ τ 6 = .d (smD g N bs clk) /\ τ 15 = .own false 9 ((A9 R).map .str) /\ τ 16 = .d (.int .i64 (A9 R).length) /\ τ 17 = .d (.int .i64 k) /\ noF R n k
theorem b1L (R : List Chg) (d : D) (n : Str) (hd : StD R d) (hG : a1b R) : Ctr prog 15 [.d d, .d (.str n)] (.tup [.d (.str (O8 R n).1), .d (.bool (O8 R n).2)]) := by
 have hdi := a1T R d hd hG; have hlv := a4f R d hd hG.lt; obtain ⟨u1, R1, bs1, c1, u2, M, bs2, c2, rfl, hR1, hM⟩ := hd.open; have hll := Q6 R; have hlt := hG.lt; have hre := a2U u1 R1 bs1 c1 u2 M bs2 c2; obtain ⟨sd, hsd⟩ : ∃ sd, U3 u1 R1 bs1 c1 u2 M bs2 c2 = sd := ⟨_, rfl⟩; rw [hsd] at hdi hlv hre ⊢; refine G6 (rv := .tmp 4) (rs := [.tmp 5]) (r := .d (.str (O8 R n).1)) (ys := [.d (.bool (O8 R n).2)]) (fun i => i == 5000013) (by kernel_rfl) func15 (by kernel_rfl) rfl rfl (by simp) (nbl rfl) (by kernel_rfl) rfl rfl ?_; simp -implicitDefEqProofs; refine A0 hre ?_; simp -implicitDefEqProofs; refine b1G hdi ?_; rintro r hs' ⟨rfl, g, N, bs, clk, hN, rfl⟩; refine ⟨rfl, ?_⟩; simp -implicitDefEqProofs; refine A0 hlv ?_; simp -implicitDefEqProofs; refine F3 (A9 R).length (FnI R n g N bs clk) ⟨by simp, by simp, by simp, by simp, by simp, b3V R n⟩ ?_; rintro k τ hk ⟨g1, g6, g15, g16, g17, gN⟩; rcases Nat.lt_or_ge k (A9 R).length with hlt | hlt
 . have hlt' : (k : Int) < (A9 R).length := (by omega); have hin : (A9 R)[k] ∈ A9 R := gmm _; have hge := a2d N (A9 R)[k]; rw [a2Z hN, if_pos hin] at hge; rcases Classical.em (C7 R (A9 R)[k] = n) with he | he
   . rw [b6Z gN hlt he]; simp -implicitDefEqProofs [g1, g6, g15, g16, g17, hlt, hlt', smD]; refine a0a X5 (G4 _) (R8 N) Tryz.zd_9 hge ?_; simp -implicitDefEqProofs [g1, g6, g15, g16, g17, hlt, hlt', smD, he]
   . have hnx := b4u gN hlt he; simp -implicitDefEqProofs [g1, g6, g15, g16, g17, hlt, hlt', smD]; refine a0a X5 (G4 _) (R8 N) Tryz.zd_9 hge ?_; simp -implicitDefEqProofs [g1, g6, g15, g16, g17, hlt, hlt', smD, he]; exact ⟨by omega, B8 hlt ⟨by simp [g1], by simp [g6, smD], by simp [g15], by simp [g16], by simp, hnx⟩⟩
 . rw [b6O gN hlt]; have hlt' : ¬ (k : Int) < (A9 R).length := (by omega); have hlt'' : ¬ k < (A9 R).length := (by omega); simp -implicitDefEqProofs [g1, g6, g15, g16, g17, hlt', hlt'']
def b1p (p : VK × Chg) : Option Att := if opC p.2 = 4 then some (p.1.1, [p.1.2]) else none
def a0t (vs : List (VK × Chg)) : List Att := vs.filterMap b1p
def a0d (R : List Chg) (id : Str) : List Att := G5 (a0t (abF R id).vs)
def a0p (s : Str) (a : List Att) : D := .agg [.str s, H6 a]
theorem b3i {V W : List (VK × Chg)} (h : Perm V W) : G5 (a0t V) = G5 (a0t W) := by
 refine a6F fun n v => ?_
 have : ∀ a, a ∈ a0t V ↔ a ∈ a0t W := fun a => (h.filterMap b1p).mem_iff
 simp only [b1T, this]
theorem b5v {V : List (VK × Chg)} (h : V.length < 5000) (hs : ∀ p ∈ V, List.length p.1.1 < 900000 /\ List.length p.1.2 < 900000) : a4m (a0t V) := by
 have hlen : (a0t V).length <= V.length := length_filterMap_le _ _; have hm : ∀ a ∈ a0t V, List.length a.1 < 900000 /\ a.2.length = 1 := fun a ha => by
   obtain ⟨p, hp, e⟩ := mem_filterMap.1 ha; unfold b1p at e; split at e
   . simp only [Option.some.injEq] at e; subst e; exact ⟨(hs p hp).1, rfl⟩
   . cases e
 refine ⟨⟨by omega, fun a ha => ⟨by have := (hm a ha).1; omega, by have := (hm a ha).2; omega⟩⟩, ?_⟩; have : ∀ l : List Att, (∀ a ∈ l, a.2.length = 1) -> H8 l = l.length := by
   intro l
   induction l with
   | nil => intro _; rfl
   | cons a l ih =>
     intro h; have := ih fun b hb => h b (by simp [hb])
     simp only [H8, map_cons, sum_cons, length_cons] at this ⊢; rw [this, h a (by simp)]; omega
 rw [this _ fun a ha => (hm a ha).2]; omega
theorem c0q (vs : List (VK × Chg)) (k : VK) (c : Chg) : (a3B vs k c).map (·.1) = if vs.any (fun p => decide (p.1 = k)) then vs.map (·.1) else vs.map (·.1) ++ [k] := by
 unfold a3B; split
 . rw [map_map]; refine map_congr_left fun p _ => ?_
   simp only [Function.comp_apply]; split <;> rfl
 . simp
theorem b8V {vs : List (VK × Chg)} (hn : (vs.map (·.1)).Nodup) (k : VK) (c : Chg) : ((a3B vs k c).map (·.1)).Nodup := by
 rw [c0q]; split
 . exact hn
 . rename_i h
   refine nodup_append.2 ⟨hn, by simp, fun x hx z hz => ?_⟩; simp only [mem_singleton] at hz; subst hz; rintro rfl; obtain ⟨p, hp, e⟩ := mem_map.1 hx; exact h (any_eq_true.2 ⟨p, hp, by simpa using e⟩)
theorem a7k (R : List Chg) (id : Str) : ((abF R id).vs.map (·.1)).Nodup := by
 refine M2 (P := fun R => ((abF R id).vs.map (·.1)).Nodup) (by simp [abF, P3]) (fun R c ih => ?_) R; rw [a0J]; split
 . unfold O7; split
   . exact ih
   . split
     . exact ih
     . split
       . exact ih
       . exact b8V ih _ _
 . exact ih
theorem c4r {a b : VK} (h : vkD a = vkD b) : a = b := by
 obtain ⟨a1, a2⟩ := a; obtain ⟨b1, b2⟩ := b; simp only [vkD, D.agg.injEq, List.cons.injEq, D.str.injEq, and_true] at h; rw [h.1, h.2]
structure a4R (V W : List (VK × Chg)) (seen : List D) : Prop where
 eq : seen = W.map fun p => vkD p.1
 nd : W.Nodup
 sub : ∀ p ∈ W, p ∈ V
theorem c6b {V : List (VK × Chg)} (hn : (V.map (·.1)).Nodup) {p q : VK × Chg} (hp : p ∈ V) (hq : q ∈ V) (e : p.1 = q.1) : p = q := by
 obtain ⟨i, hi, e1⟩ := getElem_of_mem hp; obtain ⟨j, hj, e2⟩ := getElem_of_mem hq; have := a8f hn (i := i) (j := j) (by simpa using hi) (by simpa using hj) (by simp [e1, e2, e]); subst this; rw [<- e1, <- e2]
theorem a4R.next {V W : List (VK × Chg)} {seen : List D} (h : a4R V W seen) {p : VK × Chg} (hp : p ∈ V) (hn : vkD p.1 ∉ seen) : a4R V (W ++ [p]) (seen ++ [vkD p.1]) := by
 refine ⟨by rw [h.eq]; simp, ?_, fun q hq => ?_⟩
 . refine nodup_append.2 ⟨h.nd, by simp, fun a ha b hb => ?_⟩; simp only [mem_singleton] at hb; subst hb; rintro rfl; exact hn (by rw [h.eq]; exact mem_map.2 ⟨a, ha, rfl⟩)
 . rcases mem_append.1 hq with hq | hq
   . exact h.sub q hq
   . rw [mem_singleton.1 hq]; exact hp
theorem b7d {V : List (VK × Chg)} (hn : (V.map (·.1)).Nodup) : V.Nodup := (pairwise_map.1 hn).imp fun h e => h (by rw [e])
theorem a4R.le {V W : List (VK × Chg)} {seen : List D} (h : a4R V W seen) (hn : (V.map (·.1)).Nodup) : W.length <= V.length := by
 have hp : W.Perm (V.filter fun p => decide (p ∈ W)) := (perm_ext_iff_of_nodup h.nd ((b7d hn).filter _)).2 fun p => by
   simp only [mem_filter, decide_eq_true_eq]; exact ⟨fun hs => ⟨h.sub p hs, hs⟩, fun hs => hs.2⟩
 rw [hp.length_eq]; exact length_filter_le _ _
theorem a4R.all {V W : List (VK × Chg)} {seen : List D} (h : a4R V W seen) (hn : (V.map (·.1)).Nodup) (ha : ∀ p ∈ V, vkD p.1 ∈ seen) : Perm W V := by
 have hnv : V.Nodup := b7d hn; refine (perm_ext_iff_of_nodup h.nd hnv).2 fun p => ⟨h.sub p, fun hp => ?_⟩
 have := ha p hp; rw [h.eq] at this; obtain ⟨q, hq, e⟩ := mem_map.1 this; rw [<- c6b hn (h.sub q hq) hp (c4r e)]; exact hq
theorem c3R (V : List (VK × Chg)) : (V.map fun p => vkD p.1).zip (V.map fun p => A3 p.2) = V.map fun p => (vkD p.1, A3 p.2) := by
 induction V with
 | nil => rfl
 | cons x V ih => simp only [map_cons, zip_cons_cons, ih]
theorem c2v (a : VK) : I4 (vkD a) (vkD a) = true := by simp [vkD, I4, U6, Y8]
theorem b0m (V : List (VK × Chg)) : ∀ k ∈ V.map (fun p => vkD p.1), I4 k k = true := by
 intro k hk; obtain ⟨x, _, rfl⟩ := mem_map.1 hk; exact c2v _
theorem b9A (c : Chg) : C0 (A3 c) = 8 := rfl
theorem c1u (W : List (VK × Chg)) (p : VK × Chg) : a0t (W ++ [p]) = a0t W ++ (if opC p.2 = 4 then [(p.1.1, [p.1.2])] else []) := by
 simp only [a0t, filterMap_append, filterMap_cons, filterMap_nil, b1p]; split <;> simp_all
def EnI (s : Str) (u : Value) (V : List (VK × Chg)) (bs : List Nat) (clk : Nat) (k : Nat) (τ : St) : Prop := ∃ W seen, a4R V W seen /\ W.length = k /\ τ 2 = .d (.str s) /\ τ 6 = .box (.agg [.str [], .sl []]) /\ τ 7 = .own false 72 ((a0t W).map att) /\
 τ 18 = .d (.map u (V.map fun p => vkD p.1) (V.map fun p => A3 p.2) bs clk) /\ τ 19 = .mit u ((V.map fun p => vkD p.1).zip bs, clk) seen
theorem b3S (R : List Chg) (d : D) (id s : Str) (hd : StD R d) (hG : a1b R) (hin : id ∈ A9 R) : Ctr prog 50 [.d d, .d (.str id), .d (.str s)] (.d (a0p s (a0d R id))) := by
 obtain ⟨u1, R1, bs1, c1, u2, M, bs2, c2, rfl, hR1, hM⟩ := hd.open; obtain ⟨d, hg1, hab⟩ := hM.live hin; obtain ⟨u, V, bs, clk, hd1, hV⟩ := hab; have hvl : V.length < 5000 := by rw [hV.length_eq]; exact (hG.vals id).1
 have hvs : ∀ p ∈ V, List.length p.1.1 < 900000 /\ List.length p.1.2 < 900000 := fun p hp => (hG.vals id).2 p (hV.mem_iff.1 hp)
 rw [<- a6e] at hg1; rw [hd1] at hg1; have hat : a0d R id = G5 (a0t V) := (b3i hV).symm; rw [hat]; refine G6 (rv := .cell 6 48) (rs := []) (r := .d (a0p s (G5 (a0t V)))) (ys := []) (fun i => false) (by kernel_rfl) func50 (by kernel_rfl) rfl rfl (by simp) (nbl rfl) (by kernel_rfl) rfl rfl ?_; simp -implicitDefEqProofs [U3]; refine a0a a3Y (G4 _) (a5a M) Tryz.zd_75 hg1 ?_; simp -implicitDefEqProofs [N0, b9A]; have hVn : (V.map (·.1)).Nodup := (hV.map _).nodup_iff.2 (a7k R id); refine F3 V.length (EnI s u V bs clk) ⟨[], [], ⟨rfl, nodup_nil, by simp⟩, rfl, by simp, by simp, by simp [a0t], by simp, by simp⟩ ?_; rintro k τ hk ⟨W, seen, hS, hsl, g2, g6, g7, g18, g19⟩; have hle := hS.le hVn; simp -implicitDefEqProofs [g2, g6, g7, g18, g19]; refine c6i (vs := V.map fun p => A3 p.2) 18 (by simp [g18]) (b0m V) (fun x v hm hn => ?_) (fun hall => ?_)
 . have hm2 := hm; rw [c3R] at hm2; obtain ⟨p, hp, e⟩ := mem_map.1 hm2; simp only [Prod.mk.injEq] at e; obtain ⟨rfl, rfl⟩ := e; have hS2 := hS.next hp hn; have hlt : k < V.length := by have := hS2.le hVn; simp at this; omega
   have hsn := c1u W p; have chg_eq : A3 p.2 = .agg [A4 p.2.1, .int .i64 (opC p.2), .str p.2.2.2.1, .str p.2.2.2.2.1, .str p.2.2.2.2.2.1, .str p.2.2.2.2.2.2] := rfl; have vk_eq : vkD p.1 = .agg [.str p.1.1, .str p.1.2] := rfl; have hpl : (a0t W).length <= W.length := length_filterMap_le _ _; generalize hT2 : a0t (W ++ [p]) = T2 at *; generalize hT : a0t W = T at *; rcases Classical.em (opC p.2 = 4) with h4 | h4
   all_goals
     simp only [h4, if_true, if_false] at hsn; simp -implicitDefEqProofs [g2, g6, g7, g18, g19]; refine c5W (vs := V.map fun p => A3 p.2) 18 (by simp [g18]) (b0m V) hm ?_; simp -implicitDefEqProofs [g2, g6, g7, g18, g19, chg_eq, vk_eq, A1, h4]
   . refine ⟨by omega, by omega, B8 hlt ⟨W ++ [p], seen ++ [vkD p.1], hS2, by simp [hsl], by simp [g2], by simp [g6], by simp [hT2, hsn, att, B0], by simp [g18], by simp [vk_eq]⟩⟩
   . exact B8 hlt ⟨W ++ [p], seen ++ [vkD p.1], hS2, by simp [hsl], by simp [g2], by simp [g6], by simp [g7, hT2, hsn], by simp [g18], by simp [vk_eq]⟩
 . have hp : Perm W V := hS.all hVn fun p hp => hall (vkD p.1, A3 p.2) (by rw [c3R]; exact mem_map.2 ⟨p, hp, rfl⟩)
   have hsort := (b9D (a0t W) (b5v (by omega) fun p hp => hvs p (hS.sub p hp))); rw [b3i hp] at hsort; simp only [H6] at hsort; generalize G5 (a0t V) = A at *; generalize a0t W = T at *; simp -implicitDefEqProofs [g2, g6, g7, g18, g19]; refine A0 hsort ?_; simp -implicitDefEqProofs [g2, g6, g7, g18, g19, a0p, H6]
def H9 (R : List Chg) (id : Str) : (Str × List Att) × Bool := if id ∈ A9 R then ((C7 R id, a0d R id), true) else (([], []), false)
theorem b5O (R : List Chg) (d : D) (id : Str) (hd : StD R d) (hG : a1b R) : Ctr prog 21 [.d d, .d (.str id)] (.tup [.d (a0p (H9 R id).1.1 (H9 R id).1.2), .d (.bool (H9 R id).2)]) := by
 have hdi := a1T R d hd hG; have hen : ∀ s, id ∈ A9 R -> _ := fun s h => b3S R d id s hd hG h
 obtain ⟨u1, R1, bs1, c1, u2, M, bs2, c2, rfl, hR1, hM⟩ := hd.open; have hre := a2U u1 R1 bs1 c1 u2 M bs2 c2; obtain ⟨sd, hsd⟩ : ∃ sd, U3 u1 R1 bs1 c1 u2 M bs2 c2 = sd := ⟨_, rfl⟩; rw [hsd] at hdi hre hen ⊢; rcases Classical.em (id ∈ A9 R) with hin | hin
 . have he : H9 R id = ((C7 R id, a0d R id), true) := (by simp [H9, hin]); rw [he]; have hen := hen (C7 R id) hin; refine G6 (rv := .cell 4 48) (rs := [.tmp 5]) (r := .d (a0p (C7 R id) (a0d R id))) (ys := [.d (.bool true)]) (fun i => i == 5000014) (by kernel_rfl) func21 (by kernel_rfl) rfl rfl (by simp) (nbl rfl) (by kernel_rfl) rfl rfl ?_; simp -implicitDefEqProofs; refine A0 hre ?_; simp -implicitDefEqProofs; refine b1G hdi ?_; rintro r hs' ⟨rfl, g, N, bs, clk, hN, rfl⟩; have hge := a2d N id; rw [a2Z hN, if_pos hin] at hge; refine ⟨rfl, ?_⟩; simp -implicitDefEqProofs [smD]; refine a0a X5 (G4 _) (R8 N) Tryz.zd_9 hge ?_; simp -implicitDefEqProofs; refine A0 hen ?_; simp -implicitDefEqProofs [a0p, H6]
 . have he : H9 R id = (([], []), false) := (by simp [H9, hin]); rw [he]; refine G6 (rv := .cell 4 48) (rs := [.tmp 5]) (r := .d (a0p [] [])) (ys := [.d (.bool false)]) (fun i => i == 5000014) (by kernel_rfl) func21 (by kernel_rfl) rfl rfl (by simp) (nbl rfl) (by kernel_rfl) rfl rfl ?_; simp -implicitDefEqProofs; refine A0 hre ?_; simp -implicitDefEqProofs; refine b1G hdi ?_; rintro r hs' ⟨rfl, g, N, bs, clk, hN, rfl⟩; have hge := a2d N id; rw [a2Z hN, if_neg hin] at hge; refine ⟨rfl, ?_⟩; simp -implicitDefEqProofs [smD]; refine a0a X5 (G4 _) (R8 N) Tryz.zd_9 hge ?_; simp -implicitDefEqProofs [a0p, H6]
theorem b8k (g : FuncId) (cs : List D) (hcs : (cs.all fun c => !c.isAgg) = true) (p : Str -> Bool) (l : List Str) (hl : l.length < 1000000) (hp : ∀ a ∈ l, Ctr prog g ([.d (.str a)] ++ cs.map .d) (.d (.bool (p a)))) :
   Ctr prog 64 [.own true 9 (l.map .str), .d (.clo g cs)] (.own true 9 ((l.filter fun x => !p x).map .str)) := by
 refine fv (fun i => i == 2000010) func64 (by kernel_rfl) rfl rfl rfl rfl rfl ?_; simp -implicitDefEqProofs; refine c4e (b9u g cs hcs p l hl hp) rfl ?_; by_cases hn : a2y p 0 l = -1
 . simp -implicitDefEqProofs [hn, b5m p l 0 hn]
 . obtain ⟨i, h1, h2, h3, h4⟩ := b4I p l 0 hn; simp only [Nat.zero_add] at h1; have e1 : ¬ ((i : Int) = -1) := (by omega); simp -implicitDefEqProofs [h1, e1]; refine ⟨by omega, ?_⟩; refine a2s (fun n τ => ∃ (j q : Nat) (m : List Str), n = l.length - j /\ j <= l.length /\ τ 0 = .own true 9 (m.map .str) /\ τ 1 = .d (.clo g cs) /\ τ 5 = .d (.int .i64 q) /\ τ 6 = .d (.int .i64 j) /\ m.length = l.length /\ q < j /\ m.take q = (l.take j).filter (fun x => !p x) /\ m.drop j = l.drop j)
     (l.length - (i + 1)) ⟨i + 1, i, l, rfl, by omega, by simp, by simp, by simp, by simp, rfl, by omega, h4.symm, rfl⟩ ?_
   rintro n τ ⟨j, q, m, rfl, hj, g0, g1, g5, g6, hm, hq, ht, hd⟩; by_cases hlt : j < l.length
   . have hmj : m[j]'(by omega) = l[j] := by
       have := congrArg (fun x : List Str => x[0]?) hd; simpa [hlt, hm] using this
     have hf := hp _ (gmm hlt); simp only [cons_append, nil_append] at hf; have hlt' : (j : Int) < l.length := (by omega); simp -implicitDefEqProofs [g0, g1, g5, g6, hm, hlt', hlt, hmj]; refine ⟨by simpa using hcs, A0 hf ?_⟩; by_cases he : p l[j] = true
     . simp -implicitDefEqProofs [g0, g1, g5, g6, hm, hlt', hlt, hmj, he]; refine ⟨by omega, _, ?_, j + 1, rfl, by omega, q, m, rfl, rfl, by omega, hm, by omega, ?_, ?_⟩
       . omega
       . rw [F6 hlt, filter_append, ht]; simp [he]
       . rw [<- drop_drop, hd, drop_drop]
     . have hq2 : q < m.length := (by omega); have hqq : m[q]? = some m[q] := getElem?_eq_getElem hq2; simp -implicitDefEqProofs [g0, g1, g5, g6, hm, hlt', hlt, hmj, he, hqq]; refine ⟨by omega, by omega, by omega, _, ?_, j + 1, rfl, by omega, q + 1, m.set q l[j], ?_, by simp, by simp, by simpa using hm, by omega, ?_, ?_⟩
       . omega
       . rw [map_set]
       . rw [take_set, F6 hq2, set_append_right _ _ (by simp; omega)]; simp only [length_take, Nat.min_eq_left (Nat.le_of_lt hq2), Nat.sub_self, set_cons_zero]; rw [F6 hlt, filter_append, ht]; simp [he]
       . rw [drop_set_of_lt (by omega), <- drop_drop, hd, drop_drop]
   . simp -implicitDefEqProofs [g0, g1, g5, g6, hm, hlt]; have hjl : j = l.length := (by omega); subst hjl; refine ⟨by omega, by omega, ?_⟩; rw [take_append_of_le_length (by simp; omega), take_take, Nat.min_self, <- map_take, ht, take_length]
def Z1 (R : List Chg) : List Str := (A9 R).filter fun id => !P4 R id
theorem c5e {R : List Chg} {N : SM} (hN : Perm N (P2 R (A9 R))) (k : Str) : J1 N k = J1 (P2 R (A9 R)) k := by
 refine b0w hN ?_ k; have : ∀ l : List Str, ((P2 R l).map (·.1)).Nodup := fun l => M2 (P := fun l => ((P2 R l).map (·.1)).Nodup) (by simp [P2]) (fun l id ih => by
   rw [a7S]; cases h : J1 (P2 R l) (G2 R id) with
   | some v => simpa using ih
   | none =>
     simp only [Option.isSome_none, Bool.false_eq_true, if_false, map_append, map_cons, map_nil]; refine nodup_append.2 ⟨ih, by simp, fun a ha b hb => ?_⟩; simp only [mem_singleton] at hb; subst hb; rintro rfl; obtain ⟨p, hp, e⟩ := mem_map.1 ha; exact a6J.1 h p hp e) l
 exact this _
theorem c1S (R : List Chg) (sd : D) (hd : StD R sd) (id : Str) (hin : id ∈ A9 R) (hne : id ≠ []) (g : Nat) (N : SM) (bs : List Nat) (clk : Nat) (hN : Perm N (P2 R (A9 R))) :
   Ctr prog 65 ([.d (.str id)] ++ [D.ref (smD g N bs clk), D.ref sd].map .d) (.d (.bool (P4 R id))) := by
 obtain ⟨u1, R1, bs1, c1, u2, M, bs2, c2, rfl, hR1, hM⟩ := hd.open; obtain ⟨d, hg1, hab⟩ := hM.live hin; obtain ⟨u, V, bs', clk', hd1, hV⟩ := hab; have chg_eq : A3 (abF R id).nm = .agg [A4 (abF R id).nm.1, .int .i64 (abF R id).nm.2.1, .str (abF R id).nm.2.2.1, .str (G2 R id), .str (abF R id).nm.2.2.2.2.1, .str (abF R id).nm.2.2.2.2.2] := rfl; rw [<- a6e] at hg1; rw [hd1] at hg1; have hmg := a2d N (G2 R id); rw [c5e hN] at hmg; have hob : P4 R id = decide (J1 (P2 R (A9 R)) (G2 R id) = some id) := rfl; have hlk : ∃ r w, M6 ((N.map fun p => D.str p.1).zip (N.map fun p => D.str p.2)) (.str (G2 R id)) = r /\ a1c false (.str []) r = .d (.str w) /\ (decide (w = id) = P4 R id) := by
   rw [hmg, hob]; cases h : J1 (P2 R (A9 R)) (G2 R id) with
   | none => exact ⟨none, [], rfl, rfl, by simp [Ne.symm hne]⟩
   | some v => exact ⟨some (.str v), v, rfl, rfl, by simp⟩
 obtain ⟨r, w, hr1, hr2, hr3⟩ := hlk; rw [<- hr3]; refine fv (fun _ => false) func65 (by kernel_rfl) rfl rfl rfl rfl rfl ?_; simp -implicitDefEqProofs [smD, U3]; refine a0a a3Y (G4 _) (a5a M) Tryz.zd_75 hg1 ?_; simp -implicitDefEqProofs [N0, chg_eq, A1]; refine a0a X5 (G4 _) (R8 N) Tryz.zd_9 hr1 ?_; rw [hr2]; simp -implicitDefEqProofs
theorem a4w (R : List Chg) (d : D) (hd : StD R d) (hG : a1b R) : Ctr prog 28 [.d d] (.own true 9 ((Z1 R).map .str)) := by
 have how := b8R R d hd hG; have hlv := a4f R d hd hG.lt; have hq : ∀ id ∈ A9 R, ∀ g N bs clk, Perm N (P2 R (A9 R)) -> _ := fun id hin g N bs clk hN => c1S R d hd id hin (hG.name id hin).ne g N bs clk hN
 have hll := Q6 R; have hlt := hG.lt; obtain ⟨u1, R1, bs1, c1, u2, M, bs2, c2, rfl, hR1, hM⟩ := hd.open; have hre := a2U u1 R1 bs1 c1 u2 M bs2 c2; obtain ⟨sd, hsd⟩ : ∃ sd, U3 u1 R1 bs1 c1 u2 M bs2 c2 = .ref sd := ⟨_, rfl⟩; rw [hsd] at how hlv hre hq ⊢; refine fv (fun i => i == 5000008 || i == 10 || i == 12 || i == 2) func28 (by kernel_rfl) rfl rfl rfl rfl rfl ?_; simp -implicitDefEqProofs; refine A0 hre ?_; simp -implicitDefEqProofs; refine b1G how ?_; rintro r hs' ⟨rfl, g, N, bs, clk, hN, rfl⟩; refine ⟨rfl, ?_⟩; have hdl := b8k 65 [D.ref (smD g N bs clk), D.ref (.ref sd)] rfl (P4 R) (A9 R) (by omega) (fun id hid => hq id hid g N bs clk hN); simp -implicitDefEqProofs [smD]; refine A0 hlv ?_; simp -implicitDefEqProofs [smD]; simp only [smD] at hdl; refine A0 hdl ?_; simp -implicitDefEqProofs [Z1]
theorem a6O {s : Str} : H2 s = true ↔ ∃ l, K3 s = some l := by
 unfold H2; rw [Option.isSome_iff_exists]
theorem b4B : K3 [] = some [] := by decide
theorem c4Y {s : Str} {l : List F8} (h : K3 s = some l) : s = [] ↔ l = [] := by
 constructor
 . rintro rfl; rw [b4B] at h; simpa using h.symm
 . rintro rfl; exact b3n h b4B
theorem c2N {p : F8} (h : NP p) : (V5 p).length <= 577 := by
 obtain ⟨h1, h2⟩ := a6M h; simp only [K5, I9, Bool.and_eq_true, decide_eq_true_eq] at h1 h2; have e1 : (Q1 (S8 p.2)).length <= 2 * (S8 p.2).length := by
   unfold Q1; generalize S8 p.2 = s
   induction s with
   | nil => simp
   | cons c s ih =>
     rw [flatMap_cons, length_append, length_cons]; have : (if P5 c = true then [92, c] else [c]).length <= 2 := by split <;> simp
     omega
 have e2 : (S8 p.2).length <= p.2.length := by
   have hq : ∀ (s : Str) (c : UInt8), (sqz c s).length <= s.length := by
     intro s
     induction s with
     | nil => intro c; simp [sqz]
     | cons x s ih =>
       intro c; simp only [sqz]; have := ih x; split <;> simp <;> omega
   unfold S8; have h3 := hq (D2 (F1 p.2)) 0; have h4 : (D2 (F1 p.2)).length = (F1 p.2).length := (by simp [D2]); have h5 : (F1 p.2).length <= p.2.length := a0h p.2; omega
 have e3 : (D2 p.1).length = p.1.length := (by simp [D2]); simp only [V5, length_append, length_cons]; omega
theorem c1a {s : Str} (h : H2 s = true) : s.length <= 5000 := by
 obtain ⟨l, hl⟩ := a6O.1 h; obtain ⟨h1, h8, hs, _⟩ := a2j hl; have key : ∀ l : List F8, (∀ p ∈ l, NP p) -> (D9 44 (l.map V5)).length <= l.length * 578 := by
   intro l
   induction l with
   | nil => intro _; simp [D9]
   | cons p l ih =>
     intro h; have hp := c2N (h p (by simp)); have ih := ih (fun q hq => h q (by simp [hq])); cases l with
     | nil => simp [D9]; omega
     | cons q l =>
       simp only [map_cons, D9, length_append, length_cons] at ih ⊢; omega
 have := key l h1; rw [<- hs] at this; omega
theorem a5y {s : Str} {p : F8} {l : List F8} (h : K3 s = some (p :: l)) : ∃ t, H5 s = (t, true) /\ K3 t = some l := by
 have h8 := (a2j h).2.1; have ha := c1c h h (n := l) (fun q hq => .inl (by simp [hq])) (by simp at h8; omega); refine ⟨_, ?_, ha.2⟩; unfold H5; rw [h]; simp only [ha.1]
theorem c1A {p : F8} (h : O9 p = 0) : (V5 p).length <= 577 := by
 unfold O9 at h; split at h
 . cases h
 . split at h
   . cases h
   . rename_i h1 h2
     simp only [Bool.not_eq_false] at h1 h2; simp only [K5, I9, Bool.and_eq_true, decide_eq_true_eq] at h1 h2; have e1 : (Q1 (S8 p.2)).length <= 2 * (S8 p.2).length := by
       unfold Q1; generalize S8 p.2 = s
       induction s with
       | nil => simp
       | cons c s ih =>
         rw [flatMap_cons, length_append, length_cons]; have : (if P5 c = true then [92, c] else [c]).length <= 2 := by split <;> simp
         omega
     have e2 : (S8 p.2).length <= p.2.length := by
       have hq : ∀ (s : Str) (c : UInt8), (sqz c s).length <= s.length := by
         intro s
         induction s with
         | nil => intro c; simp [sqz]
         | cons x s ih =>
           intro c; simp only [sqz]; have := ih x; split <;> simp <;> omega
       unfold S8; have h3 := hq (D2 (F1 p.2)) 0; have h4 : (D2 (F1 p.2)).length = (F1 p.2).length := (by simp [D2]); have h5 : (F1 p.2).length <= p.2.length := a0h p.2; omega
     have e3 : (D2 p.1).length = p.1.length := (by simp [D2]); simp only [V5, length_append, length_cons]; omega
theorem b6s (l : List F8) : (F9 l).1.length <= 5000 := by
 unfold F9; split
 . rename_i h
   unfold V7 at h; split at h
   . rename_i h1
     split at h
     . cases h
     . have h1 := a3j.1 h1; have key : ∀ l : List F8, (∀ p ∈ l, O9 p = 0) -> (D9 44 (l.map V5)).length <= l.length * 578 := by
         intro l
         induction l with
         | nil => intro _; simp [D9]
         | cons p l ih =>
           intro h; have hp := c1A (h p (by simp)); have ih := ih (fun q hq => h q (by simp [hq])); cases l with
           | nil => simp [D9]; omega
           | cons q l =>
             simp only [map_cons, D9, length_append, length_cons] at ih ⊢; omega
       have := key l h1; simp only; omega
   . rename_i h1; exact absurd h h1
 . simp
def cfK (key : Str -> Str) (a b : Str) : Int := orI [R7 (key a) (key b), a0z a b]
theorem a4g {key : Str -> Str} {a b : Str} : cfK key a b < 0 ↔ R7 (key a) (key b) < 0 \/ (key a = key b /\ a < b) := by
 unfold cfK orI orI orI; by_cases h : R7 (key a) (key b) = 0
 . rw [if_neg (by simpa using h)]; by_cases h2 : a0z a b = 0
   . rw [if_neg (by simpa using h2)]; have := b2e.1 h2; subst this; simp [h]
   . rw [if_pos h2, b5N]; have := a3u.1 h; simp [this, b2A]
 . rw [if_pos h]; have : key a ≠ key b := fun e => h (a3u.2 e)
   simp [this]
theorem a8N (key : Str -> Str) (a : Str) : ¬ cfK key a a < 0 := by
 rw [a4g, b2A]; simp
theorem a3l {key : Str -> Str} {a b c : Str} (h1 : cfK key a b < 0) (h2 : cfK key b c < 0) : cfK key a c < 0 := by
 rw [a4g] at *; rcases h1 with h1 | ⟨h1, h3⟩ <;> rcases h2 with h2 | ⟨h2, h4⟩
 . exact .inl (b7T h1 h2)
 . rw [h2] at h1; exact .inl h1
 . rw [<- h1] at h2; exact .inl h2
 . exact .inr ⟨h1.trans h2, Z8 h3 h4⟩
theorem b6K {key : Str -> Str} {a b : Str} (h1 : ¬ cfK key a b < 0) (h2 : ¬ cfK key b a < 0) : a = b := by
 rw [a4g] at *; have h3 := b2z (key a) (key b); have h4 : R7 (key a) (key b) = 0 := (by omega); have h5 := a3u.1 h4; exact a1f (fun h => h1 (.inr ⟨h5, h⟩)) (fun h => h2 (.inr ⟨h5.symm, h⟩))
theorem a6E (key : Str -> Str) : SWO (ltOf (cfK key)) where
 irrefl x := by simpa [ltOf] using a8N key x
 trans x y z h1 h2 := by
   simp only [ltOf, decide_eq_true_eq] at *; exact a3l h1 h2
 ntrans x y z h1 h2 := by
   simp only [ltOf, decide_eq_false_iff_not] at *; intro h3; by_cases h4 : cfK key y x < 0
   . exact h2 (a3l h4 h3)
   . have := b6K h1 h4; subst this; exact h2 h3
def KS (key : Str -> Str) (l : List Str) : Prop := l.Pairwise fun a b => cfK key a b < 0
theorem a4i {key : Str -> Str} {l : List Str} (hn : l.Nodup) : KS key (N7 (cfK key) l) := by
 obtain ⟨h1, h2⟩ := U4 (a6E key) l; have hn' : (N7 (cfK key) l).Nodup := h1.nodup_iff.2 hn; refine pairwise_iff_getElem.2 fun i j hi hj hij => ?_
 have h3 := h2 i j hij hj; simp only [ltOf, decide_eq_false_iff_not] at h3; refine Classical.byContradiction fun h4 => ?_
 have := b6K h4 h3; exact (pairwise_iff_getElem.1 hn') i j hi hj hij this
theorem b4q {key : Str -> Str} {A B : List Str} (ha : KS key A) (hb : KS key B) (h : A.Perm B) : A = B :=
 h.eq_of_pairwise (fun a b _ _ h1 h2 => absurd (a3l h1 h2) (a8N key a)) ha hb
theorem b2C {key key' : Str -> Str} {l m : List Str} (hn : l.Nodup) (hp : l.Perm m) (hk : ∀ a ∈ l, key a = key' a) : N7 (cfK key) l = N7 (cfK key') m := by
 have h1 := (U4 (a6E key) l).1; have h2 := (U4 (a6E key') m).1; have h3 : (N7 (cfK key) l).Perm (N7 (cfK key') m) := h1.trans (hp.trans h2.symm); refine b4q (key := key) (a4i hn) ?_ h3; have h4 : KS key' (N7 (cfK key') m) := a4i (hp.nodup_iff.1 hn); refine Pairwise.imp_of_mem (fun {a b} ha hb h => ?_) h4; have ha' : a ∈ l := hp.mem_iff.2 (h2.mem_iff.1 ha); have hb' : b ∈ l := hp.mem_iff.2 (h2.mem_iff.1 hb); simp only [cfK, hk a ha', hk b hb'] at h ⊢; exact h
def a0b (N : SM) (id : Str) : Str := (J1 N id).getD []
theorem c1J (g : Nat) (N : SM) (bs : List Nat) (clk : Nat) (hN : ∀ p ∈ N, List.length p.2 < 900000) (a b : Str) :
   Ctr prog 118 ([.d (.str a), .d (.str b)] ++ [D.ref (smD g N bs clk)].map .d) (.d (.int .i64 (cfK (a0b N) a b))) := by
 have hk : ∀ a, List.length (a0b N a) < 900000 := fun a => by
   unfold a0b J1; cases h : N.find? fun p => decide (p.1 = a) with
   | none => simp
   | some p => simpa using hN p (mem_of_find?_eq_some h)
 have hg : ∀ a, ∃ r, M6 ((N.map fun p => D.str p.1).zip (N.map fun p => D.str p.2)) (.str a) = r /\ a1c false (.str []) r = .d (.str (a0b N a)) := fun a => by
   rw [a2d]; unfold a0b; cases J1 N a <;> exact ⟨_, rfl, rfl⟩
 obtain ⟨r1, h1, h2⟩ := hg a; obtain ⟨r2, h3, h4⟩ := hg b; have c1 := b5Z (a0b N a) (a0b N b) (hk a) (hk b); have c2 := a7e a b; have c3 := a6x [R7 (a0b N a) (a0b N b), a0z a b] (by simp); simp only [a2r, map_cons, map_nil] at c3; refine fv (fun i => false) func118 (by kernel_rfl) rfl rfl rfl rfl rfl ?_; simp -implicitDefEqProofs [smD]; refine a0a X5 (G4 _) (R8 N) Tryz.zd_9 h1 ?_; rw [h2]; simp -implicitDefEqProofs; refine a0a X5 (G4 _) (R8 N) Tryz.zd_9 h3 ?_; rw [h4]; simp -implicitDefEqProofs; refine A0 c1 ?_; simp -implicitDefEqProofs; refine A0 c2 ?_; simp -implicitDefEqProofs; refine ⟨by decide, A0 c3 ?_⟩; simp -implicitDefEqProofs [cfK]
theorem c1L (g : Nat) (N : SM) (bs : List Nat) (clk : Nat) (hN : ∀ p ∈ N, List.length p.2 < 900000) (l : List Str) (hl : l.length < 1000000) : a5Z prog 162 9 (l.map .str) [.d (.clo 118 [D.ref (smD g N bs clk)])] ((N7 (cfK (a0b N)) l).map .str) := by
 refine b8c Tryz.layT 9 (by kernel_rfl) (enters_of func162 (by kernel_rfl) rfl) D.str (fun s => Value.string ⟨s.toArray⟩) c1x (cfK (a0b N)) (a6E _) 118 [D.ref (smD g N bs clk)] (by simp [D.isAgg]) (fun x y => c1J g N bs clk hN x y) (fun w cb => ?_) l hl; exact AnyF.slices_SortFunc_none Tryz.layU none 0 _ w
theorem b8e (g q T : Nat) (N : SM) (bs : List Nat) (clk : Nat) (hl : N.length < 1000000) (hk : ∀ p ∈ N, List.length p.1 <= maxLen) (hN : ∀ p ∈ N, List.length p.2 < 900000) (hnd : (N.map (·.1)).Nodup) :
   G1 prog 116 [.d (.raw (a8P 163 q)), .d (.clo 118 [D.ref (smD g N bs clk)])] [.hb (.pointer (some ⟨q, 0, none⟩)) T (smD g N bs clk)]
     (fun r hs' => r = .own true 9 ((N7 (cfK (a0b N)) (N.map (·.1))).map .str) /\ hs' = [.hb (.pointer (some ⟨q, 0, none⟩)) T (smD g N bs clk)]) := by
 have c1 := c3m (P := prog) (ρ := Tryz.coll_ren) (ρk := Tryz.keysA_ren) Tryz.coll { Tryz.keysA with } (enters_of func161 (by kernel_rfl) rfl) (enters_of func163 (by kernel_rfl) rfl) rfl (by decide) (by kernel_rfl) (by kernel_rfl) g q T (N.map (·.1)) (N.map fun p => .str p.2) bs clk (by simp) (by simp; omega) (by simpa using hk); have e : (D.map (.map (some g)) ((N.map (·.1)).map .str) (N.map fun p => .str p.2) bs clk) = smD g N bs clk := by simp [smD, Function.comp_def]
 rw [e] at c1; have hfix : ∀ ss, Perm ss (N.map (·.1)) -> N7 (cfK (a0b N)) ss = N7 (cfK (a0b N)) (N.map (·.1)) := fun ss h => b2C (h.nodup_iff.2 hnd) h (fun _ _ => rfl)
 obtain ⟨sd, hsd⟩ : ∃ sd, smD g N bs clk = sd := ⟨_, rfl⟩; have hsI := c1L g N bs clk hN; rw [hsd] at c1 hsI ⊢; refine S3 (fun i => i == 5000007 || i == 3000010 || i == 5 || i == 8 || i == 4) (by kernel_rfl) func116 (by kernel_rfl) rfl rfl (nbl rfl) (by kernel_rfl) rfl ?_; simp -implicitDefEqProofs [A5]; refine N1 [1000000] 1000000 c1 (by simp [A5]) rfl (by simp) ?_; rintro r hs' ⟨⟨ss, hss, rfl⟩, rfl⟩; have hsl : ss.length < 1000000 := by rw [hss.length_eq]; simpa using hl
 have hI := hsI ss hsl; rw [hfix ss hss] at hI; generalize N7 (cfK (a0b N)) (N.map (·.1)) = K at *; simp -implicitDefEqProofs [A5, E7, D8]; refine b8a hI ?_; simp -implicitDefEqProofs [A5]; exact ⟨.own true 9 (K.map .str), [1000000], by simp, by simp [isH], by simp [a0A, Tryz.coll_ren], rfl, by simp⟩
def I2 (R : List Chg) : List Str := N7 (cfK (C7 R)) (A9 R)
theorem a4W {R : List Chg} {id : Str} (h : b4L (G2 R id) id) : List.length (C7 R id) < 900000 := by
 unfold C7; split
 . exact h.own
 . have := b6s (a7v (G2 R id) id); unfold a5x; omega
theorem c4z {R : List Chg} {N : SM} (h : Perm N (a1Z R)) : N7 (cfK (a0b N)) (N.map (·.1)) = I2 R := by
 have hp : (N.map (·.1)).Perm (A9 R) := by rw [<- a5g]; exact h.map _
 refine b2C (hp.nodup_iff.2 (X7 R)) hp (fun a ha => ?_); unfold a0b; rw [a2Z h, if_pos (hp.mem_iff.1 ha)]; rfl
theorem b0W (R : List Chg) (d : D) (hG : a1b R) (g : Nat) (N : SM) (bs : List Nat) (clk : Nat) (hN : Perm N (a1Z R)) :
   Ctr prog 66 [.d d, .d (smD g N bs clk)] (.own true 9 ((I2 R).map .str)) := by
 have hmx : (1000000 : Nat) <= maxLen := (by decide); have hmem : ∀ p ∈ N, p.1 ∈ A9 R /\ p.2 = C7 R p.1 := fun p hp => by
   have := hN.mem_iff.1 hp; obtain ⟨x, hx, rfl⟩ := mem_map.1 this; exact ⟨hx, rfl⟩
 have hll := Q6 R; have hlt := hG.lt; have hNl : N.length < 1000000 := by rw [hN.length_eq]; simp [a1Z]; omega
 have hv : ∀ p ∈ N, List.length p.2 < 900000 := fun p hp => by
   rw [(hmem p hp).2]; exact a4W (hG.name _ (hmem p hp).1)
 have hk : ∀ p ∈ N, List.length p.1 <= maxLen := fun p hp => by
   have := (hG.name _ (hmem p hp).1).short; omega
 have hnd : (N.map (·.1)).Nodup := by
   have hp : (N.map (·.1)).Perm (A9 R) := by rw [<- a5g]; exact hN.map _
   exact hp.nodup_iff.2 (X7 R)
 have c1 := c7G (P := prog) (ρk := Tryz.keysA_ren) Tryz.keysA (enters_of func117 (by kernel_rfl) rfl) g (N.map fun p => .str p.1) (N.map fun p => .str p.2) bs clk; have c2 : ∀ q, _ := fun q => b8e g q 80 N bs clk hNl hk hv hnd
 have he := c4z hN; rw [he] at c2; have e : D.map (.map (some g)) (N.map fun p => .str p.1) (N.map fun p => .str p.2) bs clk = smD g N bs clk := rfl; rw [e] at c1; obtain ⟨sd, hsd⟩ : ∃ sd, smD g N bs clk = sd := ⟨_, rfl⟩; rw [hsd] at c1 c2 ⊢; refine fv (fun i => i == 5000006 || i == 5000008 || i == 4) func66 (by kernel_rfl) rfl rfl rfl rfl rfl ?_; simp -implicitDefEqProofs; refine ⟨⟨by rw [<- hsd]; rfl, by rw [<- hsd]; rfl⟩, ?_⟩; refine N1 [] 1000000 c1 rfl rfl (by simp) ?_; rintro r hs' ⟨q, rfl, rfl⟩; simp -implicitDefEqProofs [E7, D8]; refine N1 [1000000] 1000000 (c2 q) (by simp; rfl) rfl (by simp) ?_; rintro r hs' ⟨rfl, rfl⟩; generalize I2 R = K at *; simp -implicitDefEqProofs [E7, D8]
def Y2 (e : Str × List Att) : D := a0p e.1 e.2
def W8 (R : List Chg) (id : Str) : Str × List Att := (C7 R id, a0d R id)
def V9 (R : List Chg) : List (Str × List Att) := (I2 R).map (W8 R)
theorem a2P {R : List Chg} {id : Str} : id ∈ I2 R ↔ id ∈ A9 R := (U4 (a6E (C7 R)) (A9 R)).1.mem_iff
theorem a4r {R : List Chg} : (I2 R).length = (A9 R).length := (U4 (a6E (C7 R)) (A9 R)).1.length_eq
def EsI (R : List Chg) (sd : D) (g : Nat) (N : SM) (bs : List Nat) (clk : Nat) (k : Nat) (τ : St) : Prop := τ 0 = .d sd /\ τ 3 = .d (smD g N bs clk) /\ τ 4 = .own true 48 (((I2 R).take k).map fun id => Y2 (W8 R id)) /\ τ 14 = .own false 9 ((I2 R).map .str) /\ τ 15 = .d (.int .i64 (I2 R).length) /\ τ 16 = .d (.int .i64 k)
theorem b0P (R : List Chg) (d : D) (hd : StD R d) (hG : a1b R) : Ctr prog 30 [.d d] (.own true 48 ((V9 R).map Y2)) := by
 have hdi := a1T R d hd hG; have hor : ∀ g N bs clk, Perm N (a1Z R) -> _ := fun g N bs clk hN => b0W R d hG g N bs clk hN
 have hen : ∀ id s, id ∈ A9 R -> _ := fun id s h => b3S R d id s hd hG h
 have hll := Q6 R; have hlt := hG.lt; have hol := a4r (R := R); obtain ⟨u1, R1, bs1, c1, u2, M, bs2, c2, rfl, hR1, hM⟩ := hd.open; have hre := a2U u1 R1 bs1 c1 u2 M bs2 c2; obtain ⟨sd, hsd⟩ : ∃ sd, U3 u1 R1 bs1 c1 u2 M bs2 c2 = .ref sd := ⟨_, rfl⟩; rw [hsd] at hdi hor hre hen ⊢; refine fv (fun i => i == 5000011 || i == 2 || i == 4) func30 (by kernel_rfl) rfl rfl rfl rfl rfl ?_; simp -implicitDefEqProofs; refine A0 hre ?_; simp -implicitDefEqProofs; refine b1G hdi ?_; rintro r hs' ⟨rfl, g, N, bs, clk, hN, rfl⟩; refine ⟨rfl, ?_⟩; have hor := hor g N bs clk hN; simp only [smD] at hor; simp -implicitDefEqProofs [smD]; refine A0 hor ?_; simp -implicitDefEqProofs [smD]; refine F3 (I2 R).length (EsI R (.ref sd) g N bs clk) ⟨by simp, by simp [smD], by simp, by simp, by simp, by simp⟩ ?_; rintro k τ hk ⟨g0, g3, g4, g14, g15, g16⟩; rcases Nat.lt_or_ge k (I2 R).length with hlt | hlt
 . have hlt' : (k : Int) < (I2 R).length := (by omega); have hin : (I2 R)[k] ∈ A9 R := a2P.1 (gmm _); have hge := a2d N (I2 R)[k]; rw [a2Z hN, if_pos hin] at hge; have he := hen (I2 R)[k] (C7 R (I2 R)[k]) hin; have htk : ((I2 R).take (k + 1)).map (fun id => Y2 (W8 R id)) = ((I2 R).take k).map (fun id => Y2 (W8 R id)) ++ [Y2 (W8 R (I2 R)[k])] := by rw [F6 hlt, map_append]; rfl
   have htl : (((I2 R).take k).map (fun id => Y2 (W8 R id))).length <= 100000 := by simp; omega
   generalize ((I2 R).take k).map (fun id => Y2 (W8 R id)) = T at *; simp -implicitDefEqProofs [g0, g3, g4, g14, g15, g16, hlt, hlt', smD]; refine a0a X5 (G4 _) (R8 N) Tryz.zd_9 hge ?_; simp -implicitDefEqProofs [g0, g3, g4, g14, g15, g16, hlt, hlt', smD]; refine A0 he ?_; simp -implicitDefEqProofs [g0, g3, g4, g14, g15, g16, hlt, hlt', smD]; exact ⟨rfl, by omega, by omega, by omega, B8 hlt ⟨by simp [g0], by simp [g3, smD], by rw [htk]; simp [Y2, W8], by simp [g14], by simp [g15], by simp⟩⟩
 . have hlt' : ¬ (k : Int) < (I2 R).length := (by omega); have hlt'' : ¬ k < (I2 R).length := (by omega); simp -implicitDefEqProofs [g0, g3, g4, g14, g15, g16, hlt', hlt'', V9]; rw [ttl (by simpa using hlt)]; simp [Function.comp_def]
theorem b0R (s : Str) : List.length (H5 s).1 <= 5000 := by
 cases h : K3 s with
 | none => simp [H5, h]
 | some l =>
   cases l with
   | nil => simp [H5, h]
   | cons p l =>
     obtain ⟨t, h1, h2⟩ := a5y h; rw [h1]; exact c1a (a6O.2 ⟨_, h2⟩)
def Y6 (R : List Chg) (id : Str) : Str := (H5 (C7 R id)).1
def a6j (R : List Chg) (X : List Str) (id : Str) : Bool := decide (1 < K8 (Y6 R id)) && !decide (Y6 R id ∈ X)
def b4Q (X : List Str) (s : Str) : List Str := if s ∈ X then X else X ++ [s]
def a0M (R : List Chg) (p : List Str × List Str) (id : Str) : List Str × List Str := if a6j R p.1 id then (p.1, p.2 ++ [id]) else (b4Q p.1 (C7 R id), p.2)
def H7 (R : List Chg) (l : List Str) : List Str × List Str := l.foldl (a0M R) ([], [])
def K6 (R : List Chg) : List Str := I3 (H7 R (I2 R)).2
theorem a1F (R : List Chg) (l : List Str) (id : Str) : H7 R (l ++ [id]) = a0M R (H7 R l) id := by simp [H7]
theorem a7p (R : List Chg) (l : List Str) : (H7 R l).2.length <= l.length := by
 refine M2 (P := fun l => (H7 R l).2.length <= l.length) (by simp [H7]) (fun l id ih => ?_) l; rw [a1F]; unfold a0M; split
 . simp; omega
 . simp; omega
def a1e (X : List Str) : List (D × D) := X.map fun s => (D.str s, D.bool true)
theorem b7x (X : List Str) (k : Str) : M6 (a1e X) (.str k) = if k ∈ X then some (.bool true) else none := by
 induction X with
 | nil => rfl
 | cons x X ih =>
   simp only [M6, a1e, map_cons, find?_cons, L3] at ih ⊢; by_cases h : x = k
   . simp [h]
   . simp only [decide_eq_false h]; rw [ih]; have : ¬ k = x := fun e => h e.symm
     simp [this]
theorem b8w (X : List Str) (k : Str) : S1 (a1e X) (.str k) (.bool true) = a1e (b4Q X k) := by
 unfold S1 b4Q; by_cases h : k ∈ X
 . rw [if_pos h, if_pos (by simp [a1e, L3, h])]; unfold a1e; rw [map_map]; refine map_congr_left fun x _ => ?_
   simp only [Function.comp_apply, L3]; exact ite_self _
 . rw [if_neg h, if_neg (by
     simp only [a1e, any_map, any_eq_true, Function.comp_apply, L3, decide_eq_true_eq, not_exists, not_and]; rintro x hx rfl; exact h hx)]
   simp [a1e]
theorem b3A : Program.underlying prog 95 = some (.map 9 4) := by kernel_rfl
def OrI (R : List Chg) (sd : D) (g : Nat) (N : SM) (bs : List Nat) (clk : Nat) (g2 : Nat) (k : Nat) (τ : St) : Prop := τ 3 = .d (smD g N bs clk) /\ τ 4 = .d (.raw (.map (some g2))) /\ τ 5 = .own true 9 ((H7 R ((I2 R).take k)).2.map .str) /\ τ 18 = .own false 9 ((I2 R).map .str) /\ τ 19 = .d (.int .i64 (I2 R).length) /\ τ 20 = .d (.int .i64 k) /\
 τ 1000000 = .hm (.map (some g2)) 9 (a1e (H7 R ((I2 R).take k)).1) none
theorem b1l (R : List Chg) (d : D) (hd : StD R d) (hG : a1b R) : Ctr prog 29 [.d d] (.own true 9 ((K6 R).map .str)) := by
 have hdi := a1T R d hd hG; have hor : ∀ g N bs clk, Perm N (a1Z R) -> _ := fun g N bs clk hN => b0W R d hG g N bs clk hN
 have hll := Q6 R; have hlt := hG.lt; have hol := a4r (R := R); obtain ⟨u1, R1, bs1, c1, u2, M, bs2, c2, rfl, hR1, hM⟩ := hd.open; have hre := a2U u1 R1 bs1 c1 u2 M bs2 c2; obtain ⟨sd, hsd⟩ : ∃ sd, U3 u1 R1 bs1 c1 u2 M bs2 c2 = .ref sd := ⟨_, rfl⟩; rw [hsd] at hdi hor hre ⊢; refine fv (fun i => i == 5000014 || i == 2 || i == 5 || i == 49 || i == 3000050) func29 (by kernel_rfl) rfl rfl rfl rfl rfl ?_; simp -implicitDefEqProofs; refine A0 hre ?_; simp -implicitDefEqProofs; refine b1G hdi ?_; rintro r hs' ⟨rfl, g, N, bs, clk, hN, rfl⟩; refine ⟨rfl, ?_⟩; have hor := hor g N bs clk hN; simp only [smD] at hor; simp -implicitDefEqProofs [smD]; refine a8A 9 1000000 (by simp) (fun g2 => ?_); simp -implicitDefEqProofs [smD]; refine A0 hor ?_; simp -implicitDefEqProofs [smD]; refine F3 (I2 R).length (OrI R (.ref sd) g N bs clk g2) ⟨by simp [smD], by simp, by simp [H7], by simp, by simp, by simp, by simp [H7, a1e]⟩ ?_; rintro k τ hk ⟨g3, g4, g5, g18, g19, g20, gB⟩; rcases Nat.lt_or_ge k (I2 R).length with hlt | hlt
 . have hlt' : (k : Int) < (I2 R).length := (by omega); obtain ⟨id, hid⟩ : ∃ id, (I2 R)[k] = id := ⟨_, rfl⟩; have hin : id ∈ A9 R := by rw [<- hid]; exact a2P.1 (gmm _)
   have hge := a2d N id; rw [a2Z hN, if_pos hin] at hge; have hsn := a1F R ((I2 R).take k) id; rw [<- hid, <- F6 hlt, hid] at hsn; have hol := a7p R ((I2 R).take k); rw [length_take] at hol; have c1 := b8I (C7 R id) (a4W (hG.name id hin)); obtain ⟨b, hb⟩ : ∃ b, (H5 (C7 R id)).2 = b := ⟨_, rfl⟩; have hpl := b0R (C7 R id); have c2 := b9Z (Y6 R id) (by unfold Y6; omega); have hpp : (H5 (C7 R id)).1 = Y6 R id := rfl; rw [hpp, hb] at c1; have hmg := b7x (H7 R ((I2 R).take k)).1 (Y6 R id); have hms := b8w (H7 R ((I2 R).take k)).1 (C7 R id); have hq : a6j R (H7 R ((I2 R).take k)).1 id = (decide (1 < K8 (Y6 R id)) && !decide (Y6 R id ∈ (H7 R ((I2 R).take k)).1)) := rfl; unfold a0M at hsn; generalize H7 R ((I2 R).take k) = T at *; rcases Classical.em (1 < K8 (Y6 R id)) with h1 | h1
   . have h1' : (1 : Int) < K8 (Y6 R id) := (by omega); rcases Classical.em (Y6 R id ∈ T.1) with h2 | h2
     . rw [if_pos h2] at hmg; simp only [h1, h2, decide_true, Bool.not_true, Bool.and_false] at hq; simp only [hq, Bool.false_eq_true, if_false] at hsn; simp -implicitDefEqProofs [g3, g4, g5, g18, g19, g20, hlt, hlt', smD, hid]; refine a0a X5 (G4 _) (R8 N) Tryz.zd_9 hge ?_; simp -implicitDefEqProofs [g3, g4, g5, g18, g19, g20, hlt, hlt', smD, hid]; refine A0 c1 ?_; simp -implicitDefEqProofs [g3, g4, g5, g18, g19, g20, hlt, hlt', smD, hid]; refine A0 c2 ?_; simp -implicitDefEqProofs [g3, g4, g5, g18, g19, g20, hlt, hlt', smD, h1, h1']; refine a1d (m := a1e T.1) (E := none) 1000000 (by omega) b3A (by simp [gB]) (G4 _) Tryz.zd_4 hmg ?_; simp -implicitDefEqProofs [g3, g4, g5, g18, g19, g20, hlt, hlt', smD, h1, h1']; refine a0a X5 (G4 _) (R8 N) Tryz.zd_9 hge ?_; simp -implicitDefEqProofs [g3, g4, g5, g18, g19, g20, hlt, hlt', smD, h1, h1']; refine a6L (m := a1e T.1) (E := none) 1000000 b3A (by simp [gB]) (G4 _) _ (Perm.refl _) ?_; rw [hms]; simp -implicitDefEqProofs [g3, g4, g5, g18, g19, g20, hlt, hlt', smD, h1, h1']; exact ⟨by omega, B8 hlt ⟨by simp [g3, smD], by simp [g4], by simp [g5, hsn], by simp [g18], by simp [g19], by simp, by simp [hsn]⟩⟩
     . rw [if_neg h2] at hmg; simp only [h1, h2, decide_true, decide_false, Bool.not_false, Bool.and_true] at hq; simp only [hq, if_true] at hsn; simp -implicitDefEqProofs [g3, g4, g5, g18, g19, g20, hlt, hlt', smD, hid]; refine a0a X5 (G4 _) (R8 N) Tryz.zd_9 hge ?_; simp -implicitDefEqProofs [g3, g4, g5, g18, g19, g20, hlt, hlt', smD, hid]; refine A0 c1 ?_; simp -implicitDefEqProofs [g3, g4, g5, g18, g19, g20, hlt, hlt', smD, hid]; refine A0 c2 ?_; simp -implicitDefEqProofs [g3, g4, g5, g18, g19, g20, hlt, hlt', smD, h1, h1']; refine a1d (m := a1e T.1) (E := none) 1000000 (by omega) b3A (by simp [gB]) (G4 _) Tryz.zd_4 hmg ?_; simp -implicitDefEqProofs [g3, g4, g5, g18, g19, g20, hlt, hlt', smD, h1, h1']; exact ⟨by omega, by omega, by omega, B8 hlt ⟨by simp [g3, smD], by simp [g4], by simp [hsn], by simp [g18], by simp [g19], by simp, by simp [gB, hsn]⟩⟩
   . have h1' : ¬ (1 : Int) < K8 (Y6 R id) := (by omega); simp only [h1, decide_false, Bool.false_and] at hq; simp only [hq, Bool.false_eq_true, if_false] at hsn; simp -implicitDefEqProofs [g3, g4, g5, g18, g19, g20, hlt, hlt', smD, hid]; refine a0a X5 (G4 _) (R8 N) Tryz.zd_9 hge ?_; simp -implicitDefEqProofs [g3, g4, g5, g18, g19, g20, hlt, hlt', smD, hid]; refine A0 c1 ?_; simp -implicitDefEqProofs [g3, g4, g5, g18, g19, g20, hlt, hlt', smD, hid]; refine A0 c2 ?_; simp -implicitDefEqProofs [g3, g4, g5, g18, g19, g20, hlt, hlt', smD, h1, h1']; refine a0a X5 (G4 _) (R8 N) Tryz.zd_9 hge ?_; simp -implicitDefEqProofs [g3, g4, g5, g18, g19, g20, hlt, hlt', smD, h1, h1']; refine a6L (m := a1e T.1) (E := none) 1000000 b3A (by simp [gB]) (G4 _) _ (Perm.refl _) ?_; rw [hms]; simp -implicitDefEqProofs [g3, g4, g5, g18, g19, g20, hlt, hlt', smD, h1, h1']; exact ⟨by omega, B8 hlt ⟨by simp [g3, smD], by simp [g4], by simp [g5, hsn], by simp [g18], by simp [g19], by simp, by simp [hsn]⟩⟩
 . have hlt' : ¬ (k : Int) < (I2 R).length := (by omega); have hlt'' : ¬ k < (I2 R).length := (by omega); rw [ttl (by simpa using hlt)] at g5 gB; have c1 := b1X (H7 R (I2 R)).2 (by have := a7p R (I2 R); omega); have e : I3 (H7 R (I2 R)).2 = K6 R := rfl; rw [e] at c1; simp -implicitDefEqProofs [g3, g4, g5, g18, g19, g20, hlt', hlt'']; refine b8a c1 ?_; simp -implicitDefEqProofs [g3, g4, g5, g18, g19, g20, hlt', hlt'']
theorem a2I (l m : List Str) (hl : l.length < 1000000) (hm : m.length < 1000000) : Ctr prog 38 [.d (B0 l), .d (B0 m)] (.d (.bool (decide (l = m)))) := by
 refine fv (fun _ => false) func38 (by kernel_rfl) rfl rfl rfl rfl rfl ?_; by_cases hlm : l.length = m.length
 . simp -implicitDefEqProofs [B0, hlm]; refine F3 m.length (fun k τ => τ 0 = .d (B0 l) /\ τ 1 = .d (B0 m) /\ τ 5 = .d (.int .i64 k) /\ l.take k = m.take k) (by simp [B0, hlm]) ?_; rintro k τ hk ⟨h0, h1, h5, ht⟩; by_cases hlt : k < m.length
   . have hlt' : k < l.length := (by omega); by_cases he : l[k] = m[k]
     . simp -implicitDefEqProofs [h0, h1, h5, B0, hlm, hlt, hlt', he]; refine ⟨by omega, B8 hlt ⟨by simp [h0, B0], by simp [h1, B0], by simp, ?_⟩⟩; rw [F6 hlt, F6 hlt', ht, he]
     . simp -implicitDefEqProofs [h0, h1, h5, B0, hlm, hlt, hlt', he]; rintro rfl; exact he rfl
   . rw [ttl (by omega), ttl (by omega)] at ht; simp -implicitDefEqProofs [h0, h1, h5, B0, hlm, hlt, ht]; try omega
 . have hlm' : ¬ (l.length : Int) = m.length := (by omega); simp -implicitDefEqProofs [B0, hlm']; rintro rfl; exact hlm rfl
theorem c6C (l : List Chg) (hl : l.length < 1000000) : Ctr prog 20 [.d (B3 l)] (.own true 9 ((l.map idC).map .str)) := by
 refine fv (fun i => i == 3 || i == 2) func20 (by kernel_rfl) rfl rfl rfl rfl rfl ?_; simp -implicitDefEqProofs; refine F3 l.length (fun k τ => τ 0 = .d (B3 l) /\ τ 3 = .own true 9 (((l.take k).map idC).map .str) /\ τ 4 = .d (.int .i64 k)) ⟨by simp, by simp, by simp⟩ ?_; rintro k τ hk ⟨h0, h3, h4⟩; by_cases hlt : k < l.length
 . have hlt' : (k : Int) < l.length := (by omega); obtain ⟨c, hx⟩ : ∃ c, l[k] = c := ⟨_, rfl⟩; have htk : ((l.take (k + 1)).map idC).map D.str = ((l.take k).map idC).map .str ++ [.str (idC c)] := by rw [F6 hlt, hx, map_append, map_append]; rfl
   have htl : (((l.take k).map idC).map D.str).length <= 1000000 := by simp only [length_map, length_take]; omega
   have ec : A3 c = .agg [A4 c.1, .int .i64 (opC c), .str (idC c), .str c.2.2.2.1, .str c.2.2.2.2.1, .str c.2.2.2.2.2] := rfl; generalize ((l.take k).map idC).map D.str = T at *; simp -implicitDefEqProofs [h0, h3, h4, B3, hlt, hlt', hx, ec, A1]; refine ⟨by omega, by omega, by omega, B8 hlt ⟨by simp [h0, B3], by simp; simpa using htk.symm, by simp⟩⟩
 . rw [ttl (by omega)] at h3; simp -implicitDefEqProofs [h0, h3, h4, B3, hlt]
def smC (c : Chg) : Bool := decide (List.length c.2.2.1 <= 100) && (decide (List.length c.2.2.2.1 <= 300) && (decide (List.length c.2.2.2.2.1 <= 100) && decide (List.length c.2.2.2.2.2 <= 300)))
def a4F (l : List Chg) : Bool := l.all smC && decide (l.length <= 14)
theorem c2g (l : List Chg) (hl : l.length <= 140737488351232) : Ctr prog 9 [.d (B3 l)] (.d (.bool (a4F l))) := by
 refine fv (fun i => false) func9 (by kernel_rfl) rfl rfl rfl rfl rfl ?_; obtain ⟨R, hR⟩ : ∃ R, a4F l = R := ⟨_, rfl⟩; rw [hR]; simp -implicitDefEqProofs; refine F3 l.length (fun k τ => τ 0 = .d (B3 l) /\ τ 3 = .d (.int .i64 k) /\ ((l.drop k).all smC && decide (l.length <= 14)) = R) ⟨by simp, by simp, by simpa [a4F] using hR⟩ ?_; rintro k τ hk ⟨h0, h3, hn⟩; by_cases hlt : k < l.length
 . have hlt' : (k : Int) < l.length := (by omega); obtain ⟨x, hx⟩ : ∃ x, l[k] = x := ⟨_, rfl⟩; rw [drop_eq_getElem_cons hlt, all_cons, hx] at hn; obtain ⟨n, op, id, nm, at_, va_⟩ := x; have ec : A3 (n, op, id, nm, at_, va_) = .agg [A4 n, .int .i64 op, .str id, .str nm, .str at_, .str va_] := rfl; simp only [smC] at hn; have hF : ∀ (s : Str) (m : Nat), (m : Int) < (List.length s : Nat) -> decide (List.length s <= m) = false := fun s m h => by simp only [decide_eq_false_iff_not]; omega
   have hT : ∀ (s : Str) (m : Nat), ¬ (m : Int) < (List.length s : Nat) -> decide (List.length s <= m) = true := fun s m h => by simp only [decide_eq_true_eq]; omega
   rcases Classical.em (((100 : Nat) : Int) < (List.length id : Nat)) with q0 | q0
   . rw [hF id 100 q0] at hn; simp only [Bool.and_false, Bool.false_and, Bool.true_and] at hn; have hR0 : R = false := hn.symm; subst hR0; have q0' : (100 : Int) < (List.length id : Nat) := q0; simp -implicitDefEqProofs [h0, h3, B3, hlt, hlt', hx, ec, A1, q0']
   . rw [hT id 100 q0] at hn; have q0' : ¬ (100 : Int) < (List.length id : Nat) := q0; simp only [Bool.true_and] at hn; rcases Classical.em (((300 : Nat) : Int) < (List.length nm : Nat)) with q1 | q1
     . rw [hF nm 300 q1] at hn; simp only [Bool.and_false, Bool.false_and, Bool.true_and] at hn; have hR0 : R = false := hn.symm; subst hR0; have q1' : (300 : Int) < (List.length nm : Nat) := q1; simp -implicitDefEqProofs [h0, h3, B3, hlt, hlt', hx, ec, A1, q0', q1']
     . rw [hT nm 300 q1] at hn; have q1' : ¬ (300 : Int) < (List.length nm : Nat) := q1; simp only [Bool.true_and] at hn; rcases Classical.em (((100 : Nat) : Int) < (List.length at_ : Nat)) with q2 | q2
       . rw [hF at_ 100 q2] at hn; simp only [Bool.and_false, Bool.false_and, Bool.true_and] at hn; have hR0 : R = false := hn.symm; subst hR0; have q2' : (100 : Int) < (List.length at_ : Nat) := q2; simp -implicitDefEqProofs [h0, h3, B3, hlt, hlt', hx, ec, A1, q0', q1', q2']
       . rw [hT at_ 100 q2] at hn; have q2' : ¬ (100 : Int) < (List.length at_ : Nat) := q2; simp only [Bool.true_and] at hn; rcases Classical.em (((300 : Nat) : Int) < (List.length va_ : Nat)) with q3 | q3
         . rw [hF va_ 300 q3] at hn; simp only [Bool.and_false, Bool.false_and, Bool.true_and] at hn; have hR0 : R = false := hn.symm; subst hR0; have q3' : (300 : Int) < (List.length va_ : Nat) := q3; simp -implicitDefEqProofs [h0, h3, B3, hlt, hlt', hx, ec, A1, q0', q1', q2', q3']
         . rw [hT va_ 300 q3] at hn; have q3' : ¬ (300 : Int) < (List.length va_ : Nat) := q3; simp only [Bool.true_and] at hn; simp -implicitDefEqProofs [h0, h3, B3, hlt, hlt', hx, ec, A1, q0', q1', q2', q3']; exact ⟨by omega, B8 hlt ⟨by simp [h0, B3], by simp, hn⟩⟩
 . rw [drop_eq_nil_of_le (by omega), all_nil, Bool.true_and] at hn; have hlt' : ¬ (k : Int) < l.length := (by omega); simp -implicitDefEqProofs [h0, h3, B3, hlt, hlt']; rw [<- hn]; rw [Bool.eq_iff_iff, decide_eq_true_eq, decide_eq_true_eq]; omega
def a3g : Str := [109, 97, 105, 108]
def atC (t op : Int) (id nm v : Str) : Chg := if op = 4 \/ op = 5 then ((t, 0, 0), op, id, nm, a3g, v) else ((t, 0, 0), op, id, nm, [], [])
theorem a8C (t op : Int) (id nm v : Str) : Ctr prog 37 [.d (.int .i64 t), .d (.int .i64 op), .d (.str id), .d (.str nm), .d (.str v)] (.d (A3 (atC t op id nm v))) := by
 have hE : ∀ a b : Str, A3 ((t, 0, 0), op, id, nm, a, b) = .agg [.agg [.int .i64 t, .int .i64 0, .int .i64 0], .int .i64 op, .str id, .str nm, .str a, .str b] := fun _ _ => rfl
 have hA : atC t op id nm v = if op = 4 \/ op = 5 then ((t, 0, 0), op, id, nm, a3g, v) else ((t, 0, 0), op, id, nm, [], []) := rfl
 generalize atC t op id nm v = X at *; refine G6 (rv := .cell 10 35) (rs := []) (r := .d (A3 X)) (ys := []) (fun i => false) (by kernel_rfl) func37 (by kernel_rfl) rfl rfl (by simp) (nbl rfl) (by kernel_rfl) rfl rfl ?_; rcases Classical.em (op = 4) with h4 | h4
 . rw [if_pos (.inl h4)] at hA; subst hA; rw [hE]; simp -implicitDefEqProofs [h4, a3g]
 . rcases Classical.em (op = 5) with h5 | h5
   . rw [if_pos (.inr h5)] at hA; subst hA; rw [hE]; simp -implicitDefEqProofs [h5, a3g]
   . rw [if_neg (by simp [h4, h5])] at hA; subst hA; rw [hE]; simp -implicitDefEqProofs [h4, h5]
abbrev b7C := Str × List Att
structure a9Q (e : b7C) : Prop where
 normal : G5 e.2 = e.2
 fit : a4m e.2
def T6 (l : List b7C) : D := .sl (l.map Y2)
def SmI (a b : List b7C) (k : Nat) (τ : St) : Prop := τ 0 = .d (T6 a) /\ τ 1 = .d (T6 b) /\ τ 5 = .d (.int .i64 k) /\ a.take k = b.take k
theorem b2s (a b : List b7C) (ha : ∀ x ∈ a, a9Q x) (hb : ∀ x ∈ b, a9Q x) (hal : a.length < 1000000) (hbl : b.length < 1000000) : Ctr prog 47 [.d (T6 a), .d (T6 b)] (.d (.bool (decide (a = b)))) := by
 refine fv (fun _ => false) func47 (by kernel_rfl) rfl rfl rfl rfl rfl ?_; by_cases hlm : a.length = b.length
 . simp -implicitDefEqProofs [T6, hlm]; refine F3 b.length (SmI a b) ⟨by simp [T6, hlm], by simp [T6], by simp, by simp⟩ ?_; rintro k τ hk ⟨h0, h1, h5, ht⟩; by_cases hlt : k < b.length
   . have hlt' : k < a.length := (by omega); have hB1 := ha _ (gmm hlt'); have hB2 := hb _ (gmm hlt); have hN : ∀ {l : List Att}, G5 l = l -> a4m l -> b1J (G5 l) := fun h1 h2 => by rw [h1]; exact h2.1
     have c1 := c0I (a[k]).2 (b[k]).2 hB1.fit hB2.fit (hN hB1.normal hB1.fit) (hN hB2.normal hB2.fit); rw [hB1.normal, hB2.normal] at c1; have hne : a[k] ≠ b[k] -> a ≠ b := fun h e => h (by subst e; rfl)
     have ht2 : a[k] = b[k] -> a.take (k + 1) = b.take (k + 1) := fun h => by rw [F6 hlt, F6 hlt', ht, h]
     generalize hx : a[k] = x at *; generalize hy : b[k] = y at *; obtain ⟨xi, xl⟩ := x; obtain ⟨yi, yl⟩ := y; have hA : ∀ (i : Str) (l : List Att), Y2 (i, l) = .agg [.str i, .sl (l.map att)] := fun _ _ => rfl
     simp only [H6] at c1; by_cases q1 : xi = yi
     . subst q1; by_cases q3 : xl = yl
       . subst q3; simp only [decide_true] at c1; simp -implicitDefEqProofs [h0, h1, h5, T6, hlm, hlt, hlt', hx, hy, hA]; refine B6 c1 ?_; simp -implicitDefEqProofs [h0, h1, h5, T6, hlm, hlt, hlt', hx, hy, hA]; refine ⟨by omega, B8 hlt ⟨by simp [h0, T6], by simp [h1, T6], by simp, ht2 rfl⟩⟩
       . have hab : a ≠ b := hne (fun e => q3 (by simpa using e)); simp only [q3, decide_false] at c1; simp -implicitDefEqProofs [h0, h1, h5, T6, hlm, hlt, hlt', hx, hy, hA]; refine B6 c1 ?_; simp -implicitDefEqProofs [h0, h1, h5, T6, hlm, hlt, hlt', hx, hy, hA, hab]
     . have hab : a ≠ b := hne (fun e => q1 (by simp at e; exact e.1)); simp -implicitDefEqProofs [h0, h1, h5, T6, hlm, hlt, hlt', hx, hy, hA, q1]; exact hab
   . rw [ttl (by omega), ttl (by omega)] at ht; simp -implicitDefEqProofs [h0, h1, h5, T6, hlm, hlt, ht]; try omega
 . have hlm' : ¬ (a.length : Int) = b.length := (by omega); simp -implicitDefEqProofs [T6, hlm']; rintro rfl; exact hlm rfl
theorem Z9 {P : Program} {f : FuncId} {args : List AV} {e : TypeId} {l : List D} (h : Ctr P f args (.own true e l)) : Ctr P f args (.d (.sl l)) := by
 refine ⟨h.1, fun w L og vals hlok hgl hog hv => (h.2 w L og vals hlok hgl hog hv).mono ?_⟩; rintro x w' ⟨v, L', og', rfl, hgr, hlok', hold', hog', hrc⟩; obtain ⟨L2, hrc2, hlok2, hold2, hext2⟩ := hrc.demote false hlok' (fun g hg => (hog' g hg).1); refine ⟨v, L2, none, rfl, hgr, hlok2, fun c q hc hne => ?_, (fun g hg => by cases hg), F0.at_ (P := P) hrc2⟩; refine (hold2 c q (fun e => ?_)).trans (hold' c q hc hne); rcases (hog' c e.symm).2 with h1 | h1
 . omega
 . exact hne h1
structure d3o (R1 R2 : List Chg) : Prop where
 live : A9 R1 = A9 R2
 conf : Z1 R1 = Z1 R2
 orph : K6 R1 = K6 R2
 ents : V9 R1 = V9 R2
 entry : ∀ id, H9 R1 id = H9 R2 id
theorem c3J : a9Q ([], []) := ⟨by decide, ⟨⟨by simp, by simp⟩, by simp [H8]⟩⟩
theorem b4z {R : List Chg} (hG : a1b R) (id : Str) : a9Q (W8 R id) := by
 refine ⟨b6q _, b5Y (b5v (hG.vals id).1 (hG.vals id).2)⟩
theorem c2S {R : List Chg} (hG : a1b R) (id : Str) : a9Q (H9 R id).1 := by
 unfold H9; split
 . exact b4z hG id
 . exact c3J
theorem a8D (s r m : Nat) (R : List Chg) (E : List W2) : (stH s r m R E).all isH = true := by
 rw [all_eq_true]; intro x hx; simp only [stH, U2, mem_append, mem_flatMap, mem_cons, not_mem_nil, or_false] at hx; rcases hx with (rfl | rfl | rfl) | ⟨e, _, hx⟩
 . rfl
 . rfl
 . rfl
 . simp only [a3b, mem_cons, not_mem_nil, or_false] at hx; rcases hx with rfl | rfl <;> rfl
theorem a8M (s r m : Nat) (R : List Chg) (E : List W2) : (stH s r m R E).length = 3 + 2 * E.length := by
 have : ∀ E : List W2, (E.flatMap a3b).length = 2 * E.length := fun E => by
   induction E with
   | nil => rfl
   | cons e E ih => rw [flatMap_cons, length_append, ih]; simp [a3b]; omega
 simp [stH, U2, this]; omega
theorem b4o (R : List Chg) : (S4 R).length <= R.length := by
 refine M2 (P := fun R => (S4 R).length <= R.length) (Nat.le_refl _) (fun R c ih => ?_) R; rw [a5f]; unfold a4q; split
 . simp; omega
 . simp; omega
structure U5 (R : List Chg) : Prop where
 fit : ∀ c ∈ R, M8 c
 ok : ∀ c ∈ R, I6 c = 0
 nd : R.Nodup
 few : R.length <= 4096
theorem a6z : U5 [] := ⟨by simp, by simp, nodup_nil, by simp⟩
theorem a3R {R : List Chg} (h : U5 R) {c : Chg} (hc : M8 c) : U5 (K1 R c) := by
 unfold K1; split
 . rename_i hh
   refine ⟨fun x hx => ?_, fun x hx => ?_, ?_, ?_⟩
   . rcases mem_append.1 hx with hx | hx
     . exact h.fit x hx
     . rw [mem_singleton.1 hx]; exact hc
   . rcases mem_append.1 hx with hx | hx
     . exact h.ok x hx
     . rw [mem_singleton.1 hx]; exact hh.1
   . refine nodup_append.2 ⟨h.nd, by simp, fun a ha b hb => ?_⟩; rw [mem_singleton.1 hb]; rintro rfl; exact hh.2.1 ha
   . simp; omega
 . exact h
theorem b4U {R : List Chg} (h : U5 R) {s r m : Nat} {E : List W2} (hE : a0c E = S4 R) : (stH s r m R E).length <= 500000 := by
 rw [a8M]; have h1 : E.length = (S4 R).length := by rw [<- hE]; simp [a0c]
 have := b4o R; have := h.few; omega
def StF (σ : St) (B s : Nat) (R : List Chg) : Prop := U5 R /\ ∃ r m E, a0c E = S4 R /\ Fam σ B (stH s r m R E)
theorem StF.put {σ : St} {B s d : Nat} {R : List Chg} {x : AV} (h : StF σ B s R) (hd : d < B) : StF (Vw.put σ d x) B s R := by
 obtain ⟨hR, r, m, E, hE, hF⟩ := h; exact ⟨hR, r, m, E, hE, hF.put hd⟩
theorem a8G (k : Nat) (y : D) : F5 k (.d y) = .d y := rfl
theorem b4k {σ : St} {d : Nat} {K : St -> Prop} (B s : Nat) (hB : 1000000 <= B) (hd : d < 1000000) {R : List Chg} {c : Chg} (hF : StF σ B s R) (hc : M8 c)
   (hk : ∀ τ ks, StF τ B s (K1 R c) -> τ d = .d (.int .i64 (I0 R c)) -> (∀ j, j < 1000000 -> ks.contains j = false) -> (∀ i, i < 1000000 -> i ≠ d -> τ i = G0 ks (F5 d (σ i))) ->
     (∀ B2 hs2, Fam σ B2 hs2 -> 1000000 <= B2 -> (B2 + 1000000 <= B \/ B + 1000000 <= B2) -> Fam τ B2 hs2) -> K τ) : a0S prog 13 [.d (.raw (va s)), .d (A3 c)] σ d K := by
 obtain ⟨hR, r, m, E, hE, hFam⟩ := hF; refine b4H B hB hd hFam (c2z s r m R E hE hR.fit c hc) (fun x hs' hp => ?_) (fun x hs' τ ks ls hp hF' h1 h2 h3 h4 => ?_)
 . obtain ⟨_, E', hE', rfl⟩ := hp; exact ⟨a8D _ _ _ _ _, b4U (a3R hR hc) hE'⟩
 . obtain ⟨rfl, E', hE', rfl⟩ := hp; refine hk τ ks ⟨a3R hR hc, r, m, E', hE', hF'⟩ ?_ h1 (fun i hi hne => ?_) h4
   . rw [h3 d hd, if_pos rfl]; rfl
   . rw [h3 i hi, if_neg hne]
def ofE : List Chg -> List Chg -> Int
 | _, [] => 0
 | R, c :: l => if I0 R c ≠ 0 then I0 R c else ofE (K1 R c) l
def ofR (R l : List Chg) : List Chg := l.foldl K1 R
def OfI (l : List Chg) (s : Nat) (e : Int) (k : Nat) (τ : St) : Prop := τ 4 = .d (.raw (va s)) /\ τ 9 = .d (B3 l) /\ τ 10 = .d (.int .i64 l.length) /\ τ 11 = .d (.int .i64 k) /\ ofE (ofR [] (l.take k)) (l.drop k) = e /\ StF τ 1000000 s (ofR [] (l.take k))
theorem c3V (l : List Chg) (hl : l.length < 100000) (hf : ∀ c ∈ l, M8 c) : G1 prog 17 [.d (B3 l)] [] (fun x hs' => (ofE [] l ≠ 0 /\ x = .tup [.d .nilp, .d (.int .i64 (ofE [] l))] /\ hs' = []) \/ (ofE [] l = 0 /\ ∃ s r m E, x = .tup [.d (.raw (va s)), .d (.int .i64 0)] /\ a0c E = S4 (ofR [] l) /\ hs' = stH s r m (ofR [] l) E)) := by
 refine a1O (rs := [.tmp 2, .tmp 3]) (fun i => i == 5000008 || i == 5000017) (by kernel_rfl) func17 (by kernel_rfl) rfl rfl (by simp) (nbl rfl) (by kernel_rfl) rfl ?_; simp -implicitDefEqProofs [A5]; refine N1 [] 1000000 c0Q rfl rfl (by simp) ?_; rintro x hs' ⟨s, r, m, rfl, hh⟩; have hh2 : hs' = [.hb (va s) 65 (.agg [.raw (.map (some r)), .raw (.map (some m))]), .hm (.map (some r)) 35 (R6 []) none, .hm (.map (some m)) 9 (Q4 []) none] := hh; clear hh; subst hh2; simp -implicitDefEqProofs [A5, E7, D8]; refine F3 l.length (OfI l s (ofE [] l)) ⟨by simp, by simp [B3], by simp, by simp, by simp [ofR], ?_⟩ ?_
 . refine ⟨a6z, r, m, [], rfl, rfl, by simp [a8M], fun i hi => ?_⟩; simp only [a8M, length_nil] at hi
   match i, hi with
   | 0, _ => simp [stH, U2]
   | 1, _ => simp [stH, U2, ofR]
   | 2, _ => simp [stH, U2]
 rintro k τ hk ⟨h4, h9, h10, h11, hE, hF⟩; by_cases hlt : k < l.length
 . have hlt' : (k : Int) < l.length := (by omega); obtain ⟨c, hx⟩ : ∃ c, l[k] = c := ⟨_, rfl⟩; have hc : M8 c := by rw [<- hx]; exact hf _ (gmm _)
   have ec : A3 c = .agg [A4 c.1, .int .i64 (opC c), .str (idC c), .str c.2.2.2.1, .str c.2.2.2.2.1, .str c.2.2.2.2.2] := rfl; rw [drop_eq_getElem_cons hlt, hx, ofE] at hE; have hR2 : ofR [] (l.take (k + 1)) = K1 (ofR [] (l.take k)) c := by rw [F6 hlt, hx]; simp [ofR]
   simp -implicitDefEqProofs [h4, h9, h10, h11, hlt, hlt', B3, hx, ec, A1]; rw [<- ec]; refine b4k (R := ofR [] (l.take k)) 1000000 s (Nat.le_refl _) (by omega) (by repeat first | exact hF | apply StF.put | apply StF.setv | apply StF.clean | omega) hc (fun τ2 ks hF2 hd2 hks hτ hoth => ?_); have t4 : τ2 4 = .d (.raw (va s)) := by rw [hτ 4 (by omega) (by omega)]; simp [h4, G0]
   have t9 : τ2 9 = .d (B3 l) := by rw [hτ 9 (by omega) (by omega)]; simp [h9, G0]
   have t10 : τ2 10 = .d (.int .i64 l.length) := by rw [hτ 10 (by omega) (by omega)]; simp [h10, G0]
   have t11 : τ2 11 = .d (.int .i64 k) := by rw [hτ 11 (by omega) (by omega)]; simp [h11, G0]
   by_cases he : I0 (ofR [] (l.take k)) c = 0
   . rw [if_neg (by simpa using he)] at hE; rw [<- hR2] at hE hF2; rw [he] at hd2; simp -implicitDefEqProofs [t4, t9, t10, t11, hd2]; exact ⟨by omega, B8 hlt ⟨by simp [t4], by simp [t9], by simp [t10], by simp, hE, by repeat first | exact hF2 | apply StF.put | apply StF.setv | apply StF.clean | omega⟩⟩
   . rw [if_pos he] at hE; rw [hE] at hd2 he; simp -implicitDefEqProofs [t4, t9, t10, t11, hd2, he]; exact ⟨[.d .nilp, .d (.int .i64 (ofE [] l))], [], by simp, by simp, by simp [T3, a0Z], rfl, rfl⟩
 . have hlt' : ¬ (k : Int) < l.length := (by omega); rw [drop_eq_nil_of_le (by omega), ofE] at hE; rw [ttl (by omega)] at hF; obtain ⟨hB, r2, m2, E2, hE2, hF2⟩ := hF; simp -implicitDefEqProofs [h4, h9, h10, h11, hlt, hlt', B3]; have hP := (((hF2.put (x := .d (.bool false)) (d := 12) (by omega)).put (x := .d (.raw (va s))) (d := 22) (by omega)).put (x := .d (.raw (va s))) (d := 2) (by omega)).put (x := .d (.int .i64 0)) (d := 3) (by omega); exact ⟨[.d (.raw (va s)), .d (.int .i64 0)], V6 1000000 (stH s r2 m2 (ofR [] l) E2).length, a1B _ _, fun k hk => hP.isH k hk, by simp [T3, a0Z], .inr ⟨hE.symm, s, rfl, r2, m2, E2, hE2, hP.map⟩⟩
def Oth (σ τ : St) (d : Nat) : Prop := ∃ ks : List Nat, (∀ j, j < 1000000 -> ks.contains j = false) /\ ∀ i, i < 1000000 -> i ≠ d -> τ i = G0 ks (F5 d (σ i))
theorem Oth.dd {σ τ : St} {d i : Nat} {y : D} (h : Oth σ τ d) (hi : i < 1000000) (hid : i ≠ d) (hy : σ i = .d y) : τ i = .d y := by
 obtain ⟨ks, _, h2⟩ := h; rw [h2 i hi hid, hy]; rfl
theorem Oth.bx {σ τ : St} {d i : Nat} {y : D} (h : Oth σ τ d) (hi : i < 1000000) (hid : i ≠ d) (hy : σ i = .box y) : τ i = .box y := by
 obtain ⟨ks, _, h2⟩ := h; rw [h2 i hi hid, hy]; rfl
theorem b3p {x : AV} (h : V8 x = true) (d : Nat) (ks : List Nat) : G0 ks (F5 d x) = x := by
 cases x <;> simp [V8] at h <;> rfl
theorem a2O {B n i : Nat} (hB : 1000000 <= B) (hi : i < 1000000) : i ∉ V6 B n := fun hm => by
 obtain ⟨j, _, hj⟩ := mem_map.1 hm; omega
theorem b7I {B B2 n i : Nat} (hn : n <= 500000) (hi : i < 500000) (h : B2 + 1000000 <= B \/ B + 1000000 <= B2) : B2 + i ∉ V6 B n := fun hm => by
 obtain ⟨j, hj, e⟩ := mem_map.1 hm; have : j < n := (by simpa using hj); omega
def Y1 (σ τ : St) (B : Nat) : Prop := ∀ B2 hs2, Fam σ B2 hs2 -> 1000000 <= B2 -> (B2 + 1000000 <= B \/ B + 1000000 <= B2) -> Fam τ B2 hs2
theorem Y1.st {σ τ : St} {B B2 s : Nat} {R : List Chg} (h : Y1 σ τ B) (hF : StF σ B2 s R) (hB : 1000000 <= B2) (hBB : B2 + 1000000 <= B \/ B + 1000000 <= B2) : StF τ B2 s R := by
 obtain ⟨hR, r, m, E, hE, hF⟩ := hF; exact ⟨hR, r, m, E, hE, h B2 _ hF hB hBB⟩
theorem a1y {f : FuncId} {σ : St} {d : Nat} {K : St -> Prop} (B s : Nat) (hB : 1000000 <= B) (hd : d < 1000000) {R : List Chg} (hF : StF σ B s R) {ds : List D} {res : AV} (hE : Enters prog f) (h : ∀ x, StD R x -> Ctr prog f (.d x :: ds.map .d) res) (hm : V8 res = true)
   (hk : ∀ τ, StF τ B s R -> τ d = res -> Oth σ τ d -> Y1 σ τ B -> K τ) : a0S prog f (.d (.raw (va s)) :: ds.map .d) σ d K := by
 obtain ⟨hR, r, m, E, hEE, hFam⟩ := hF; have hlen := hFam.2.1; refine b6Y (V6 B (stH s r m R E).length) (fun k hk => by obtain ⟨j, _, rfl⟩ := mem_map.1 hk; omega) hd (a1B _ _) hFam.isH (r := res) ?_ (fun τ h1 h2 h3 => ?_)
 . rw [hFam.map]; refine G1.lendL (ds := .raw (va s) :: ds) hE (fun w L hr => ?_) hm; obtain ⟨x, hx, hln⟩ := b5M (s := s) (r := r) (m := m) hr hEE (fun x hx => hx); exact ⟨x :: ds, .cons hln (a4e ds), h x hx⟩
 . refine hk τ ⟨hR, r, m, E, hEE, hFam.1, hFam.2.1, fun i hi => ?_⟩ (by rw [h2, b3p hm]) ⟨_, fun j hj => ?_, fun i hi hid => h3 i (a2O hB hi) hid⟩ (fun B2 hs2 hF2 hB2 hBB => ⟨hF2.1, hF2.2.1, fun i hi => ?_⟩)
   . rw [h1 _ (mem_map.2 ⟨i, by simpa using hi, rfl⟩)]; exact hFam.2.2 i hi
   . have := a2O (n := (stH s r m R E).length) hB hj; simp [this]
   . have h4 := hF2.2.1; have hH2 := all_eq_true.1 hF2.1 _ (gmm hi); rw [h3 _ (b7I hlen (by omega) hBB) (by omega), hF2.2.2 i hi, a3k hH2, a2Y hH2]
theorem c6g {σ : St} {d : Nat} {K : St -> Prop} (B : Nat) (hB : 1000000 <= B) (hd : d < 1000000)
   (hk : ∀ s τ, StF τ B s [] -> τ d = .d (.raw (va s)) -> Oth σ τ d -> Y1 σ τ B -> K τ) : a0S prog 11 [] σ d K := by
 refine ⟨[], B, _, by simp, by simp, c0Q, fun x hs' hp => ?_⟩; obtain ⟨s, r, m, rfl, hh⟩ := hp; have hh2 : hs' = [.hb (va s) 65 (.agg [.raw (.map (some r)), .raw (.map (some m))]), .hm (.map (some r)) 35 (R6 []) none, .hm (.map (some m)) 9 (Q4 []) none] := hh; have hH : ∀ x ∈ hs', isH x = true := fun x hx => by rw [hh] at hx; exact all_eq_true.1 (a8D s r m [] []) x hx
 have hlen : hs'.length = 3 := by rw [hh2]; rfl
 have hput : ∀ i, i ∉ a0o [] B 3 -> E7 (put (D8 σ []) d (.d (.raw (va s)))) [] B hs' i = G0 (a0o [] B 3) (put σ d (.d (.raw (va s))) i) := fun i hi => by
   have := a0g hs' [] (put (D8 σ []) d (.d (.raw (va s)))) B i (by rw [hlen]; exact hi); rw [hlen] at this; exact this
 have hL : ∀ k ∈ a0o [] B 3, B <= k /\ k < B + 3 := fun k hk => by
   rcases a2R _ _ _ _ hk with h | h
   . simp at h
   . exact h
 refine hk s _ ⟨a6z, r, m, [], rfl, a8D _ _ _ _ _, by simp [a8M], fun i hi => ?_⟩ ?_ ⟨a0o [] B 3, fun j hj => ?_, fun i hi hid => ?_⟩ (fun B2 hs2 hF2 hB2 hBB => ⟨hF2.1, hF2.2.1, fun i hi => ?_⟩)
 . have := a8E hs' (put (D8 σ []) d (.d (.raw (va s)))) B hH i (by rw [hh]; exact hi); rw [this]; simp only [hh]
 . rw [hput d (fun hm => by have := hL d hm; omega)]; simp only [put, if_true]; rfl
 . rw [Bool.eq_false_iff]; intro hc; have := hL j (by simpa using hc); omega
 . rw [hput i (fun hm => by have := hL i hm; omega)]; simp only [put, if_neg hid]
 . have h4 := hF2.2.1; have hH2 := all_eq_true.1 hF2.1 _ (gmm hi); rw [hput _ (fun hm => by have := hL _ hm; omega)]; simp only [put, if_neg (show ¬ B2 + i = d by omega)]; rw [hF2.2.2 i hi, a3k hH2, a2Y hH2]
def idS (n : UInt8) : Str := [48, 48, 48, 48, 48, 48, 48, 48, 48, 48, n, 45, 48, 48, 48, 48, 48, 48, 48, 48, 45, 48]
def nxS : Str := [99, 110, 61, 120, 44, 111, 61, 97, 99, 109, 101]
def nyS : Str := [99, 110, 61, 121, 44, 111, 117, 61, 115, 44, 111, 61, 97, 99, 109, 101]
def alL : List Chg := [atC 2 1 (idS 50) nxS [], atC 1 1 (idS 49) nxS [], atC 5 4 (idS 49) [] [109], atC 4 5 (idS 49) [] [109], atC 6 1 (idS 54) nyS []]
theorem c5P : G8 (1, 0, 0) = idS 49 := by kernel_rfl
theorem c6j : G8 (2, 0, 0) = idS 50 := by kernel_rfl
theorem c5F : G8 (6, 0, 0) = idS 54 := by kernel_rfl
theorem c7S : ofE [] alL = 0 := by kernel_rfl
theorem d1s : ofR [] alL = alL := by kernel_rfl
def al2 : List Chg := alL ++ [atC 3 2 (idS 49) [] []]
theorem d0f : I0 alL (atC 3 2 (idS 49) [] []) = 0 := by kernel_rfl
theorem c7u : K1 alL (atC 3 2 (idS 49) [] []) = al2 := by kernel_rfl
theorem c6y : a2M alL = [idS 50, idS 49, idS 54] := by kernel_rfl
theorem b4j {l m : List Str} (hm : SS m) (hp : m.Perm l) : I3 l = m := by
 have h1 : (I3 l).Pairwise fun x y => ¬ y < x := a4S l
 have h2 : m.Pairwise fun x y => ¬ y < x := hm.imp fun h h' => List.lt_irrefl _ (List.lt_trans h h')
 have h3 : (I3 l).Perm m := (mergeSort_perm _ _).trans hp.symm; exact h3.eq_of_pairwise (fun a b _ _ h4 h5 => a1f h5 h4) h1 h2
theorem a4c : A9 alL = [idS 49, idS 50, idS 54] := by
 unfold A9; rw [c6y]; exact b4j (by unfold SS; decide) (Perm.swap _ _ _)
theorem c5h : P2 alL [idS 49, idS 50, idS 54] = [(nxS, idS 49), (nyS, idS 54)] := by kernel_rfl
theorem b5H (id : Str) : P4 alL id = decide (J1 [(nxS, idS 49), (nyS, idS 54)] (G2 alL id) = some id) := by unfold P4; rw [a4c, c5h]
theorem c5p : Z1 alL = [idS 50] := by
 unfold Z1; rw [a4c]; simp only [b5H]
 kernel_rfl
theorem c5j : a0d alL (idS 49) = [(a3g, [[109]])] := by
 kernel_rfl
def nx2 : Str := [99, 110, 61, 120, 35] ++ idS 50 ++ [44, 111, 61, 97, 99, 109, 101]
theorem b7E (id : Str) : C7 alL id = if decide (J1 [(nxS, idS 49), (nyS, idS 54)] (G2 alL id) = some id) then G2 alL id else a5x (G2 alL id) id := by unfold C7; rw [b5H]
theorem b3I : C7 alL (idS 49) = nxS := by rw [b7E]; kernel_rfl
theorem b3P : C7 alL (idS 50) = nx2 := by rw [b7E]; kernel_rfl
theorem b7F : C7 alL (idS 54) = nyS := by rw [b7E]; kernel_rfl
theorem c7F : H9 alL (idS 49) = ((nxS, [(a3g, [[109]])]), true) := by
 unfold H9; rw [if_pos (by rw [a4c]; simp), b3I, c5j]
theorem c3v : a0d alL (idS 50) = [] := by kernel_rfl
theorem c8e : H9 alL (idS 50) = ((nx2, []), true) := by
 unfold H9; rw [if_pos (by rw [a4c]; simp), b3P, c3v]
theorem c6z : I2 alL = [idS 49, idS 50, idS 54] := by
 unfold I2; rw [a4c]; have hn : [idS 49, idS 50, idS 54].Nodup := (by decide); refine b4q (key := C7 alL) (a4i hn) ?_ (U4 (a6E _) _).1; unfold KS; have h1 : cfK (C7 alL) (idS 49) (idS 50) = -1 := by
   unfold cfK; rw [b3I, b3P]; kernel_rfl
 have h2 : cfK (C7 alL) (idS 49) (idS 54) = -1 := by
   unfold cfK; rw [b3I, b7F]; kernel_rfl
 have h3 : cfK (C7 alL) (idS 50) (idS 54) = -1 := by
   unfold cfK; rw [b3P, b7F]; kernel_rfl
 simp [h1, h2, h3]
theorem c3o : (H7 alL [idS 49, idS 50, idS 54]).2 = [idS 54] := by
 simp only [H7, foldl_cons, foldl_nil, a0M, a6j, Y6, b3I, b3P, b7F]
 kernel_rfl
theorem c4i : (K6 alL).length = 1 := by
 unfold K6 I3; rw [length_mergeSort, c6z, c3o]; rfl
theorem c4v : a2M al2 = [idS 50, idS 54] := by kernel_rfl
theorem a5Q : A9 al2 = [idS 50, idS 54] := by
 unfold A9; rw [c4v]; exact b4j (by unfold SS; decide) (Perm.refl _)
theorem c4s : P2 al2 [idS 50, idS 54] = [(nxS, idS 50), (nyS, idS 54)] := by kernel_rfl
theorem b2R (id : Str) : P4 al2 id = decide (J1 [(nxS, idS 50), (nyS, idS 54)] (G2 al2 id) = some id) := by unfold P4; rw [a5Q, c4s]
theorem c3l : Z1 al2 = [] := by
 unfold Z1; rw [a5Q]; simp only [b2R]
 kernel_rfl
theorem c6l : C7 al2 (idS 50) = nxS := by unfold C7; rw [b2R]; kernel_rfl
theorem c3z : O8 al2 nxS = (idS 50, true) := by
 unfold O8; rw [a5Q, find?_cons_of_pos (by rw [c6l]; simp)]
theorem c3f : (V9 al2).length = 2 := by
 unfold V9; rw [length_map, a4r, a5Q]; rfl
theorem a9o {a b : Chg} (ha : opC a = 0 \/ B9 (opC a) = true) (hb : B9 (opC b) = true) : B9 (opC (M3 a b)) = true := by
 unfold M3; split
 . exact hb
 . rename_i h
   rcases ha with h1 | h1
   . exact absurd (.inl h1) h
   . exact h1
theorem c0a (R : List Chg) (id : Str) : (opC (abF R id).nm = 0 \/ B9 (opC (abF R id).nm) = true) /\ ((abF R id).cr = true -> B9 (opC (abF R id).nm) = true) := by
 refine M2 (P := fun R => (opC (abF R id).nm = 0 \/ B9 (opC (abF R id).nm) = true) /\ ((abF R id).cr = true -> B9 (opC (abF R id).nm) = true)) ⟨.inl rfl, by simp [abF, P3]⟩ (fun R c ih => ?_) R; rw [a0J]; split
 . unfold O7; split
   . rename_i h
     have := a9o (b := c) ih.1 (by simp [B9, h]); exact ⟨.inr this, fun _ => this⟩
   . split
     . rename_i h
       have := a9o (b := c) ih.1 (by simp [B9, h]); exact ⟨.inr this, fun _ => this⟩
     . split
       . exact ih
       . exact ih
 . exact ih
theorem c1R (R : List Chg) (id : Str) : (abF R id).vs.length <= R.length /\ ∀ p ∈ (abF R id).vs, ∃ c ∈ R, p.1 = T1 c := by
 refine M2 (P := fun R => (abF R id).vs.length <= R.length /\ ∀ p ∈ (abF R id).vs, ∃ c ∈ R, p.1 = T1 c) ⟨by simp [abF, P3], by simp [abF, P3]⟩ (fun R c ih => ?_) R; have h0 : (abF R id).vs.length <= (R ++ [c]).length /\ ∀ p ∈ (abF R id).vs, ∃ x ∈ R ++ [c], p.1 = T1 x := by
   refine ⟨by have := ih.1; simp; omega, fun p hp => ?_⟩; obtain ⟨x, hx, e⟩ := ih.2 p hp; exact ⟨x, by simp [hx], e⟩
 rw [a0J]; split
 . unfold O7; split
   . exact h0
   . split
     . exact h0
     . split
       . exact h0
       . simp only; unfold a3B; split
         . refine ⟨by simpa using h0.1, fun p hp => ?_⟩; obtain ⟨q, hq, e⟩ := mem_map.1 hp; obtain ⟨x, hx, e2⟩ := h0.2 q hq; refine ⟨x, hx, ?_⟩; rw [<- e, <- e2]; split <;> rfl
         . refine ⟨by have := ih.1; simp; omega, fun p hp => ?_⟩; rcases mem_append.1 hp with hp | hp
           . exact h0.2 p hp
           . rw [mem_singleton.1 hp]; exact ⟨c, by simp, rfl⟩
 . exact h0
theorem T9 {R : List Chg} (h : U5 R) : a1b R := by
 refine ⟨by have := b4o R; have := h.few; omega, fun id hid => ?_, fun id => ?_⟩
 . obtain ⟨⟨c, hc, rfl⟩, hl⟩ := a2i.1 hid; have hcr : (abF R (idC c)).cr = true := by
     simp only [a1V, Bool.and_eq_true] at hl; exact hl.1
   have hn := (c0a R (idC c)).2 hcr; obtain ⟨h1, _⟩ := b5K R (idC c); have hm : (abF R (idC c)).nm ∈ R := by
     rcases h1 with h1 | h1
     . exact h1
     . rw [h1] at hn; exact absurd hn (by decide)
   have ho := U7.1 (h.ok _ hc); have hon := U7.1 (h.ok _ hm); obtain ⟨h3, h4⟩ := a2B (c := (J5 (idC c)).1) (s := idC c) (by rw [<- ho.id]); have hidl : List.length (idC c) = 22 := by rw [<- h3, a1L h4]
   have hb := hon.name; unfold E8 at hb; have hn' : B9 (abF R (idC c)).nm.2.1 = true := hn; simp only [hn', Bool.true_and, Bool.or_eq_false_iff, decide_eq_false_iff_not, Bool.not_eq_false'] at hb; obtain ⟨l, hl2⟩ := a6O.1 hb.1.2; have hpl : (D3 (G2 R (idC c))).1 = l := by
     have h6 := hl2; unfold K3 at h6; split at h6
     . exact Option.some.inj h6
     . cases h6
   refine ⟨?_, (h.fit _ hm).name, by omega, fun e => by rw [e] at hidl; simp at hidl⟩; rw [hpl]; intro e; exact hb.1.1 ((c4Y hl2).2 e)
 . obtain ⟨h1, h2⟩ := c1R R id; refine ⟨by have := h.few; omega, fun p hp => ?_⟩; obtain ⟨c, hc, e⟩ := h2 p hp; rw [e]; exact ⟨(h.fit c hc).attr, (h.fit c hc).value⟩
theorem a5G (a b : Chg) : ltM a b = true ↔ R4 a.1 b.1 < 0 \/ (a.1 = b.1 /\ (H0 a).1 < (H0 b).1) := by
 unfold ltM orI orI orI; rw [decide_eq_true_eq]; by_cases h : R4 a.1 b.1 = 0
 . rw [if_neg (by simpa using h)]; have h1 := a1q.1 h; by_cases h2 : a0z (H0 a).1 (H0 b).1 = 0
   . rw [if_neg (by simpa using h2)]; have h3 := b2e.1 h2; rw [h3]; have : ¬ (H0 b).1 < (H0 b).1 := List.lt_irrefl _; simp [this, h]
   . rw [if_pos h2, b5N]; exact ⟨fun h3 => .inr ⟨h1, h3⟩, fun h3 => h3.elim (fun h4 => by omega) (·.2)⟩
 . rw [if_pos h]; have : a.1 ≠ b.1 := fun e => h (a1q.2 e)
   simp [this]
theorem b7b (a : Chg) : ltM a a = false := by
 rw [Bool.eq_false_iff, ne_eq, a5G]; rintro (h | ⟨_, h⟩)
 . rw [a1q.2 rfl] at h; omega
 . exact List.lt_irrefl _ h
theorem c0Z {a b c : Chg} (h1 : ltM a b = true) (h2 : ltM b c = true) : ltM a c = true := by
 rw [a5G] at *; rcases h1 with h1 | ⟨h1, h3⟩ <;> rcases h2 with h2 | ⟨h2, h4⟩
 . exact .inl (b8d h1 h2)
 . rw [h2] at h1; exact .inl h1
 . rw [<- h1] at h2; exact .inl h2
 . exact .inr ⟨h1.trans h2, List.lt_trans h3 h4⟩
theorem c4m {a b : Chg} (ha : I6 a = 0) (hb : I6 b = 0) (h1 : ltM a b = false) (h2 : ltM b a = false) : a = b := by
 have h1' : ¬ (R4 a.1 b.1 < 0 \/ (a.1 = b.1 /\ (H0 a).1 < (H0 b).1)) := fun h => by rw [<- a5G, h1] at h; cases h
 have h2' : ¬ (R4 b.1 a.1 < 0 \/ (b.1 = a.1 /\ (H0 b).1 < (H0 a).1)) := fun h => by rw [<- a5G, h2] at h; cases h
 have h3 := b3j a.1 b.1; have h4 : R4 a.1 b.1 = 0 := by
   simp only [not_or] at h1' h2'; omega
 have h5 := a1q.1 h4; have h6 : (H0 a).1 = (H0 b).1 := a1f (fun h => h1' (.inr ⟨h5, h⟩)) (fun h => h2' (.inr ⟨h5.symm, h⟩)); rw [a5e ha, a5e hb] at h6; exact c1D ha hb h6
theorem b3C {c : Chg} (h : I6 c = 0) : opC c ≠ 0 := by
 have := (U7.1 h).op1
 show c.2.1 ≠ 0
 omega
def X4 (L : List Chg) : Chg := L.foldl M3 L5
theorem a3r (L : List Chg) (c : Chg) : X4 (L ++ [c]) = M3 (X4 L) c := by simp [X4]
theorem b2d {L : List Chg} (h : ∀ c ∈ L, I6 c = 0) : (L = [] /\ X4 L = L5) \/ (X4 L ∈ L /\ ∀ c ∈ L, ltM (X4 L) c = false) := by
 have key : ∀ L : List Chg, (∀ c ∈ L, I6 c = 0) -> (L = [] /\ X4 L = L5) \/ (X4 L ∈ L /\ ∀ c ∈ L, ltM (X4 L) c = false) := fun L => by
   refine M2 (P := fun L => (∀ c ∈ L, I6 c = 0) -> (L = [] /\ X4 L = L5) \/ (X4 L ∈ L /\ ∀ c ∈ L, ltM (X4 L) c = false)) (fun _ => .inl ⟨rfl, rfl⟩) (fun L c ih h => ?_) L; have hc := h c (by simp); refine .inr ?_; rw [a3r]; rcases ih (fun x hx => h x (by simp [hx])) with ⟨rfl, e⟩ | ⟨h1, h2⟩
   . rw [e]; have : M3 L5 c = c := by unfold M3; rw [if_pos (.inl rfl)]
     rw [this]; refine ⟨by simp, fun x hx => ?_⟩; simp only [nil_append, mem_singleton] at hx; rw [hx, b7b]
   . have hm := h _ (mem_append.2 (.inl h1)); unfold M3; by_cases hlt : ltM (X4 L) c = true
     . rw [if_pos (.inr ⟨b3C hc, hlt⟩)]; refine ⟨by simp, fun x hx => ?_⟩; rcases mem_append.1 hx with hx | hx
       . rw [Bool.eq_false_iff]; intro hq; have := c0Z hlt hq; rw [h2 x hx] at this; cases this
       . rw [mem_singleton.1 hx, b7b]
     . rw [if_neg (by
         rintro (h5 | ⟨_, h5⟩)
         . exact b3C hm h5
         . exact hlt h5)]
       refine ⟨by simp [h1], fun x hx => ?_⟩; rcases mem_append.1 hx with hx | hx
       . exact h2 x hx
       . rw [mem_singleton.1 hx]; simpa using hlt
 exact key L h
def a0C (R : List Chg) (id : Str) : List Chg := R.filter fun c => decide (idC c = id) && B9 (opC c)
def S9 (R : List Chg) (id : Str) (k : VK) : List Chg := R.filter fun c => decide (idC c = id) && (B7 (opC c) && decide (T1 c = k))
theorem c2D {c : Chg} (h : I6 c = 0) : opC c = 1 \/ opC c = 2 \/ opC c = 3 \/ opC c = 4 \/ opC c = 5 := by
 have h1 := (U7.1 h).op1; have h2 := (U7.1 h).op5
 show c.2.1 = 1 \/ c.2.1 = 2 \/ c.2.1 = 3 \/ c.2.1 = 4 \/ c.2.1 = 5
 omega
theorem c6n (R : List Chg) (id : Str) : (abF R id).cr = R.any fun c => decide (idC c = id) && decide (opC c = 1) := by
 refine M2 (P := fun R => (abF R id).cr = R.any fun c => decide (idC c = id) && decide (opC c = 1)) rfl (fun R c ih => ?_) R; rw [a0J, any_append, <- ih]; by_cases h : idC c = id
 . rw [if_pos h]; unfold O7; by_cases h1 : opC c = 1
   . simp [h, h1]
   . rw [if_neg h1]; simp only [h1, decide_false, Bool.and_false, any_cons, any_nil, Bool.or_false]
     (repeat' split) <;> rfl
 . rw [if_neg h]; simp [h]
theorem c6D (R : List Chg) (id : Str) : (abF R id).rm = R.any fun c => decide (idC c = id) && decide (opC c = 2) := by
 refine M2 (P := fun R => (abF R id).rm = R.any fun c => decide (idC c = id) && decide (opC c = 2)) rfl (fun R c ih => ?_) R; rw [a0J, any_append, <- ih]; by_cases h : idC c = id
 . rw [if_pos h]; unfold O7; by_cases h1 : opC c = 1
   . simp [h, h1]
   . by_cases h3 : opC c = 3
     . simp [h, h3]
     . by_cases h2 : opC c = 2
       . simp [h, h2]
       . simp [h, h1, h2, h3]
 . rw [if_neg h]; simp [h]
theorem c6s (R : List Chg) (id : Str) : (abF R id).nm = X4 (a0C R id) := by
 refine M2 (P := fun R => (abF R id).nm = X4 (a0C R id)) rfl (fun R c ih => ?_) R; rw [a0J]; unfold a0C at ih ⊢; rw [filter_append]; by_cases h : idC c = id
 . rw [if_pos h]; unfold O7; by_cases h1 : opC c = 1
   . rw [if_pos h1]; simp only [filter_cons, h, h1, B9, decide_true, Bool.true_or, Bool.and_self, if_true, filter_nil, a3r, ih]
   . rw [if_neg h1]; by_cases h3 : opC c = 3
     . rw [if_pos h3]; simp only [filter_cons, h, h3, B9, decide_true, Bool.or_true, Bool.and_self, if_true, filter_nil, a3r, ih]
     . rw [if_neg h3]; have : B9 (opC c) = false := (by simp [B9, h1, h3]); simp only [filter_cons, h, this, Bool.and_false, Bool.false_eq_true, if_false, filter_nil, append_nil]; split <;> exact ih
 . rw [if_neg h]; simp only [filter_cons, h, decide_false, Bool.false_and, Bool.false_eq_true, if_false, filter_nil, append_nil]; exact ih
theorem b8T (vs : List (VK × Chg)) (k k' : VK) (c : Chg) : a0v (a3B vs k c) k' = if k = k' then some c else a0v vs k' := by
 unfold a0v a3B; by_cases ha : vs.any (fun p => decide (p.1 = k)) = true
 . rw [if_pos ha]; have key : ∀ vs : List (VK × Chg), ((vs.map fun p => if p.1 = k then (p.1, c) else p).find? fun p => decide (p.1 = k')) = (vs.find? fun p => decide (p.1 = k')).map fun p => if p.1 = k then (p.1, c) else p := by
     intro vs
     induction vs with
     | nil => rfl
     | cons p vs ih =>
       rw [map_cons, find?_cons, find?_cons]; by_cases h : p.1 = k
       . rw [if_pos h]; by_cases h2 : p.1 = k'
         . simp only [decide_eq_true h2, Option.map_some, if_pos h]
         . simp only [decide_eq_false h2]; exact ih
       . rw [if_neg h]; by_cases h2 : p.1 = k'
         . simp only [decide_eq_true h2, Option.map_some, if_neg h]
         . simp only [decide_eq_false h2]; exact ih
   rw [key]; by_cases h : k = k'
   . rw [if_pos h]; obtain ⟨p, hp, e⟩ := any_eq_true.1 ha; cases hf : vs.find? fun p => decide (p.1 = k') with
     | none => exact absurd (by rw [<- h]; exact e) (find?_eq_none.1 hf p hp)
     | some q =>
       have : q.1 = k' := by simpa using find?_some hf
       simp [this, h]
   . rw [if_neg h]; cases hf : vs.find? fun p => decide (p.1 = k') with
     | none => rfl
     | some q =>
       have hq : q.1 = k' := by simpa using find?_some hf
       have : ¬ q.1 = k := fun e => h (e.symm.trans hq)
       simp [this]
 . rw [if_neg ha, find?_append]; by_cases h : k = k'
   . subst h; rw [if_pos rfl]; have : vs.find? (fun p => decide (p.1 = k)) = none := by
       rw [find?_eq_none]; intro p hp hq; exact ha (any_eq_true.2 ⟨p, hp, hq⟩)
     simp [this]
   . rw [if_neg h]; have : find? (fun p : VK × Chg => decide (p.1 = k')) [(k, c)] = none := by simp [h]
     simp [this]
theorem c1t {R : List Chg} (hR : ∀ c ∈ R, I6 c = 0) (id : Str) (k : VK) : a0v (abF R id).vs k = if S9 R id k = [] then none else some (X4 (S9 R id k)) := by
 have key : ∀ R : List Chg, (∀ c ∈ R, I6 c = 0) -> a0v (abF R id).vs k = if S9 R id k = [] then none else some (X4 (S9 R id k)) := fun R => by
   refine M2 (P := fun R => (∀ c ∈ R, I6 c = 0) -> a0v (abF R id).vs k = if S9 R id k = [] then none else some (X4 (S9 R id k))) (fun _ => rfl) (fun R c ih h => ?_) R; have ih := ih fun x hx => h x (by simp [hx])
   have hc := h c (by simp); rw [a0J]; have hsn : S9 (R ++ [c]) id k = S9 R id k ++ (if idC c = id /\ (B7 (opC c) = true /\ T1 c = k) then [c] else []) := by
     unfold S9; rw [filter_append]; congr 1
     by_cases h1 : idC c = id <;> by_cases h2 : B7 (opC c) = true <;> by_cases h3 : T1 c = k <;> simp [h1, h2, h3]
   by_cases hid : idC c = id
   . rw [if_pos hid]; have hops := c2D hc; unfold O7; by_cases h1 : opC c = 1
     . rw [if_neg (by simp [B7, h1]), append_nil] at hsn; rw [if_pos h1, hsn]; exact ih
     . rw [if_neg h1]; by_cases h3 : opC c = 3
       . rw [if_neg (by simp [B7, h3]), append_nil] at hsn; rw [if_pos h3, hsn]; exact ih
       . rw [if_neg h3]; by_cases h2 : opC c = 2
         . rw [if_neg (by simp [B7, h2]), append_nil] at hsn; rw [if_pos h2, hsn]; exact ih
         . rw [if_neg h2]; have hv : B7 (opC c) = true := by simp only [B7, Bool.or_eq_true, decide_eq_true_eq]; omega
           simp only [b8T]; by_cases hk : T1 c = k
           . rw [if_pos ⟨hid, hv, hk⟩] at hsn; rw [if_pos hk, hsn, if_neg (by simp), a3r]; congr 1
             unfold a0R; rw [hk, ih]; split
             . rename_i e; rw [e]; rfl
             . rfl
           . rw [if_neg (by simp [hk]), append_nil] at hsn; rw [if_neg hk, hsn]; exact ih
   . rw [if_neg (by simp [hid]), append_nil] at hsn; rw [if_neg hid, hsn]; exact ih
 exact key R hR
structure AbE (a b : Abt) : Prop where
 cr : a.cr = b.cr
 rm : a.rm = b.rm
 nm : a.nm = b.nm
 vs : Perm a.vs b.vs
theorem b2X {vs : List (VK × Chg)} (hn : (vs.map (·.1)).Nodup) {k : VK} {c : Chg} : a0v vs k = some c ↔ (k, c) ∈ vs := by
 unfold a0v; constructor
 . intro h; cases hf : vs.find? fun p => decide (p.1 = k) with
   | none => rw [hf] at h; cases h
   | some q =>
     rw [hf] at h; have hq : q.1 = k := by simpa using find?_some hf
     simp only [Option.map_some, Option.some.injEq] at h; have := mem_of_find?_eq_some hf; rw [<- hq, <- h]; exact this
 . intro h; cases hf : vs.find? fun p => decide (p.1 = k) with
   | none => exact absurd (by simp) (find?_eq_none.1 hf _ h)
   | some q =>
     have hq : q.1 = k := by simpa using find?_some hf
     have := c6b hn (mem_of_find?_eq_some hf) h hq; rw [this]; rfl
theorem a3y {σ : St} {d B : Nat} {r : AV} {hs : List AV} (hB : 1000000 <= B) (hd : d < 1000000) (hH : hs.all isH = true) (hl : hs.length <= 500000) (hm : V8 r = true) {τ : St} (hτ : τ = E7 (put (D8 σ []) d r) [] B hs) :
   Fam τ B hs /\ τ d = r /\ Oth σ τ d /\ Y1 σ τ B := by
 have hH' : ∀ x ∈ hs, isH x = true := fun x hx => all_eq_true.1 hH x hx
 have hput : ∀ i, i ∉ a0o [] B hs.length -> τ i = G0 (a0o [] B hs.length) (put σ d r i) := fun i hi => by
   rw [hτ]; exact a0g hs [] (put (D8 σ []) d r) B i hi
 have hL : ∀ k ∈ a0o [] B hs.length, B <= k /\ k < B + hs.length := fun k hk => by
   rcases a2R _ _ _ _ hk with h | h
   . simp at h
   . exact h
 refine ⟨⟨hH, hl, fun i hi => ?_⟩, ?_, ⟨a0o [] B hs.length, fun j hj => ?_, fun i hi hid => ?_⟩, (fun B2 hs2 hF2 hB2 hBB => ⟨hF2.1, hF2.2.1, fun i hi => ?_⟩)⟩
 . rw [hτ]; exact a8E hs (put (D8 σ []) d r) B hH' i hi
 . rw [hput d (fun hm => by have := hL d hm; omega)]; simp only [put, if_true]; exact b3p hm d _
 . rw [Bool.eq_false_iff]; intro hc; have := hL j (by simpa using hc); omega
 . rw [hput i (fun hm => by have := hL i hm; omega)]; simp only [put, if_neg hid]
 . have h4 := hF2.2.1; have hH2 := all_eq_true.1 hF2.1 _ (gmm hi); rw [hput _ (fun hm => by have := hL _ hm; omega)]; simp only [put, if_neg (show ¬ B2 + i = d by omega)]; rw [hF2.2.2 i hi, a3k hH2, a2Y hH2]
theorem c4h {l : List Chg} (hf : ∀ c ∈ l, M8 c) : ∀ {R : List Chg}, U5 R -> U5 (ofR R l) := by
 induction l with
 | nil => intro R h; exact h
 | cons c l ih =>
   intro R h; exact ih (fun x hx => hf x (by simp [hx])) (a3R h (hf c (by simp)))
theorem c4b {σ : St} {d : Nat} {K : St -> Prop} (B : Nat) (hB : 1000000 <= B) (hd : d < 1000000) {l : List Chg} (hl : l.length < 100000) (hf : ∀ c ∈ l, M8 c) (h0 : ofE [] l = 0)
   (hk : ∀ s τ, StF τ B s (ofR [] l) -> τ d = .tup [.d (.raw (va s)), .d (.int .i64 0)] -> Oth σ τ d -> Y1 σ τ B -> K τ) : a0S prog 17 [.d (B3 l)] σ d K := by
 refine ⟨[], B, _, by simp, by simp, c3V l hl hf, fun x hs' hp => ?_⟩; rcases hp with ⟨h1, _⟩ | ⟨_, s, r, m, E, rfl, hE, rfl⟩
 . exact absurd h0 h1
 . have hR := c4h hf a6z; obtain ⟨f1, f2, f3, f4⟩ := a3y (σ := σ) (d := d) (r := .tup [.d (.raw (va s)), .d (.int .i64 0)]) hB hd (a8D s r m (ofR [] l) E) (b4U hR hE) rfl rfl; exact hk s _ ⟨hR, r, m, E, hE, f1⟩ f2 f3 f4
theorem c1j {σ : St} {d : Nat} {K : St -> Prop} (B s : Nat) (hB : 1000000 <= B) (hd : d < 1000000) {R : List Chg} {c : Chg} (hF : StF σ B s R) (hc : M8 c)
   (hk : ∀ τ, StF τ B s (K1 R c) -> τ d = .d (.int .i64 (I0 R c)) -> Oth σ τ d -> Y1 σ τ B -> K τ) : a0S prog 13 [.d (.raw (va s)), .d (A3 c)] σ d K :=
 b4k B s hB hd hF hc fun τ ks h1 h2 h3 h4 h5 => hk τ h1 h2 ⟨ks, h3, h4⟩ h5
theorem b5i (l : List Str) : a1a (l.map .str) = true := by
 induction l with
 | nil => rfl
 | cons s l ih => simp [a1a, a2o, ih]
theorem c1W (l : List Att) : a1a (l.map att) = true := by
 induction l with
 | nil => rfl
 | cons s l ih =>
   simp only [map_cons, a1a, ih, Bool.and_true]; simp [att, a2o, a1a, B0, b5i]
theorem b6Q (s : Str) (a : List Att) : a2o (a0p s a) = true := by simp [a0p, a2o, a1a, H6, c1W]
theorem c2W (l : List (Str × List Att)) : a1a (l.map Y2) = true := by
 induction l with
 | nil => rfl
 | cons s l ih => simp [a1a, ih, Y2, b6Q]
theorem b2Y (s : Str) (a : List Att) (b : Bool) : V8 (.tup [.d (a0p s a), .d (.bool b)]) = true := by simp [V8, a7P, b6Q, a2o]
theorem c5K : ∀ c ∈ alL, M8 c := by
 have h : (alL.all fun c => decide (List.length c.2.2.1 < 900000) && (decide (List.length c.2.2.2.1 < 900000) && (decide (List.length c.2.2.2.2.1 < 900000) && decide (List.length c.2.2.2.2.2 < 900000)))) = true := by kernel_rfl
 intro c hc; have := all_eq_true.1 h c hc; simp only [Bool.and_eq_true, decide_eq_true_eq] at this; exact ⟨this.1, this.2.1, this.2.2.1, this.2.2.2⟩
theorem c2F : Ctr prog 10 [] (.d (.bool true)) := by
 have g1 := a4Z (1, 0, 0); have g2 := a4Z (2, 0, 0); have g6 := a4Z (6, 0, 0); rw [c5P] at g1; rw [c6j] at g2; rw [c5F] at g6; have k1 := a8C 2 1 (idS 50) nxS []; have k2 := a8C 1 1 (idS 49) nxS []; have k3 := a8C 5 4 (idS 49) [] [109]; have k4 := a8C 4 5 (idS 49) [] [109]; have k5 := a8C 6 1 (idS 54) nyS []; have k6 := a8C 3 2 (idS 49) [] []; have hal : B3 alL = .sl [A3 (atC 2 1 (idS 50) nxS []), A3 (atC 1 1 (idS 49) nxS []), A3 (atC 5 4 (idS 49) [] [109]), A3 (atC 4 5 (idS 49) [] [109]), A3 (atC 6 1 (idS 54) nyS [])] := rfl; have hw : ∀ c, C0 (A3 c) = 8 := fun _ => rfl
 have hcs : ∀ t : Int, A4 (t, 0, 0) = .agg [.int .i64 t, .int .i64 0, .int .i64 0] := fun _ => rfl
 simp only [hcs] at g1 g2 g6; refine fv (fun i => i == 5000031 || i == 5000043 || i == 5000049 || i == 5000087 || i == 5000093 || i == 5000104 || i == 5000113 || i == 5000116 || i == 5000131 || i == 5000137) func10 (by kernel_rfl) rfl rfl rfl rfl rfl ?_; generalize atC 2 1 (idS 50) nxS [] = C1 at *; generalize atC 1 1 (idS 49) nxS [] = C2 at *; generalize atC 5 4 (idS 49) [] [109] = C3 at *; generalize atC 4 5 (idS 49) [] [109] = C4 at *; generalize atC 6 1 (idS 54) nyS [] = C5 at *; generalize hi1 : idS 49 = i1 at *; generalize hi2 : idS 50 = i2 at *; generalize hi6 : idS 54 = i6 at *; simp only [nxS, nyS] at k1 k2 k3 k4 k5 k6; simp -implicitDefEqProofs; refine A0 g1 ?_; simp -implicitDefEqProofs; refine A0 g2 ?_; simp -implicitDefEqProofs; refine A0 k1 ?_; simp -implicitDefEqProofs; refine A0 k2 ?_; simp -implicitDefEqProofs; refine A0 k3 ?_; simp -implicitDefEqProofs; refine A0 k4 ?_; simp -implicitDefEqProofs; refine A0 g6 ?_; simp -implicitDefEqProofs; refine A0 k5 ?_; simp -implicitDefEqProofs [hw]; refine ⟨by decide, ?_⟩; rw [<- hal]; refine c4b 1000000 (Nat.le_refl _) (by omega) (by decide) c5K c7S (fun s τ1 hF1 f1 o1 _ => ?_); rw [d1s] at hF1; have t11 : τ1 1 = .d (.str i1) := o1.dd (by omega) (by omega) (by simp); have t12 : τ1 2 = .d (.str i2) := o1.dd (by omega) (by omega) (by simp); have hG := T9 hF1.1; have nxe : nxS = [99, 110, 61, 120, 44, 111, 61, 97, 99, 109, 101] := rfl; have me : a3g = [109, 97, 105, 108] := rfl; have n2e : nx2 = 99 :: 110 :: 61 :: 120 :: 35 :: (i2 ++ [44, 111, 61, 97, 99, 109, 101]) := by rw [<- hi2]; rfl
 have hl2 : List.length i2 = 22 := by rw [<- hi2]; rfl
 have hE1 := c7F; have hE2 := c8e; rw [hi1] at hE1; rw [hi2] at hE2; have en : ∀ id x, StD alL x -> _ := fun id x hx => b5O alL x id hx hG
 have enE := enters_of func21 (by kernel_rfl) rfl; simp -implicitDefEqProofs [f1, t11, t12]; refine a1y (ds := [.str i1]) 1000000 s (Nat.le_refl _) (by omega) (by repeat first | exact hF1 | apply StF.put | apply StF.setv | apply StF.clean | omega) enE (fun x hx => en i1 x hx) (b2Y _ _ _) (fun τ2 hF2 f2 o2 _ => ?_); rw [hE1] at f2; have hd2 : a0p (nxS, [(a3g, [[109]])]).1 (nxS, [(a3g, [[109]])]).2 = .agg [.str nxS, .sl [.agg [.str a3g, .sl [.str [109]]]]] := rfl; simp only [hd2] at f2; simp only [nxe, me] at f2; have t21 : τ2 1 = .d (.str i1) := o2.dd (by omega) (by omega) (by simp [t11]); have t22 : τ2 2 = .d (.str i2) := o2.dd (by omega) (by omega) (by simp [t12]); have t24 : τ2 4 = .d (.raw (va s)) := o2.dd (by omega) (by omega) (by simp); simp -implicitDefEqProofs [f2, t21, t22, t24]; refine a1y (ds := [.str i2]) 1000000 s (Nat.le_refl _) (by omega) (by repeat first | exact hF2 | apply StF.put | apply StF.setv | apply StF.clean | omega) enE (fun x hx => en i2 x hx) (b2Y _ _ _) (fun τ3 hF3 f3 o3 _ => ?_); rw [hE2] at f3; have hd3 : a0p nx2 [] = .agg [.str nx2, .sl []] := rfl; simp only [hd3] at f3; simp only [n2e] at f3; have t31 : τ3 1 = .d (.str i1) := o3.dd (by omega) (by omega) (by simp [t21]); have t32 : τ3 2 = .d (.str i2) := o3.dd (by omega) (by omega) (by simp [t22]); have t34 : τ3 4 = .d (.raw (va s)) := o3.dd (by omega) (by omega) (by simp [t24]); have t36 : τ3 6 = .box (.agg [.str [99, 110, 61, 120, 44, 111, 61, 97, 99, 109, 101], .sl [.agg [.str [109, 97, 105, 108], .sl [.str [109]]]]]) := o3.bx (by omega) (by omega) (by simp); have t37 : τ3 7 = .d (.bool true) := o3.dd (by omega) (by omega) (by simp); simp -implicitDefEqProofs [f3, t31, t32, t34, t36, t37, hl2]; have orp : ∀ x, StD alL x -> Ctr prog 29 [.d x] (.d (.sl ((K6 alL).map .str))) := fun x hx => Z9 (b1l alL x hx hG)
 have liv : ∀ x, StD alL x -> Ctr prog 27 [.d x] (.d (.sl ((A9 alL).map .str))) := fun x hx => Z9 (a4f alL x hx hG.lt)
 have con : ∀ x, StD alL x -> Ctr prog 28 [.d x] (.d (.sl ((Z1 alL).map .str))) := fun x hx => Z9 (a4w alL x hx hG)
 have hol : ((K6 alL).map D.str).length = 1 := (by simp [c4i]); have hmO := b5i (K6 alL); generalize (K6 alL).map D.str = OL at *; rw [a4c, hi1, hi2, hi6] at liv; rw [c5p, hi2] at con; refine a1y (ds := []) (res := .d (.sl OL)) 1000000 s (Nat.le_refl _) (by omega) (by repeat first | exact hF3 | apply StF.put | apply StF.setv | apply StF.clean | omega) (enters_of func29 (by kernel_rfl) rfl) orp hmO (fun τ4 hF4 f4 o4 _ => ?_); have t41 : τ4 1 = .d (.str i1) := o4.dd (by omega) (by omega) (by simp [t31]); have t42 : τ4 2 = .d (.str i2) := o4.dd (by omega) (by omega) (by simp [t32]); have t44 : τ4 4 = .d (.raw (va s)) := o4.dd (by omega) (by omega) (by simp [t34]); have t485 : τ4 85 = .d (.bool false) := o4.dd (by omega) (by omega) (by simp); simp -implicitDefEqProofs [f4, t41, t42, t44, t485, hol]; refine a1y (ds := []) (res := .d (B0 [i1, i2, i6])) 1000000 s (Nat.le_refl _) (by omega) (by repeat first | exact hF4 | apply StF.put | apply StF.setv | apply StF.clean | omega) (enters_of func27 (by kernel_rfl) rfl) liv rfl (fun τ5 hF5 f5 o5 _ => ?_); have t51 : τ5 1 = .d (.str i1) := o5.dd (by omega) (by omega) (by simp [t41]); have t52 : τ5 2 = .d (.str i2) := o5.dd (by omega) (by omega) (by simp [t42]); have t54 : τ5 4 = .d (.raw (va s)) := o5.dd (by omega) (by omega) (by simp [t44]); have t591 : τ5 91 = .d (.bool false) := o5.dd (by omega) (by omega) (by simp); simp -implicitDefEqProofs [f5, t51, t52, t54, t591, B0]; have l1 := a2I [i1, i2, i6] [i1, i2, i6] (by simp) (by simp); have l2 := a2I [i2] [i2] (by simp) (by simp); simp only [B0, map_cons, map_nil, decide_true] at l1 l2; refine A0 g6 ?_; simp -implicitDefEqProofs [f5, t51, t52, t54, t591, B0]; refine ⟨by decide, A0 l1 ?_⟩; simp -implicitDefEqProofs [f5, t51, t52, t54, t591, B0]; refine a1y (ds := []) (res := .d (B0 [i2])) 1000000 s (Nat.le_refl _) (by omega) (by repeat first | exact hF5 | apply StF.put | apply StF.setv | apply StF.clean | omega) (enters_of func28 (by kernel_rfl) rfl) con rfl (fun τ6 hF6 f6 o6 _ => ?_); have t61 : τ6 1 = .d (.str i1) := o6.dd (by omega) (by omega) (by simp [t51]); have t62 : τ6 2 = .d (.str i2) := o6.dd (by omega) (by omega) (by simp [t52]); have t64 : τ6 4 = .d (.raw (va s)) := o6.dd (by omega) (by omega) (by simp [t54]); have t602 : τ6 102 = .d (.bool false) := o6.dd (by omega) (by omega) (by simp); simp -implicitDefEqProofs [f6, t61, t62, t64, t602, B0]; refine A0 l2 ?_; simp -implicitDefEqProofs [f6, t61, t62, t64, t602, B0]; refine A0 k6 ?_; simp -implicitDefEqProofs [f6, t61, t62, t64, t602, B0]; have ha2 := d0f; have hr2 := c7u; have hfc : M8 (atC 3 2 (idS 49) [] []) := by
   rw [hi1]; have h5 : List.length i1 = 22 := by rw [<- hi1]; rfl
   exact ⟨by simp [atC]; omega, by simp [atC], by simp [atC], by simp [atC]⟩
 rw [hi1] at ha2 hr2 hfc; refine c1j 1000000 s (Nat.le_refl _) (by omega) (R := alL) (by repeat first | exact hF6 | apply StF.put | apply StF.setv | apply StF.clean | omega) hfc (fun τ7 hF7 f7 o7 _ => ?_); rw [ha2] at f7; rw [hr2] at hF7; have t72 : τ7 2 = .d (.str i2) := o7.dd (by omega) (by omega) (by simp [t62]); have t74 : τ7 4 = .d (.raw (va s)) := o7.dd (by omega) (by omega) (by simp [t64]); have hG2 := T9 hF7.1; have fnd : ∀ x, StD al2 x -> _ := fun x hx => b1L al2 x nxS hx hG2
 rw [c3z, hi2] at fnd; simp only [nxe] at fnd; have hen : ∀ x, StD al2 x -> Ctr prog 30 [.d x] (.d (.sl ((V9 al2).map Y2))) := fun x hx => Z9 (b0P al2 x hx hG2)
 have con2 : ∀ x, StD al2 x -> Ctr prog 28 [.d x] (.d (.sl ((Z1 al2).map .str))) := fun x hx => Z9 (a4w al2 x hx hG2)
 have hel : ((V9 al2).map Y2).length = 2 := (by simp [c3f]); have hme := c2W (V9 al2); generalize (V9 al2).map Y2 = EL at *; rw [c3l] at con2; simp -implicitDefEqProofs [f7, t72, t74]; refine a1y (ds := [.str [99, 110, 61, 120, 44, 111, 61, 97, 99, 109, 101]]) 1000000 s (Nat.le_refl _) (by omega) (by repeat first | exact hF7 | apply StF.put | apply StF.setv | apply StF.clean | omega) (enters_of func15 (by kernel_rfl) rfl) fnd rfl (fun τ8 hF8 f8 o8 _ => ?_); have t82 : τ8 2 = .d (.str i2) := o8.dd (by omega) (by omega) (by simp [t72]); have t84 : τ8 4 = .d (.raw (va s)) := o8.dd (by omega) (by omega) (by simp [t74]); have t810 : τ8 10 = .d (.int .i64 0) := o8.dd (by omega) (by omega) (by simp); simp -implicitDefEqProofs [f8, t82, t84, t810]; refine a1y (ds := []) (res := .d (.sl EL)) 1000000 s (Nat.le_refl _) (by omega) (by repeat first | exact hF8 | apply StF.put | apply StF.setv | apply StF.clean | omega) (enters_of func30 (by kernel_rfl) rfl) hen hme (fun τ9 hF9 f9 o9 _ => ?_); have t94 : τ9 4 = .d (.raw (va s)) := o9.dd (by omega) (by omega) (by simp [t84]); have t929 : τ9 129 = .d (.bool true) := o9.dd (by omega) (by omega) (by simp); simp -implicitDefEqProofs [f9, t94, t929, hel]; refine a1y (ds := []) (res := .d (.sl [])) 1000000 s (Nat.le_refl _) (by omega) (by repeat first | exact hF9 | apply StF.put | apply StF.setv | apply StF.clean | omega) (enters_of func28 (by kernel_rfl) rfl) con2 rfl (fun τ10 hF10 f10 o10 _ => ?_); have tA : τ10 135 = .d (.bool true) := o10.dd (by omega) (by omega) (by simp); simp -implicitDefEqProofs [f10, tA]
theorem c5o {c : Chg} (h : smC c = true) : M8 c := by
 simp only [smC, Bool.and_eq_true, decide_eq_true_eq] at h; exact ⟨by omega, by omega, by omega, by omega⟩
theorem c0K {l : List Chg} (h : a4F l = true) : l.length <= 14 /\ ∀ c ∈ l, M8 c := by
 simp only [a4F, Bool.and_eq_true, decide_eq_true_eq, all_eq_true] at h; exact ⟨h.2, fun c hc => c5o (h.1 c hc)⟩
theorem c4A {R : List Chg} (h : U5 R) {id : Str} (hid : id ∈ A9 R) : List.length id = 22 := by
 obtain ⟨⟨c, hc, rfl⟩, _⟩ := a2i.1 hid; have ho := U7.1 (h.ok _ hc); obtain ⟨h3, h4⟩ := a2B (c := (J5 (idC c)).1) (s := idC c) (by rw [<- ho.id]); rw [<- h3, a1L h4]
theorem c1B (m : SM) (k v n : Str) : J1 (m ++ [(k, v)]) n = (J1 m n).or (if k = n then some v else none) := by
 unfold J1; rw [find?_append]; cases h : find? (fun p => decide (p.1 = n)) m with
 | some x => simp
 | none => by_cases hk : k = n <;> simp [hk]
theorem c3e (R : List Chg) (n : Str) (l : List Str) : J1 (P2 R l) n = l.find? fun id => decide (G2 R id = n) := by
 refine M2 (P := fun l => J1 (P2 R l) n = l.find? fun id => decide (G2 R id = n)) rfl (fun l id ih => ?_) l; rw [a7S, find?_append, <- ih]; split
 . rename_i h
   by_cases hn : G2 R id = n
   . rw [hn] at h; obtain ⟨x, hx⟩ := Option.isSome_iff_exists.1 h; rw [hx]; rfl
   . cases J1 (P2 R l) n <;> simp [hn]
 . rw [c1B]; by_cases hn : G2 R id = n <;> simp [hn]
theorem a9t {R : List Chg} {id : Str} : P4 R id = true ↔ (A9 R).find? (fun x => decide (G2 R x = G2 R id)) = some id := by
 unfold P4; rw [c3e, decide_eq_true_eq]
theorem c1Y {R : List Chg} {id : Str} (h : id ∈ A9 R) : ∃ x ∈ A9 R, G2 R x = G2 R id /\ P4 R x = true := by
 cases hf : (A9 R).find? (fun x => decide (G2 R x = G2 R id)) with
 | none => exact absurd (by simp) (find?_eq_none.1 hf id h)
 | some x =>
   have h1 : G2 R x = G2 R id := by simpa using find?_some hf
   exact ⟨x, mem_of_find?_eq_some hf, h1, a9t.2 (by rw [h1]; exact hf)⟩
structure d1T (R : List Chg) (c : Chg) : Prop where
 rm : opC c = 2 -> H9 (R ++ [c]) (idC c) = (([], []), false)
 put : opC c = 4 -> ∃ a, H9 (R ++ [c]) (idC c) = (((H9 R (idC c)).1.1, a), true) /\ c.2.2.2.2.2 ∈ c6k a c.2.2.2.2.1
 drop : opC c = 5 -> ∃ a, H9 (R ++ [c]) (idC c) = (((H9 R (idC c)).1.1, a), true) /\ c.2.2.2.2.2 ∉ c6k a c.2.2.2.2.1
 name : opC c = 1 \/ opC c = 3 -> ∃ s, H9 (R ++ [c]) (idC c) = ((s, (H9 R (idC c)).1.2), true) /\ (s = nmC c \/ ∃ x, O8 (R ++ [c]) (nmC c) = (x, true) /\ x ≠ idC c)
theorem b4Y : ∀ (l k : List F8), k ≠ [] -> P1 l (l ++ k) = -1
 | [], k, h => by cases k with
   | nil => exact absurd rfl h
   | cons x k => rfl
 | p :: l, k, h => by
   simp only [cons_append, P1]; rw [if_pos (a3o.2 rfl), b4Y l k h]
theorem b3v {s : Str} (h : 1 < K8 (H5 s).1) : R7 (H5 s).1 s < 0 := by
 cases hs : K3 s with
 | none =>
   have : H5 s = ([], false) := by unfold H5; rw [hs]
   rw [this] at h; exact absurd h (by decide)
 | some l =>
   cases l with
   | nil =>
     have : H5 s = ([], false) := by unfold H5; rw [hs]
     rw [this] at h; exact absurd h (by decide)
   | cons p l =>
     obtain ⟨t, h1, h2⟩ := a5y hs; rw [h1]; unfold R7; rw [h2, hs]; simp only [reverse_cons]; rw [b4Y _ _ (by simp)]
     decide
theorem c2c {X : List Str} {s x : Str} : x ∈ b4Q X s ↔ x ∈ X \/ x = s := by
 unfold b4Q; split
 . rename_i h
   exact ⟨.inl, fun e => e.elim id fun e => e ▸ h⟩
 . simp
theorem a7t (R : List Chg) (l : List Str) : ∀ id ∈ (H7 R l).2, id ∈ l := by
 refine M2 (P := fun l => ∀ id ∈ (H7 R l).2, id ∈ l) (by simp [H7]) (fun l x ih => ?_) l; intro id hid; rw [a1F] at hid; unfold a0M at hid; split at hid
 . rcases mem_append.1 hid with h | h
   . simp [ih _ h]
   . simpa using Or.inr (mem_singleton.1 h)
 . simp [ih _ hid]
theorem a7y (R : List Chg) (A : List Str) (x : Str) (hx : x ∉ A) : (x ∈ (H7 R (A ++ [x])).2 ↔ a6j R (H7 R A).1 x = true) /\ ∀ y, y ≠ x -> (y ∈ (H7 R (A ++ [x])).2 ↔ y ∈ (H7 R A).2) := by
 rw [a1F]; unfold a0M; have h0 := fun h => hx (a7t R A x h)
 split
 . rename_i h
   refine ⟨by simp [h], fun y hy => by simp [hy]⟩
 . rename_i h
   refine ⟨iff_of_false h0 h, fun y hy => Iff.rfl⟩
theorem b2m (R : List Chg) (A B : List Str) (hn : (A ++ B).Nodup) : ∀ y ∈ A, (y ∈ (H7 R (A ++ B)).2 ↔ y ∈ (H7 R A).2) := by
 refine M2 (P := fun B => (A ++ B).Nodup -> ∀ y ∈ A, (y ∈ (H7 R (A ++ B)).2 ↔ y ∈ (H7 R A).2)) (fun _ y _ => by simp) (fun B b ih => ?_) B hn; intro hn y hy; rw [<- append_assoc] at hn ⊢; obtain ⟨h1, _, h3⟩ := nodup_append.1 hn; rw [(a7y R (A ++ B) b fun hb => h3 b hb b (by simp) rfl).2 y fun e => h3 y (by simp [hy]) b (by simp) e]; exact ih h1 y hy
theorem c3x (R : List Chg) (l : List Str) : l.Nodup -> ∀ s, s ∈ (H7 R l).1 ↔ ∃ y ∈ l, C7 R y = s /\ y ∉ (H7 R l).2 := by
 refine M2 (P := fun l => l.Nodup -> ∀ s, s ∈ (H7 R l).1 ↔ ∃ y ∈ l, C7 R y = s /\ y ∉ (H7 R l).2) (by simp [H7]) (fun l x ih => ?_) l; intro hn s; obtain ⟨h1, _, h3⟩ := nodup_append.1 hn; have hx : x ∉ l := fun h => h3 x h x (by simp) rfl
 obtain ⟨o1, o2⟩ := a7y R l x hx; have key : s ∈ (H7 R (l ++ [x])).1 ↔ s ∈ (H7 R l).1 \/ (a6j R (H7 R l).1 x = false /\ s = C7 R x) := by
   rw [a1F]; unfold a0M; split
   . rename_i h; simp [h]
   . rename_i h
     rw [c2c]; simp [h]
 rw [key, ih h1 s]; constructor
 . rintro (⟨y, hy, e, hq⟩ | ⟨hq, e⟩)
   . exact ⟨y, by simp [hy], e, fun h => hq ((o2 y fun e => hx (e ▸ hy)).1 h)⟩
   . exact ⟨x, by simp, e.symm, fun h => by rw [o1.1 h] at hq; cases hq⟩
 . rintro ⟨y, hy, e, hq⟩; rcases mem_append.1 hy with hy | hy
   . exact .inl ⟨y, hy, e, fun h => hq ((o2 y fun e => hx (e ▸ hy)).2 h)⟩
   . rw [mem_singleton.1 hy] at e hq; refine .inr ⟨?_, e.symm⟩; rw [o1] at hq; simpa using hq
theorem a8w {R : List Chg} {id : Str} : id ∈ K6 R ↔ id ∈ (H7 R (I2 R)).2 := by
 unfold K6 I3; rw [mem_mergeSort]
theorem b0c (R : List Chg) : (I2 R).Nodup := (U4 (a6E (C7 R)) (A9 R)).1.nodup_iff.2 (X7 R)
theorem c3C {R : List Chg} {id : Str} (h : id ∈ A9 R) : id ∈ K6 R ↔ 1 < K8 (Y6 R id) /\ ∀ y ∈ A9 R, C7 R y = Y6 R id -> y ∈ K6 R := by
 obtain ⟨A, B, hAB⟩ := append_of_mem (a2P.2 h); have hn := b0c R; have hK : KS (C7 R) (I2 R) := a4i (X7 R); rw [hAB] at hn hK; have hn2 : (A ++ [id]).Nodup /\ ((A ++ [id]) ++ B).Nodup := by
   have : A ++ id :: B = (A ++ [id]) ++ B := (by simp); rw [this] at hn; exact ⟨(nodup_append.1 hn).1, hn⟩
 obtain ⟨hA, _, hA3⟩ := nodup_append.1 hn2.1; have hid : id ∉ A := fun q => hA3 id q id (by simp) rfl
 have e1 : id ∈ K6 R ↔ a6j R (H7 R A).1 id = true := by
   rw [a8w, hAB]; have : A ++ id :: B = (A ++ [id]) ++ B := (by simp); rw [this, b2m R (A ++ [id]) B hn2.2 id (by simp)]; exact (a7y R A id hid).1
 have e2 : ∀ y ∈ A, (y ∈ K6 R ↔ y ∈ (H7 R A).2) := fun y hy => by
   rw [a8w, hAB]; exact b2m R A (id :: B) hn y hy
 have e3 : 1 < K8 (Y6 R id) -> ∀ y ∈ A9 R, C7 R y = Y6 R id -> y ∈ A := fun hd y hy e => by
   have hlt : cfK (C7 R) y id < 0 := a4g.2 (.inl (by rw [e]; exact b3v hd)); have hy2 : y ∈ A ++ id :: B := by rw [<- hAB]; exact a2P.2 hy
   rcases mem_append.1 hy2 with h1 | h1
   . exact h1
   . rcases mem_cons.1 h1 with rfl | h1
     . exact absurd hlt (a8N _ _)
     . have hK2 := (pairwise_append.1 hK).2.1; have := (pairwise_cons.1 hK2).1 y h1; exact absurd (a3l this hlt) (a8N _ _)
 rw [e1]; unfold a6j; rw [Bool.and_eq_true, decide_eq_true_eq, Bool.not_eq_true', decide_eq_false_iff_not, c3x R A hA]; refine and_congr_right fun hd => ?_
 constructor
 . intro hq y hy e; have hyA := e3 hd y hy e; rw [e2 y hyA]; exact Classical.byContradiction fun hc => hq ⟨y, hyA, e, hc⟩
 . rintro hq ⟨y, hy, e, hc⟩; have hl : y ∈ A9 R := a2P.1 (by rw [hAB]; simp [hy]); exact hc ((e2 y hy).1 (hq y hl e))
structure d2J (R : List Chg) (id : Str) : Prop where
 par : id ∉ K6 R -> 1 < K8 (Y6 R id) -> (O8 R (Y6 R id)).2 = true
 dep : id ∈ K6 R -> 1 < K8 (Y6 R id)
 orp : id ∈ K6 R -> (O8 R (Y6 R id)).2 = true -> (O8 R (Y6 R id)).1 ∈ K6 R
 own : (O8 R (C7 R id)).2 = true
 one : Z1 R = [] -> (O8 R (C7 R id)).1 = id
end Go.Proofs.Tz