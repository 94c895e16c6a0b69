/-
  What the functions that the statements about merged states reach compute, part 5 of 6, for data of bounded size (each theorem states its bound).
-/import Derived.Test.YtnknfnfinhagoaaGreatDoorTi
import Derived.Test.YtnknfnfinhagoaaGreatDoorWg
import Derived.Test.YtnknfnfinhagoaaGreatDoorTf
import Derived.Test.YtnknfnfinhagoaaGreatDoorWh
import Derived.Shelf.SlSortCmp.NoneTotal
import Derived.Test.YtnknfnfinhagoaaGreatDoorTh
import Derived.Test.YtnknfnfinhagoaaGreatDoorTg
open Go.Proofs.Tryz
set_option linter.unusedSimpArgs false
set_option linter.unusedVariables false
set_option maxRecDepth 100000
set_option maxHeartbeats 8000000
namespace Go.Proofs.Tz
open Go.Vw Go.RowKit Go.Proofs Go.Sort
def S5 (R : List Chg) (id : Str) : Bool := decide (I2 (M8 R (B4 R)) (H4 R id) = some id)
def F0 (R : List Chg) (id : Str) : Str := if S5 R id then H4 R id else a9r (H4 R id) id
def a1G (R : List Chg) : SM := (B4 R).map fun id => (id, F0 R id)
def smD (g : Nat) (N : SM) (bs : List Nat) (clk : Nat) : D := .map (.map (some g)) (N.map fun p => .str p.1) (N.map fun p => .str p.2) bs clk
theorem b3T (m : SM) : (N6 m).map (·.1) = m.map fun p => D.str p.1 := by simp [N6, Function.comp_def]
theorem c2r (m : SM) : (N6 m).map (·.2) = m.map fun p => D.str p.2 := by simp [N6, Function.comp_def]
theorem c2E (m : SM) : (m.map fun p => D.str p.1).zip (m.map fun p => D.str p.2) = N6 m := by
  induction m with
  | nil => rfl
  | cons p m ih => simp only [List.map_cons, List.zip_cons_cons, ih, N6]
theorem c5L {f : FuncId} {args : List AV} {m : SM} (h : G7 prog f args [] (fun r hs' => ∃ g, r = .d (.raw (.map (some g))) ∧ hs' = [.hm (.map (some g)) 9 (N6 m) none])) :
    G7 prog f args [] (fun r hs' => hs' = [] ∧ ∃ g N bs clk, List.Perm N m ∧ r = .d (smD g N bs clk)) := by
  refine h.frzMap ?_; rintro r hs' ⟨g, rfl, rfl⟩; refine ⟨g, 9, N6 m, rfl, rfl, fun m' bs clk hp => ?_⟩; obtain ⟨N, n1, n2⟩ := a2p hp rfl; refine ⟨rfl, g, N, bs, clk, n1, ?_⟩; have e : m' = N6 N := n2.symm; rw [e, b3T, c2r]; rfl
theorem b0o {m N : SM} (h : List.Perm N m) (hn : (m.map (·.1)).Nodup) (k : Str) : I2 N k = I2 m k := by
  have e1 : L5 (N6 N) (.str k) = L5 (N6 m) (.str k) := b2u (P := prog) (kt := 9) (h.map _) (by
    show ((N6 m).map (·.1)).Nodup
    rw [b3T]; have : (m.map fun p => D.str p.1) = (m.map (·.1)).map .str := by simp [Function.comp_def]
    rw [this]; exact (List.pairwise_map).2 (hn.imp fun hab e => hab (by simpa using e))) (F4 k)
  rw [a3d, a3d] at e1; cases h1 : I2 N k <;> cases h2 : I2 m k <;> rw [h1, h2] at e1 <;> simp at e1 <;> simp [e1]
theorem b8D {m : SM} {k v v' : Str} (h : I2 m k = none) : Q5 (N6 (m ++ [(k, v)])) (.str k) (.str v') = N6 (m ++ [(k, v')]) := by
  have hne : ∀ p ∈ m, ¬ p.1 = k := by
    simp only [I2, Option.map_eq_none_iff, List.find?_eq_none] at h; intro p hp; simpa using h p hp
  unfold Q5; rw [if_pos (by simp [N6, K5])]; simp only [N6, List.map_append, List.map_map, List.map_cons, List.map_nil]; congr 1
  · refine List.map_congr_left fun p hp => ?_
    simp [K5, hne p hp]
  · simp [K5]
theorem a6v {m : SM} {k : Str} : I2 m k = none ↔ ∀ p ∈ m, p.1 ≠ k := by
  simp [I2, List.find?_eq_none]
theorem a9q (R : List Chg) : SS (B4 R) := by
  have h1 : (B4 R).Pairwise fun x y => ¬ y < x := a7G (a2I R)
  have h2 : (B4 R).Nodup := (List.mergeSort_perm _ _).nodup_iff.2 (List.Nodup.sublist (List.filter_sublist.map _) (a3I R)); exact (List.Pairwise.and h1 h2).imp fun {a b} h => (Classical.byContradiction fun hn => h.2 (a2O hn h.1))
theorem a1B (R : List Chg) : (B4 R).Nodup := (a9q R).nodup
structure d4H (R : List Chg) : Prop where
  ok : ∀ c ∈ R, H7 c = 0
  few : R.length ≤ 4096
structure b5j (own id : Str) : Prop where
  parse : (E0 own).1 ≠ []
  own : List.length own < 900000
  short : List.length id < 200
  ne : id ≠ []
def a2L (R : List Chg) (l : List Str) : SM := l.map fun id => (id, F0 R id)
theorem b7Q (R : List Chg) (l : List Str) (id : Str) : a2L R (l ++ [id]) = a2L R l ++ [(id, F0 R id)] := by simp [a2L]
theorem b7T {R : List Chg} {l : List Str} {id : Str} (h : id ∉ l) : I2 (a2L R l) id = none := by
  rw [a6v]; intro p hp; obtain ⟨x, hx, rfl⟩ := List.mem_map.1 hp; rintro rfl; exact h hx
def DiI (R : List Chg) (sd : D) (g g2 : Nat) (k : Nat) (τ : St) : Prop := τ 0 = .d sd ∧ τ 3 = .d (.raw (.map (some g))) ∧ τ 4 = .d (.raw (.map (some g2))) ∧ τ 12 = .own false 9 ((B4 R).map .str) ∧ τ 13 = .d (.int .i64 (B4 R).length) ∧ τ 14 = .d (.int .i64 k) ∧
  τ 1000000 = .hm (.map (some g)) 9 (N6 (M8 R (B4 R))) none ∧ τ 1000001 = .hm (.map (some g2)) 9 (N6 (a2L R ((B4 R).take k))) none
theorem b3R (R : List Chg) (d : D) (hd : StD R d) (hl : (R0 R).length < 100000) (hN : ∀ id ∈ B4 R, b5j (H4 R id) id) : G7 prog 42 [.d d] [] (fun r hs' => ∃ g, r = .d (.raw (.map (some g))) ∧ hs' = [.hm (.map (some g)) 9 (N6 (a1G R)) none]) := by
  obtain ⟨u1, R1, bs1, c1, u2, M, bs2, c2, rfl, hR1, hM⟩ := hd.open; have hll := a0S R; have hlv := a5n R _ hd hl; have how := b2K R _ hd hl; refine a1t (fun i => i == 5000009) (by kernel_rfl) func42 (by kernel_rfl) rfl rfl (nbl rfl) (by kernel_rfl) rfl ?_; simp -implicitDefEqProofs [A6]; refine M2 [] 1000000 how rfl rfl (by simp) ?_; rintro r hs' ⟨g, rfl, rfl⟩; simp -implicitDefEqProofs [A6, C9, B8]; refine b0l 9 1000001 (by simp [A6]) (fun g2 => ?_); simp -implicitDefEqProofs [A6]; refine A1 hlv ?_; simp -implicitDefEqProofs [A6]; obtain ⟨sd, hsd⟩ : ∃ sd, T8 u1 R1 bs1 c1 u2 M bs2 c2 = sd := ⟨_, rfl⟩; refine H3 (B4 R).length (DiI R sd g g2) ⟨by simp [A6, ← hsd], by simp [A6], by simp [A6], by simp [A6], by simp [A6], by simp [A6], by simp [A6], by simp [A6, a2L, N6]⟩ ?_; rintro k τ hk ⟨g0, g3, g4, g12, g13, g14, gA, gB⟩; by_cases hlt : k < (B4 R).length
  · have hlt' : (k : Int) < (B4 R).length := (by omega); obtain ⟨id, hid⟩ : ∃ id, (B4 R)[k] = id := ⟨_, rfl⟩; have hin : id ∈ B4 R := by rw [← hid]; exact gmm _
    obtain ⟨d, hg1, hab⟩ := hM.live hin; obtain ⟨u, V, bs, clk, hd1, hV⟩ := hab; have htk : (B4 R).take (k + 1) = (B4 R).take k ++ [id] := by rw [G9 hlt, hid]
    have hsn := b7Q R ((B4 R).take k) id; rw [← htk] at hsn; have hnew : I2 (a2L R ((B4 R).take k)) id = none := b7T fun hm => by
      have := a1B R; rw [← List.take_append_drop k (B4 R), List.nodup_append] at this; exact this.2.2 id hm id (by rw [List.drop_eq_getElem_cons hlt, hid]; simp) rfl
    have chg_eq : A8 (abF R id).nm = .agg [B5 (abF R id).nm.1, .int .i64 (abF R id).nm.2.1, .str (abF R id).nm.2.2.1, .str (H4 R id), .str (abF R id).nm.2.2.2.2.1, .str (abF R id).nm.2.2.2.2.2] := rfl; have hmg := a3d (M8 R (B4 R)) (H4 R id); have hsh : F0 R id = if S5 R id then H4 R id else a9r (H4 R id) id := rfl
    have hob : S5 R id = decide (I2 (M8 R (B4 R)) (H4 R id) = some id) := rfl; have hn := hN id hin; have hot := c1j (H4 R id) id hn.own hn.short hn.parse; have hlk : ∃ r w, L5 (N6 (M8 R (B4 R))) (.str (H4 R id)) = r ∧ Z9 false (.str []) r = .d (.str w) ∧ (decide (w = id) = S5 R id) := by
      rw [hmg, hob]; cases h : I2 (M8 R (B4 R)) (H4 R id) with
      | none => exact ⟨none, [], rfl, rfl, by simp [Ne.symm hn.ne]⟩
      | some v => exact ⟨some (.str v), v, rfl, rfl, by simp⟩
    obtain ⟨r, w, hr1, hr2, hr3⟩ := hlk; rw [← a6j] at hg1; rw [hd1] at hg1; generalize a9r (H4 R id) id = OT at *; rcases Classical.em (w = id) with hw | hw
    all_goals
      simp -implicitDefEqProofs [g0, g3, g4, g12, g13, g14, ← hsd, T8, hlt, hlt', hid]; refine Y9 a3y (F4 _) (a4E M) Tryz.zd_75 hg1 ?_; simp -implicitDefEqProofs [g0, g3, g4, g12, g13, g14, O7, chg_eq, A4]; refine a5D (m := N6 (a2L R ((B4 R).take k))) (E := none) 1000001 V9 (by simp [gB]) (F4 _) _ (List.Perm.refl _) ?_; rw [a6H hnew]; simp -implicitDefEqProofs [g0, g3, g4, g12, g13, g14]; refine a0M (m := N6 (M8 R (B4 R))) (E := none) 1000000 (by omega) V9 (by simp [gA]) (F4 _) Tryz.zd_9 hr1 ?_; rw [hr2]
    · have hb : S5 R id = true := by rw [← hr3]; simpa using hw
      rw [hb, if_pos rfl] at hsh; simp -implicitDefEqProofs [g0, g3, g4, g12, g13, g14, hw]; (repeat refine ai (by omega) ?_); exact E5 hlt ⟨by simp [g0, ← hsd, T8], by simp [g3], by simp [g4], by simp [g12], by simp [g13], by simp, by simp [gA], by simp [hsn, hsh]⟩
    · have hb : S5 R id = false := by rw [← hr3]; simpa using hw
      rw [hb] at hsh; simp only [Bool.false_eq_true, if_false] at hsh; simp -implicitDefEqProofs [g0, g3, g4, g12, g13, g14, hw]; refine A1 hot ?_; simp -implicitDefEqProofs [g0, g3, g4, g12, g13, g14, hw]; refine a5D (m := N6 (a2L R ((B4 R).take k) ++ [(id, H4 R id)])) (E := none) 1000001 V9 (by simp) (F4 _) _ (List.Perm.refl _) ?_; rw [b8D hnew]; simp -implicitDefEqProofs [g0, g3, g4, g12, g13, g14]; (repeat refine ai (by omega) ?_); exact E5 hlt ⟨by simp [g0, ← hsd, T8], by simp [g3], by simp [g4], by simp [g12], by simp [g13], by simp, by simp [gA], by simp [hsn, hsh]⟩
  · have hlt' : ¬ (k : Int) < (B4 R).length := (by omega); rw [ttl (by omega)] at gB; simp -implicitDefEqProofs [g0, g3, g4, g12, g13, g14, hlt, hlt']; exact ⟨_, [1000001], by simp, by simp [gB, isH], by simp [a1A], g2, rfl, by simp [gB, a1G, a2L]⟩
structure a0O (R : List Chg) : Prop where
  few : (R0 R).length < 5000
  name : ∀ id ∈ B4 R, b5j (H4 R id) id
  vals : ∀ id, (abF R id).vs.length < 5000 ∧ ∀ p ∈ (abF R id).vs, List.length p.1.1 < 900000 ∧ List.length p.1.2 < 900000
theorem a0O.lt {R : List Chg} (h : a0O R) : (R0 R).length < 100000 := by have := h.few; omega
theorem b8s (R : List Chg) (d : D) (hd : StD R d) (hG : a0O R) : G7 prog 63 [.d d] [] (fun r hs' => hs' = [] ∧ ∃ g N bs clk, List.Perm N (M8 R (B4 R)) ∧ r = .d (smD g N bs clk)) := c5L (b2K R d hd hG.lt)
theorem a1K (R : List Chg) (d : D) (hd : StD R d) (hG : a0O R) : G7 prog 42 [.d d] [] (fun r hs' => hs' = [] ∧ ∃ g N bs clk, List.Perm N (a1G R) ∧ r = .d (smD g N bs clk)) := c5L (b3R R d hd hG.lt hG.name)
theorem a4K (R : List Chg) : (a1G R).map (·.1) = B4 R := by simp [a1G, Function.comp_def]
theorem a2r {R : List Chg} {N : SM} (hN : List.Perm N (a1G R)) (id : Str) : I2 N id = if id ∈ B4 R then some (F0 R id) else none := by
  rw [b0o hN (by rw [a4K]; exact a1B R)]; by_cases h : id ∈ B4 R
  · rw [if_pos h]; have hn := a1B R; unfold a1G I2; generalize B4 R = l at *
    induction l with
    | nil => simp at h
    | cons x l ih =>
      rw [List.nodup_cons] at hn; by_cases hx : x = id
      · subst hx; simp
      · rcases List.mem_cons.1 h with e | h
        · exact absurd e.symm hx
        · have := ih h hn.2; simp only [List.map_cons, List.find?_cons, decide_eq_false hx] at this ⊢; exact this
  · rw [if_neg h, a6v]; intro p hp e; exact h (by rw [← a4K, ← e]; exact List.mem_map.2 ⟨p, hp, rfl⟩)
theorem P8 (N : SM) : ∀ k ∈ N.map (fun p => D.str p.1), D5 prog 9 k = true := by
  intro k hk; obtain ⟨x, _, rfl⟩ := List.mem_map.1 hk; exact F4 _
theorem a1R (N : SM) (k : Str) : L5 ((N.map fun p => D.str p.1).zip (N.map fun p => D.str p.2)) (.str k) = (I2 N k).map .str := by rw [c2E, a3d]
def a0N (R : List Chg) (n : Str) : Str × Bool := match (B4 R).find? fun id => decide (F0 R id = n) with
  | some id => (id, true)
  | none => ([], false)
def noF (R : List Chg) (n : Str) (k : Nat) : Prop := a0N R n = match ((B4 R).drop k).find? fun id => decide (F0 R id = n) with
  | some id => (id, true)
  | none => ([], false)
theorem c2B (R : List Chg) (n : Str) : noF R n 0 := by simp [noF, a0N]
theorem c4z {R : List Chg} {n : Str} {k : Nat} (h : noF R n k) (hk : k < (B4 R).length) (he : F0 R (B4 R)[k] = n) : a0N R n = ((B4 R)[k], true) := by
  rw [noF, List.drop_eq_getElem_cons hk, List.find?_cons_of_pos (by simpa using he)] at h; exact h
theorem c1F {R : List Chg} {n : Str} {k : Nat} (h : noF R n k) (hk : k < (B4 R).length) (he : ¬ F0 R (B4 R)[k] = n) : noF R n (k + 1) := by
  rw [noF, List.drop_eq_getElem_cons hk, List.find?_cons_of_neg (by simpa using he)] at h; exact h
theorem c4F {R : List Chg} {n : Str} {k : Nat} (h : noF R n k) (hk : (B4 R).length ≤ k) : a0N R n = ([], false) := by
  rw [noF, List.drop_eq_nil_of_le hk] at h; exact h
def FnI (R : List Chg) (n : Str) (g : Nat) (N : SM) (bs : List Nat) (clk : Nat) (k : Nat) (τ : St) : Prop := τ 1 = .d (.str n) ∧ τ 6 = .d (smD g N bs clk) ∧ τ 15 = .own false 9 ((B4 R).map .str) ∧ τ 16 = .d (.int .i64 (B4 R).length) ∧ τ 17 = .d (.int .i64 k) ∧ noF R n k
theorem b6g (R : List Chg) (d : D) (n : Str) (hd : StD R d) (hG : a0O R) : Ctr prog 15 [.d d, .d (.str n)] (.tup [.d (.str (a0N R n).1), .d (.bool (a0N R n).2)]) := by
  have hdi := a1K R d hd hG; have hlv := a5n R d hd hG.lt; obtain ⟨u1, R1, bs1, c1, u2, M, bs2, c2, rfl, hR1, hM⟩ := hd.open; have hll := a0S R; have hlt := hG.lt; have hre := a2H u1 R1 bs1 c1 u2 M bs2 c2; obtain ⟨sd, hsd⟩ : ∃ sd, T8 u1 R1 bs1 c1 u2 M bs2 c2 = sd := ⟨_, rfl⟩; rw [hsd] at hdi hlv hre ⊢; refine N1 (rv := .tmp 4) (rs := [.tmp 5]) (r := .d (.str (a0N R n).1)) (ys := [.d (.bool (a0N R n).2)]) (fun i => i == 5000013) (by kernel_rfl) func15 (by kernel_rfl) rfl rfl (by simp) (nbl rfl) (by kernel_rfl) rfl rfl ?_; simp -implicitDefEqProofs; refine A1 hre ?_; simp -implicitDefEqProofs; refine b1x hdi ?_; rintro r hs' ⟨rfl, g, N, bs, clk, hN, rfl⟩; refine ⟨rfl, ?_⟩; simp -implicitDefEqProofs; refine A1 hlv ?_; simp -implicitDefEqProofs; refine H3 (B4 R).length (FnI R n g N bs clk) ⟨by simp, by simp, by simp, by simp, by simp, c2B R n⟩ ?_; rintro k τ hk ⟨g1, g6, g15, g16, g17, gN⟩; rcases Nat.lt_or_ge k (B4 R).length with hlt | hlt
  · have hlt' : (k : Int) < (B4 R).length := (by omega); have hin : (B4 R)[k] ∈ B4 R := gmm _; have hge := a1R N (B4 R)[k]; rw [a2r hN, if_pos hin] at hge; rcases Classical.em (F0 R (B4 R)[k] = n) with he | he
    · rw [c4z gN hlt he]; simp -implicitDefEqProofs [g1, g6, g15, g16, g17, hlt, hlt', smD]; refine Y9 V9 (F4 _) (P8 N) Tryz.zd_9 hge ?_; simp -implicitDefEqProofs [g1, g6, g15, g16, g17, hlt, hlt', smD, he]
    · have hnx := c1F gN hlt he; simp -implicitDefEqProofs [g1, g6, g15, g16, g17, hlt, hlt', smD]; refine Y9 V9 (F4 _) (P8 N) Tryz.zd_9 hge ?_; simp -implicitDefEqProofs [g1, g6, g15, g16, g17, hlt, hlt', smD, he]; exact ⟨by omega, E5 hlt ⟨by simp [g1], by simp [g6, smD], by simp [g15], by simp [g16], by simp, hnx⟩⟩
  · rw [c4F gN hlt]; have hlt' : ¬ (k : Int) < (B4 R).length := (by omega); have hlt'' : ¬ k < (B4 R).length := (by omega); simp -implicitDefEqProofs [g1, g6, g15, g16, g17, hlt', hlt'']
def b4W (p : VK × Chg) : Option Att := if opC p.2 = 4 then some (p.1.1, [p.1.2]) else none
def X7 (vs : List (VK × Chg)) : List Att := vs.filterMap b4W
def V6 (R : List Chg) (id : Str) : List Att := F5 (X7 (abF R id).vs)
def a1S (s : Str) (a : List Att) : D := .agg [.str s, G6 a]
theorem b2S {V W : List (VK × Chg)} (h : List.Perm V W) : F5 (X7 V) = F5 (X7 W) := by
  refine b0W fun n v => ?_
  have : ∀ a, a ∈ X7 V ↔ a ∈ X7 W := fun a => (h.filterMap b4W).mem_iff
  simp only [a9x, this]
theorem b5k {V : List (VK × Chg)} (h : V.length < 5000) (hs : ∀ p ∈ V, List.length p.1.1 < 900000 ∧ List.length p.1.2 < 900000) : a4r (X7 V) := by
  have hlen : (X7 V).length ≤ V.length := List.length_filterMap_le _ _; have hm : ∀ a ∈ X7 V, List.length a.1 < 900000 ∧ a.2.length = 1 := fun a ha => by
    obtain ⟨p, hp, e⟩ := List.mem_filterMap.1 ha; unfold b4W at e; split at e
    · simp only [Option.some.injEq] at e; subst e; exact ⟨(hs p hp).1, rfl⟩
    · cases e
  refine ⟨⟨by omega, fun a ha => ⟨by have := (hm a ha).1; omega, by have := (hm a ha).2; omega⟩⟩, ?_⟩; have : ∀ l : List Att, (∀ a ∈ l, a.2.length = 1) → H1 l = l.length := by
    intro l
    induction l with
    | nil => intro _; rfl
    | cons a l ih =>
      intro h; have := ih fun b hb => h b (by simp [hb])
      simp only [H1, List.map_cons, List.sum_cons, List.length_cons] at this ⊢; rw [this, h a (by simp)]; omega
  rw [this _ fun a ha => (hm a ha).2]; omega
theorem b9R (vs : List (VK × Chg)) (k : VK) (c : Chg) : (a2m vs k c).map (·.1) = if vs.any (fun p => decide (p.1 = k)) then vs.map (·.1) else vs.map (·.1) ++ [k] := by
  unfold a2m; split
  · rw [List.map_map]; refine List.map_congr_left fun p _ => ?_
    simp only [Function.comp_apply]; split <;> rfl
  · simp
theorem a5E {vs : List (VK × Chg)} (hn : (vs.map (·.1)).Nodup) (k : VK) (c : Chg) : ((a2m vs k c).map (·.1)).Nodup := by
  rw [b9R]; split
  · exact hn
  · rename_i h
    refine List.nodup_append.2 ⟨hn, by simp, fun x hx z hz => ?_⟩; simp only [List.mem_singleton] at hz; subst hz; rintro rfl; obtain ⟨p, hp, e⟩ := List.mem_map.1 hx; exact h (List.any_eq_true.2 ⟨p, hp, by simpa using e⟩)
theorem a4C (R : List Chg) (id : Str) : ((abF R id).vs.map (·.1)).Nodup := by
  refine T5 (P := fun R => ((abF R id).vs.map (·.1)).Nodup) (by simp [abF, Q3]) (fun R c ih => ?_) R; rw [Z3]; split
  · unfold N4; split
    · exact ih
    · split
      · exact ih
      · split
        · exact ih
        · exact a5E ih _ _
  · exact ih
theorem c3v {a b : VK} (h : vkD a = vkD b) : a = b := by
  obtain ⟨a1, a2⟩ := a; obtain ⟨b1, b2⟩ := b; simp only [vkD, D.agg.injEq, List.cons.injEq, D.str.injEq, and_true] at h; rw [h.1, h.2]
structure a4t (V W : List (VK × Chg)) (seen : List D) : Prop where
  eq : seen = W.map fun p => vkD p.1
  nd : W.Nodup
  sub : ∀ p ∈ W, p ∈ V
theorem c5P {V : List (VK × Chg)} (hn : (V.map (·.1)).Nodup) {p q : VK × Chg} (hp : p ∈ V) (hq : q ∈ V) (e : p.1 = q.1) : p = q := by
  obtain ⟨i, hi, e1⟩ := List.getElem_of_mem hp; obtain ⟨j, hj, e2⟩ := List.getElem_of_mem hq; have := a7S hn (i := i) (j := j) (by simpa using hi) (by simpa using hj) (by simp [e1, e2, e]); subst this; rw [← e1, ← e2]
theorem a4t.next {V W : List (VK × Chg)} {seen : List D} (h : a4t V W seen) {p : VK × Chg} (hp : p ∈ V) (hn : vkD p.1 ∉ seen) : a4t V (W ++ [p]) (seen ++ [vkD p.1]) := by
  refine ⟨by rw [h.eq]; simp, ?_, fun q hq => ?_⟩
  · refine List.nodup_append.2 ⟨h.nd, by simp, fun a ha b hb => ?_⟩; simp only [List.mem_singleton] at hb; subst hb; rintro rfl; exact hn (by rw [h.eq]; exact List.mem_map.2 ⟨a, ha, rfl⟩)
  · rcases List.mem_append.1 hq with hq | hq
    · exact h.sub q hq
    · rw [List.mem_singleton.1 hq]; exact hp
theorem b6L {V : List (VK × Chg)} (hn : (V.map (·.1)).Nodup) : V.Nodup := (List.pairwise_map.1 hn).imp fun h e => h (by rw [e])
theorem a4t.le {V W : List (VK × Chg)} {seen : List D} (h : a4t V W seen) (hn : (V.map (·.1)).Nodup) : W.length ≤ V.length := by
  have hp : W.Perm (V.filter fun p => decide (p ∈ W)) := (List.perm_ext_iff_of_nodup h.nd ((b6L hn).filter _)).2 fun p => by
    simp only [List.mem_filter, decide_eq_true_eq]; exact ⟨fun hs => ⟨h.sub p hs, hs⟩, fun hs => hs.2⟩
  rw [hp.length_eq]; exact List.length_filter_le _ _
theorem a4t.all {V W : List (VK × Chg)} {seen : List D} (h : a4t V W seen) (hn : (V.map (·.1)).Nodup) (ha : ∀ p ∈ V, vkD p.1 ∈ seen) : List.Perm W V := by
  have hnv : V.Nodup := b6L hn; refine (List.perm_ext_iff_of_nodup h.nd hnv).2 fun p => ⟨h.sub p, fun hp => ?_⟩
  have := ha p hp; rw [h.eq] at this; obtain ⟨q, hq, e⟩ := List.mem_map.1 this; rw [← c5P hn (h.sub q hq) hp (c3v e)]; exact hq
theorem c3f (V : List (VK × Chg)) : (V.map fun p => vkD p.1).zip (V.map fun p => A8 p.2) = V.map fun p => (vkD p.1, A8 p.2) := by
  induction V with
  | nil => rfl
  | cons x V ih => simp only [List.map_cons, List.zip_cons_cons, ih]
theorem c1A (a : VK) : G1 (vkD a) (vkD a) = true := by simp [vkD, G1, U5, X5]
theorem b0P (V : List (VK × Chg)) : ∀ k ∈ V.map (fun p => vkD p.1), G1 k k = true := by
  intro k hk; obtain ⟨x, _, rfl⟩ := List.mem_map.1 hk; exact c1A _
theorem c0g (c : Chg) : B1 (A8 c) = 8 := rfl
theorem b8Z (W : List (VK × Chg)) (p : VK × Chg) : X7 (W ++ [p]) = X7 W ++ (if opC p.2 = 4 then [(p.1.1, [p.1.2])] else []) := by
  simp only [X7, List.filterMap_append, List.filterMap_cons, List.filterMap_nil, b4W]; split <;> simp_all
def EnI (s : Str) (u : Value) (V : List (VK × Chg)) (bs : List Nat) (clk : Nat) (k : Nat) (τ : St) : Prop := ∃ W seen, a4t V W seen ∧ W.length = k ∧ τ 2 = .d (.str s) ∧ τ 6 = .box (.agg [.str [], .sl []]) ∧ τ 7 = .own false 72 ((X7 W).map att) ∧
  τ 18 = .d (.map u (V.map fun p => vkD p.1) (V.map fun p => A8 p.2) bs clk) ∧ τ 19 = .mit u ((V.map fun p => vkD p.1).zip bs, clk) seen
theorem b4K (R : List Chg) (d : D) (id s : Str) (hd : StD R d) (hG : a0O R) (hin : id ∈ B4 R) : Ctr prog 50 [.d d, .d (.str id), .d (.str s)] (.d (a1S s (V6 R id))) := by
  obtain ⟨u1, R1, bs1, c1, u2, M, bs2, c2, rfl, hR1, hM⟩ := hd.open; obtain ⟨d, hg1, hab⟩ := hM.live hin; obtain ⟨u, V, bs, clk, hd1, hV⟩ := hab; have hvl : V.length < 5000 := by rw [hV.length_eq]; exact (hG.vals id).1
  have hvs : ∀ p ∈ V, List.length p.1.1 < 900000 ∧ List.length p.1.2 < 900000 := fun p hp => (hG.vals id).2 p (hV.mem_iff.1 hp)
  rw [← a6j] at hg1; rw [hd1] at hg1; have hat : V6 R id = F5 (X7 V) := (b2S hV).symm; rw [hat]; refine N1 (rv := .cell 6 48) (rs := []) (r := .d (a1S s (F5 (X7 V)))) (ys := []) (fun i => false) (by kernel_rfl) func50 (by kernel_rfl) rfl rfl (by simp) (nbl rfl) (by kernel_rfl) rfl rfl ?_; simp -implicitDefEqProofs [T8]; refine Y9 a3y (F4 _) (a4E M) Tryz.zd_75 hg1 ?_; simp -implicitDefEqProofs [O7, c0g]; have hVn : (V.map (·.1)).Nodup := (hV.map _).nodup_iff.2 (a4C R id); refine H3 V.length (EnI s u V bs clk) ⟨[], [], ⟨rfl, List.nodup_nil, by simp⟩, rfl, by simp, by simp, by simp [X7], by simp, by simp⟩ ?_; rintro k τ hk ⟨W, seen, hS, hsl, g2, g6, g7, g18, g19⟩; have hle := hS.le hVn; simp -implicitDefEqProofs [g2, g6, g7, g18, g19]; refine c5x (vs := V.map fun p => A8 p.2) 18 (by simp [g18]) (b0P V) (fun x v hm hn => ?_) (fun hall => ?_)
  · have hm2 := hm; rw [c3f] at hm2; obtain ⟨p, hp, e⟩ := List.mem_map.1 hm2; simp only [Prod.mk.injEq] at e; obtain ⟨rfl, rfl⟩ := e; have hS2 := hS.next hp hn; have hlt : k < V.length := by have := hS2.le hVn; simp at this; omega
    have hsn := b8Z W p; have chg_eq : A8 p.2 = .agg [B5 p.2.1, .int .i64 (opC p.2), .str p.2.2.2.1, .str p.2.2.2.2.1, .str p.2.2.2.2.2.1, .str p.2.2.2.2.2.2] := rfl; have vk_eq : vkD p.1 = .agg [.str p.1.1, .str p.1.2] := rfl; have hpl : (X7 W).length ≤ W.length := List.length_filterMap_le _ _; generalize hT2 : X7 (W ++ [p]) = T2 at *; generalize hT : X7 W = T at *; rcases Classical.em (opC p.2 = 4) with h4 | h4
    all_goals
      simp only [h4, if_true, if_false] at hsn; simp -implicitDefEqProofs [g2, g6, g7, g18, g19]; refine c6e (vs := V.map fun p => A8 p.2) 18 (by simp [g18]) (b0P V) hm ?_; simp -implicitDefEqProofs [g2, g6, g7, g18, g19, chg_eq, vk_eq, A4, h4]
    · refine ⟨by omega, by omega, E5 hlt ⟨W ++ [p], seen ++ [vkD p.1], hS2, by simp [hsl], by simp [g2], by simp [g6], by simp [hT2, hsn, att, B9], by simp [g18], by simp [vk_eq]⟩⟩
    · exact E5 hlt ⟨W ++ [p], seen ++ [vkD p.1], hS2, by simp [hsl], by simp [g2], by simp [g6], by simp [g7, hT2, hsn], by simp [g18], by simp [vk_eq]⟩
  · have hp : List.Perm W V := hS.all hVn fun p hp => hall (vkD p.1, A8 p.2) (by rw [c3f]; exact List.mem_map.2 ⟨p, hp, rfl⟩)
    have hsort := (c0i (X7 W) (b5k (by omega) fun p hp => hvs p (hS.sub p hp))); rw [b2S hp] at hsort; simp only [G6] at hsort; generalize F5 (X7 V) = A at *; generalize X7 W = T at *; simp -implicitDefEqProofs [g2, g6, g7, g18, g19]; refine A1 hsort ?_; simp -implicitDefEqProofs [g2, g6, g7, g18, g19, a1S, G6]
def K2 (R : List Chg) (id : Str) : (Str × List Att) × Bool := if id ∈ B4 R then ((F0 R id, V6 R id), true) else (([], []), false)
theorem a9o (R : List Chg) (d : D) (id : Str) (hd : StD R d) (hG : a0O R) : Ctr prog 21 [.d d, .d (.str id)] (.tup [.d (a1S (K2 R id).1.1 (K2 R id).1.2), .d (.bool (K2 R id).2)]) := by
  have hdi := a1K R d hd hG; have hen : ∀ s, id ∈ B4 R → _ := fun s h => b4K R d id s hd hG h
  obtain ⟨u1, R1, bs1, c1, u2, M, bs2, c2, rfl, hR1, hM⟩ := hd.open; have hre := a2H u1 R1 bs1 c1 u2 M bs2 c2; obtain ⟨sd, hsd⟩ : ∃ sd, T8 u1 R1 bs1 c1 u2 M bs2 c2 = sd := ⟨_, rfl⟩; rw [hsd] at hdi hre hen ⊢; rcases Classical.em (id ∈ B4 R) with hin | hin
  · have he : K2 R id = ((F0 R id, V6 R id), true) := (by simp [K2, hin]); rw [he]; have hen := hen (F0 R id) hin; refine N1 (rv := .cell 4 48) (rs := [.tmp 5]) (r := .d (a1S (F0 R id) (V6 R id))) (ys := [.d (.bool true)]) (fun i => i == 5000014) (by kernel_rfl) func21 (by kernel_rfl) rfl rfl (by simp) (nbl rfl) (by kernel_rfl) rfl rfl ?_; simp -implicitDefEqProofs; refine A1 hre ?_; simp -implicitDefEqProofs; refine b1x hdi ?_; rintro r hs' ⟨rfl, g, N, bs, clk, hN, rfl⟩; have hge := a1R N id; rw [a2r hN, if_pos hin] at hge; refine ⟨rfl, ?_⟩; simp -implicitDefEqProofs [smD]; refine Y9 V9 (F4 _) (P8 N) Tryz.zd_9 hge ?_; simp -implicitDefEqProofs; refine A1 hen ?_; simp -implicitDefEqProofs [a1S, G6]
  · have he : K2 R id = (([], []), false) := (by simp [K2, hin]); rw [he]; refine N1 (rv := .cell 4 48) (rs := [.tmp 5]) (r := .d (a1S [] [])) (ys := [.d (.bool false)]) (fun i => i == 5000014) (by kernel_rfl) func21 (by kernel_rfl) rfl rfl (by simp) (nbl rfl) (by kernel_rfl) rfl rfl ?_; simp -implicitDefEqProofs; refine A1 hre ?_; simp -implicitDefEqProofs; refine b1x hdi ?_; rintro r hs' ⟨rfl, g, N, bs, clk, hN, rfl⟩; have hge := a1R N id; rw [a2r hN, if_neg hin] at hge; refine ⟨rfl, ?_⟩; simp -implicitDefEqProofs [smD]; refine Y9 V9 (F4 _) (P8 N) Tryz.zd_9 hge ?_; simp -implicitDefEqProofs [a1S, G6]
theorem b7K (g : FuncId) (cs : List D) (hcs : (cs.all fun c => !c.isAgg) = true) (p : Str → Bool) (l : List Str) (hl : l.length < 1000000) (hp : ∀ a ∈ l, Ctr prog g ([.d (.str a)] ++ cs.map .d) (.d (.bool (p a)))) :
    Ctr prog 64 [.own true 9 (l.map .str), .d (.clo g cs)] (.own true 9 ((l.filter fun x => !p x).map .str)) := by
  refine fv (fun i => i == 2000010) func64 (by kernel_rfl) rfl rfl rfl rfl rfl ?_; simp -implicitDefEqProofs; refine c3g (b9Y g cs hcs p l hl hp) rfl ?_; by_cases hn : a2g p 0 l = -1
  · simp -implicitDefEqProofs [hn, b3M p l 0 hn]
  · obtain ⟨i, h1, h2, h3, h4⟩ := b4Y p l 0 hn; simp only [Nat.zero_add] at h1; have e1 : ¬ ((i : Int) = -1) := (by omega); simp -implicitDefEqProofs [h1, e1]; refine ⟨by omega, ?_⟩; refine b0M (fun n τ => ∃ (j q : Nat) (m : List Str), n = l.length - j ∧ j ≤ l.length ∧ τ 0 = .own true 9 (m.map .str) ∧ τ 1 = .d (.clo g cs) ∧ τ 5 = .d (.int .i64 q) ∧ τ 6 = .d (.int .i64 j) ∧ m.length = l.length ∧ q < j ∧ m.take q = (l.take j).filter (fun x => !p x) ∧ m.drop j = l.drop j)
      (l.length - (i + 1)) ⟨i + 1, i, l, rfl, by omega, by simp, by simp, by simp, by simp, rfl, by omega, h4.symm, rfl⟩ ?_
    rintro n τ ⟨j, q, m, rfl, hj, g0, g1, g5, g6, hm, hq, ht, hd⟩; by_cases hlt : j < l.length
    · have hmj : m[j]'(by omega) = l[j] := by
        have := congrArg (fun x : List Str => x[0]?) hd; simpa [hlt, hm] using this
      have hf := hp _ (gmm hlt); simp only [List.cons_append, List.nil_append] at hf; have hlt' : (j : Int) < l.length := (by omega); simp -implicitDefEqProofs [g0, g1, g5, g6, hm, hlt', hlt, hmj]; refine ⟨by simpa using hcs, A1 hf ?_⟩; by_cases he : p l[j] = true
      · simp -implicitDefEqProofs [g0, g1, g5, g6, hm, hlt', hlt, hmj, he]; refine ⟨by omega, _, ?_, j + 1, rfl, by omega, q, m, rfl, rfl, by omega, hm, by omega, ?_, ?_⟩
        · omega
        · rw [G9 hlt, List.filter_append, ht]; simp [he]
        · rw [← List.drop_drop, hd, List.drop_drop]
      · have hq2 : q < m.length := (by omega); have hqq : m[q]? = some m[q] := List.getElem?_eq_getElem hq2; simp -implicitDefEqProofs [g0, g1, g5, g6, hm, hlt', hlt, hmj, he, hqq]; refine ⟨by omega, by omega, by omega, _, ?_, j + 1, rfl, by omega, q + 1, m.set q l[j], ?_, by simp, by simp, by simpa using hm, by omega, ?_, ?_⟩
        · omega
        · rw [List.map_set]
        · rw [List.take_set, G9 hq2, List.set_append_right _ _ (by simp; omega)]; simp only [List.length_take, Nat.min_eq_left (Nat.le_of_lt hq2), Nat.sub_self, List.set_cons_zero]; rw [G9 hlt, List.filter_append, ht]; simp [he]
        · rw [List.drop_set_of_lt (by omega), ← List.drop_drop, hd, List.drop_drop]
    · simp -implicitDefEqProofs [g0, g1, g5, g6, hm, hlt]; have hjl : j = l.length := (by omega); subst hjl; refine ⟨by omega, by omega, ?_⟩; rw [List.take_append_of_le_length (by simp; omega), List.take_take, Nat.min_self, ← List.map_take, ht, List.take_length]
def a2W (R : List Chg) : List Str := (B4 R).filter fun id => !S5 R id
theorem c3I {R : List Chg} {N : SM} (hN : List.Perm N (M8 R (B4 R))) (k : Str) : I2 N k = I2 (M8 R (B4 R)) k := by
  refine b0o hN ?_ k; have : ∀ l : List Str, ((M8 R l).map (·.1)).Nodup := fun l => T5 (P := fun l => ((M8 R l).map (·.1)).Nodup) (by simp [M8]) (fun l id ih => by
    rw [a8g]; cases h : I2 (M8 R l) (H4 R id) with
    | some v => simpa using ih
    | none =>
      simp only [Option.isSome_none, Bool.false_eq_true, if_false, List.map_append, List.map_cons, List.map_nil]; refine List.nodup_append.2 ⟨ih, by simp, fun a ha b hb => ?_⟩; simp only [List.mem_singleton] at hb; subst hb; rintro rfl; obtain ⟨p, hp, e⟩ := List.mem_map.1 ha; exact a6v.1 h p hp e) l
  exact this _
theorem c1p (R : List Chg) (sd : D) (hd : StD R sd) (id : Str) (hin : id ∈ B4 R) (hne : id ≠ []) (g : Nat) (N : SM) (bs : List Nat) (clk : Nat) (hN : List.Perm N (M8 R (B4 R))) :
    Ctr prog 65 ([.d (.str id)] ++ [D.ref (smD g N bs clk), D.ref sd].map .d) (.d (.bool (S5 R id))) := by
  obtain ⟨u1, R1, bs1, c1, u2, M, bs2, c2, rfl, hR1, hM⟩ := hd.open; obtain ⟨d, hg1, hab⟩ := hM.live hin; obtain ⟨u, V, bs', clk', hd1, hV⟩ := hab; have chg_eq : A8 (abF R id).nm = .agg [B5 (abF R id).nm.1, .int .i64 (abF R id).nm.2.1, .str (abF R id).nm.2.2.1, .str (H4 R id), .str (abF R id).nm.2.2.2.2.1, .str (abF R id).nm.2.2.2.2.2] := rfl; rw [← a6j] at hg1; rw [hd1] at hg1; have hmg := a1R N (H4 R id); rw [c3I hN] at hmg; have hob : S5 R id = decide (I2 (M8 R (B4 R)) (H4 R id) = some id) := rfl; have hlk : ∃ r w, L5 ((N.map fun p => D.str p.1).zip (N.map fun p => D.str p.2)) (.str (H4 R id)) = r ∧ Z9 false (.str []) r = .d (.str w) ∧ (decide (w = id) = S5 R id) := by
    rw [hmg, hob]; cases h : I2 (M8 R (B4 R)) (H4 R id) with
    | none => exact ⟨none, [], rfl, rfl, by simp [Ne.symm hne]⟩
    | some v => exact ⟨some (.str v), v, rfl, rfl, by simp⟩
  obtain ⟨r, w, hr1, hr2, hr3⟩ := hlk; rw [← hr3]; refine fv (fun _ => false) func65 (by kernel_rfl) rfl rfl rfl rfl rfl ?_; simp -implicitDefEqProofs [smD, T8]; refine Y9 a3y (F4 _) (a4E M) Tryz.zd_75 hg1 ?_; simp -implicitDefEqProofs [O7, chg_eq, A4]; refine Y9 V9 (F4 _) (P8 N) Tryz.zd_9 hr1 ?_; rw [hr2]; simp -implicitDefEqProofs
theorem a7a (R : List Chg) (d : D) (hd : StD R d) (hG : a0O R) : Ctr prog 28 [.d d] (.own true 9 ((a2W R).map .str)) := by
  have how := b8s R d hd hG; have hlv := a5n R d hd hG.lt; have hq : ∀ id ∈ B4 R, ∀ g N bs clk, List.Perm N (M8 R (B4 R)) → _ := fun id hin g N bs clk hN => c1p R d hd id hin (hG.name id hin).ne g N bs clk hN
  have hll := a0S R; have hlt := hG.lt; obtain ⟨u1, R1, bs1, c1, u2, M, bs2, c2, rfl, hR1, hM⟩ := hd.open; have hre := a2H u1 R1 bs1 c1 u2 M bs2 c2; obtain ⟨sd, hsd⟩ : ∃ sd, T8 u1 R1 bs1 c1 u2 M bs2 c2 = .ref sd := ⟨_, rfl⟩; rw [hsd] at how hlv hre hq ⊢; refine fv (fun i => i == 5000008 || i == 10 || i == 12 || i == 2) func28 (by kernel_rfl) rfl rfl rfl rfl rfl ?_; simp -implicitDefEqProofs; refine A1 hre ?_; simp -implicitDefEqProofs; refine b1x how ?_; rintro r hs' ⟨rfl, g, N, bs, clk, hN, rfl⟩; refine ⟨rfl, ?_⟩; have hdl := b7K 65 [D.ref (smD g N bs clk), D.ref (.ref sd)] rfl (S5 R) (B4 R) (by omega) (fun id hid => hq id hid g N bs clk hN); simp -implicitDefEqProofs [smD]; refine A1 hlv ?_; simp -implicitDefEqProofs [smD]; simp only [smD] at hdl; refine A1 hdl ?_; simp -implicitDefEqProofs [a2W]
theorem a5Z {s : Str} : K3 s = true ↔ ∃ l, L4 s = some l := by
  unfold K3; rw [Option.isSome_iff_exists]
theorem b3Y : L4 [] = some [] := by decide
theorem c3w {s : Str} {l : List F7} (h : L4 s = some l) : s = [] ↔ l = [] := by
  constructor
  · rintro rfl; rw [b3Y] at h; simpa using h.symm
  · rintro rfl; exact b2g h b3Y
theorem c2w {p : F7} (h : NP p) : (U4 p).length ≤ 577 := by
  obtain ⟨h1, h2⟩ := a6x h; simp only [S3, R8, Bool.and_eq_true, decide_eq_true_eq] at h1 h2; have e1 : (Q8 (W1 p.2)).length ≤ 2 * (W1 p.2).length := by
    unfold Q8; generalize W1 p.2 = s
    induction s with
    | nil => simp
    | cons c s ih =>
      rw [List.flatMap_cons, List.length_append, List.length_cons]; have : (if V0 c = true then [92, c] else [c]).length ≤ 2 := by split <;> simp
      omega
  have e2 : (W1 p.2).length ≤ p.2.length := by
    have hq : ∀ (s : Str) (c : UInt8), (sqz c s).length ≤ s.length := by
      intro s
      induction s with
      | nil => intro c; simp [sqz]
      | cons x s ih =>
        intro c; simp only [sqz]; have := ih x; split <;> simp <;> omega
    unfold W1; have h3 := hq (C8 (I5 p.2)) 0; have h4 : (C8 (I5 p.2)).length = (I5 p.2).length := (by simp [C8]); have h5 : (I5 p.2).length ≤ p.2.length := a1U p.2; omega
  have e3 : (C8 p.1).length = p.1.length := (by simp [C8]); simp only [U4, List.length_append, List.length_cons]; omega
theorem c0H {s : Str} (h : K3 s = true) : s.length ≤ 5000 := by
  obtain ⟨l, hl⟩ := a5Z.1 h; obtain ⟨h1, h8, hs, _⟩ := a1V hl; have key : ∀ l : List F7, (∀ p ∈ l, NP p) → (D6 44 (l.map U4)).length ≤ l.length * 578 := by
    intro l
    induction l with
    | nil => intro _; simp [D6]
    | cons p l ih =>
      intro h; have hp := c2w (h p (by simp)); have ih := ih (fun q hq => h q (by simp [hq])); cases l with
      | nil => simp [D6]; omega
      | cons q l =>
        simp only [List.map_cons, D6, List.length_append, List.length_cons] at ih ⊢; omega
  have := key l h1; rw [← hs] at this; omega
theorem b5N {s : Str} {p : F7} {l : List F7} (h : L4 s = some (p :: l)) : ∃ t, U7 s = (t, true) ∧ L4 t = some l := by
  have h8 := (a1V h).2.1; have ha := c0c h h (n := l) (fun q hq => .inl (by simp [hq])) (by simp at h8; omega); refine ⟨_, ?_, ha.2⟩; unfold U7; rw [h]; simp only [ha.1]
theorem b9F {p : F7} (h : U0 p = 0) : (U4 p).length ≤ 577 := by
  unfold U0 at h; split at h
  · cases h
  · split at h
    · cases h
    · rename_i h1 h2
      simp only [Bool.not_eq_false] at h1 h2; simp only [S3, R8, Bool.and_eq_true, decide_eq_true_eq] at h1 h2; have e1 : (Q8 (W1 p.2)).length ≤ 2 * (W1 p.2).length := by
        unfold Q8; generalize W1 p.2 = s
        induction s with
        | nil => simp
        | cons c s ih =>
          rw [List.flatMap_cons, List.length_append, List.length_cons]; have : (if V0 c = true then [92, c] else [c]).length ≤ 2 := by split <;> simp
          omega
      have e2 : (W1 p.2).length ≤ p.2.length := by
        have hq : ∀ (s : Str) (c : UInt8), (sqz c s).length ≤ s.length := by
          intro s
          induction s with
          | nil => intro c; simp [sqz]
          | cons x s ih =>
            intro c; simp only [sqz]; have := ih x; split <;> simp <;> omega
        unfold W1; have h3 := hq (C8 (I5 p.2)) 0; have h4 : (C8 (I5 p.2)).length = (I5 p.2).length := (by simp [C8]); have h5 : (I5 p.2).length ≤ p.2.length := a1U p.2; omega
      have e3 : (C8 p.1).length = p.1.length := (by simp [C8]); simp only [U4, List.length_append, List.length_cons]; omega
theorem b5H (l : List F7) : (H5 l).1.length ≤ 5000 := by
  unfold H5; split
  · rename_i h
    unfold Z2 at h; split at h
    · rename_i h1
      split at h
      · cases h
      · have h1 := a2V.1 h1; have key : ∀ l : List F7, (∀ p ∈ l, U0 p = 0) → (D6 44 (l.map U4)).length ≤ l.length * 578 := by
          intro l
          induction l with
          | nil => intro _; simp [D6]
          | cons p l ih =>
            intro h; have hp := b9F (h p (by simp)); have ih := ih (fun q hq => h q (by simp [hq])); cases l with
            | nil => simp [D6]; omega
            | cons q l =>
              simp only [List.map_cons, D6, List.length_append, List.length_cons] at ih ⊢; omega
        have := key l h1; simp only; omega
    · rename_i h1; exact absurd h h1
  · simp
def cfK (key : Str → Str) (a b : Str) : Int := orI [a0I (key a) (key b), a0e a b]
theorem b1j {key : Str → Str} {a b : Str} : cfK key a b < 0 ↔ a0I (key a) (key b) < 0 ∨ (key a = key b ∧ a < b) := by
  unfold cfK orI orI orI; by_cases h : a0I (key a) (key b) = 0
  · rw [if_neg (by simpa using h)]; by_cases h2 : a0e a b = 0
    · rw [if_neg (by simpa using h2)]; have := b2s.1 h2; subst this; simp [h]
    · rw [if_pos h2, b4C]; have := a4M.1 h; simp [this, b2p]
  · rw [if_pos h]; have : key a ≠ key b := fun e => h (a4M.2 e)
    simp [this]
theorem b6p (key : Str → Str) (a : Str) : ¬ cfK key a a < 0 := by
  rw [b1j, b2p]; simp
theorem a7e {key : Str → Str} {a b c : Str} (h1 : cfK key a b < 0) (h2 : cfK key b c < 0) : cfK key a c < 0 := by
  rw [b1j] at *; rcases h1 with h1 | ⟨h1, h3⟩ <;> rcases h2 with h2 | ⟨h2, h4⟩
  · exact .inl (b8x h1 h2)
  · rw [h2] at h1; exact .inl h1
  · rw [← h1] at h2; exact .inl h2
  · exact .inr ⟨h1.trans h2, a1j h3 h4⟩
theorem b6k {key : Str → Str} {a b : Str} (h1 : ¬ cfK key a b < 0) (h2 : ¬ cfK key b a < 0) : a = b := by
  rw [b1j] at *; have h3 := b9k (key a) (key b); have h4 : a0I (key a) (key b) = 0 := (by omega); have h5 := a4M.1 h4; exact a2O (fun h => h1 (.inr ⟨h5, h⟩)) (fun h => h2 (.inr ⟨h5.symm, h⟩))
theorem a9d (key : Str → Str) : SWO (ltOf (cfK key)) where
  irrefl x := by simpa [ltOf] using b6p key x
  trans x y z h1 h2 := by
    simp only [ltOf, decide_eq_true_eq] at *; exact a7e h1 h2
  ntrans x y z h1 h2 := by
    simp only [ltOf, decide_eq_false_iff_not] at *; intro h3; by_cases h4 : cfK key y x < 0
    · exact h2 (a7e h4 h3)
    · have := b6k h1 h4; subst this; exact h2 h3
def KS (key : Str → Str) (l : List Str) : Prop := l.Pairwise fun a b => cfK key a b < 0
theorem a9k {key : Str → Str} {l : List Str} (hn : l.Nodup) : KS key (M6 (cfK key) l) := by
  obtain ⟨h1, h2⟩ := Z0 (a9d key) l; have hn' : (M6 (cfK key) l).Nodup := h1.nodup_iff.2 hn; refine List.pairwise_iff_getElem.2 fun i j hi hj hij => ?_
  have h3 := h2 i j hij hj; simp only [ltOf, decide_eq_false_iff_not] at h3; refine Classical.byContradiction fun h4 => ?_
  have := b6k h4 h3; exact (List.pairwise_iff_getElem.1 hn') i j hi hj hij this
theorem c0b {key : Str → Str} {A B : List Str} (ha : KS key A) (hb : KS key B) (h : A.Perm B) : A = B :=
  h.eq_of_pairwise (fun a b _ _ h1 h2 => absurd (a7e h1 h2) (b6p key a)) ha hb
theorem b2Z {key key' : Str → Str} {l m : List Str} (hn : l.Nodup) (hp : l.Perm m) (hk : ∀ a ∈ l, key a = key' a) : M6 (cfK key) l = M6 (cfK key') m := by
  have h1 := (Z0 (a9d key) l).1; have h2 := (Z0 (a9d key') m).1; have h3 : (M6 (cfK key) l).Perm (M6 (cfK key') m) := h1.trans (hp.trans h2.symm); refine c0b (key := key) (a9k hn) ?_ h3; have h4 : KS key' (M6 (cfK key') m) := a9k (hp.nodup_iff.1 hn); refine List.Pairwise.imp_of_mem (fun {a b} ha hb h => ?_) h4; have ha' : a ∈ l := hp.mem_iff.2 (h2.mem_iff.1 ha); have hb' : b ∈ l := hp.mem_iff.2 (h2.mem_iff.1 hb); simp only [cfK, hk a ha', hk b hb'] at h ⊢; exact h
def Y4 (N : SM) (id : Str) : Str := (I2 N id).getD []
theorem c2G (g : Nat) (N : SM) (bs : List Nat) (clk : Nat) (hN : ∀ p ∈ N, List.length p.2 < 900000) (a b : Str) :
    Ctr prog 118 ([.d (.str a), .d (.str b)] ++ [D.ref (smD g N bs clk)].map .d) (.d (.int .i64 (cfK (Y4 N) a b))) := by
  have hk : ∀ a, List.length (Y4 N a) < 900000 := fun a => by
    unfold Y4 I2; cases h : N.find? fun p => decide (p.1 = a) with
    | none => simp
    | some p => simpa using hN p (List.mem_of_find?_eq_some h)
  have hg : ∀ a, ∃ r, L5 ((N.map fun p => D.str p.1).zip (N.map fun p => D.str p.2)) (.str a) = r ∧ Z9 false (.str []) r = .d (.str (Y4 N a)) := fun a => by
    rw [a1R]; unfold Y4; cases I2 N a <;> exact ⟨_, rfl, rfl⟩
  obtain ⟨r1, h1, h2⟩ := hg a; obtain ⟨r2, h3, h4⟩ := hg b; have c1 := b5F (Y4 N a) (Y4 N b) (hk a) (hk b); have c2 := a6G a b; have c3 := a6a [a0I (Y4 N a) (Y4 N b), a0e a b] (by simp); simp only [a2h, List.map_cons, List.map_nil] at c3; refine fv (fun i => false) func118 (by kernel_rfl) rfl rfl rfl rfl rfl ?_; simp -implicitDefEqProofs [smD]; refine Y9 V9 (F4 _) (P8 N) Tryz.zd_9 h1 ?_; rw [h2]; simp -implicitDefEqProofs; refine Y9 V9 (F4 _) (P8 N) Tryz.zd_9 h3 ?_; rw [h4]; simp -implicitDefEqProofs; refine A1 c1 ?_; simp -implicitDefEqProofs; refine A1 c2 ?_; simp -implicitDefEqProofs; refine ⟨by decide, A1 c3 ?_⟩; simp -implicitDefEqProofs [cfK]
theorem c0Q (g : Nat) (N : SM) (bs : List Nat) (clk : Nat) (hN : ∀ p ∈ N, List.length p.2 < 900000) (l : List Str) (hl : l.length < 1000000) : a5R prog 162 9 (l.map .str) [.d (.clo 118 [D.ref (smD g N bs clk)])] ((M6 (cfK (Y4 N)) l).map .str) := by
  refine b8w Tryz.layT 9 (by kernel_rfl) (enters_of func162 (by kernel_rfl) rfl) D.str (fun s => Value.string ⟨s.toArray⟩) b9a (cfK (Y4 N)) (a9d _) 118 [D.ref (smD g N bs clk)] (by simp [D.isAgg]) (fun x y => c2G g N bs clk hN x y) (fun w cb => ?_) l hl; exact AnyF.slices_SortFunc_none Tryz.layU none 0 _ w
theorem b7w (g q T : Nat) (N : SM) (bs : List Nat) (clk : Nat) (hl : N.length < 1000000) (hk : ∀ p ∈ N, List.length p.1 ≤ maxLen) (hN : ∀ p ∈ N, List.length p.2 < 900000) (hnd : (N.map (·.1)).Nodup) :
    G7 prog 116 [.d (.raw (a8w 163 q)), .d (.clo 118 [D.ref (smD g N bs clk)])] [.hb (.pointer (some ⟨q, 0, none⟩)) T (smD g N bs clk)]
      (fun r hs' => r = .own true 9 ((M6 (cfK (Y4 N)) (N.map (·.1))).map .str) ∧ hs' = [.hb (.pointer (some ⟨q, 0, none⟩)) T (smD g N bs clk)]) := by
  have c1 := c2s (P := prog) (ρ := Tryz.coll_ren) (ρk := Tryz.keysA_ren) Tryz.coll { Tryz.keysA with } (enters_of func161 (by kernel_rfl) rfl) (enters_of func163 (by kernel_rfl) rfl) rfl (by decide) (by kernel_rfl) (by kernel_rfl) g q T (N.map (·.1)) (N.map fun p => .str p.2) bs clk (by simp) (by simp; omega) (by simpa using hk); have e : (D.map (.map (some g)) ((N.map (·.1)).map .str) (N.map fun p => .str p.2) bs clk) = smD g N bs clk := by simp [smD, Function.comp_def]
  rw [e] at c1; have hfix : ∀ ss, List.Perm ss (N.map (·.1)) → M6 (cfK (Y4 N)) ss = M6 (cfK (Y4 N)) (N.map (·.1)) := fun ss h => b2Z (h.nodup_iff.2 hnd) h (fun _ _ => rfl)
  obtain ⟨sd, hsd⟩ : ∃ sd, smD g N bs clk = sd := ⟨_, rfl⟩; have hsI := c0Q g N bs clk hN; rw [hsd] at c1 hsI ⊢; refine a1t (fun i => i == 5000007 || i == 3000010 || i == 5 || i == 8 || i == 4) (by kernel_rfl) func116 (by kernel_rfl) rfl rfl (nbl rfl) (by kernel_rfl) rfl ?_; simp -implicitDefEqProofs [A6]; refine M2 [1000000] 1000000 c1 (by simp [A6]) rfl (by simp) ?_; rintro r hs' ⟨⟨ss, hss, rfl⟩, rfl⟩; have hsl : ss.length < 1000000 := by rw [hss.length_eq]; simpa using hl
  have hI := hsI ss hsl; rw [hfix ss hss] at hI; generalize M6 (cfK (Y4 N)) (N.map (·.1)) = K at *; simp -implicitDefEqProofs [A6, C9, B8]; refine b7E hI ?_; simp -implicitDefEqProofs [A6]; exact ⟨.own true 9 (K.map .str), [1000000], by simp, by simp [isH], by simp [a1A, Tryz.coll_ren], rfl, by simp⟩
def J4 (R : List Chg) : List Str := M6 (cfK (F0 R)) (B4 R)
theorem b2Q {R : List Chg} {id : Str} (h : b5j (H4 R id) id) : List.length (F0 R id) < 900000 := by
  unfold F0; split
  · exact h.own
  · have := b5H (b1D (H4 R id) id); unfold a9r; omega
theorem c3L {R : List Chg} {N : SM} (h : List.Perm N (a1G R)) : M6 (cfK (Y4 N)) (N.map (·.1)) = J4 R := by
  have hp : (N.map (·.1)).Perm (B4 R) := by rw [← a4K]; exact h.map _
  refine b2Z (hp.nodup_iff.2 (a1B R)) hp (fun a ha => ?_); unfold Y4; rw [a2r h, if_pos (hp.mem_iff.1 ha)]; rfl
theorem a9W (R : List Chg) (d : D) (hG : a0O R) (g : Nat) (N : SM) (bs : List Nat) (clk : Nat) (hN : List.Perm N (a1G R)) :
    Ctr prog 66 [.d d, .d (smD g N bs clk)] (.own true 9 ((J4 R).map .str)) := by
  have hmx : (1000000 : Nat) ≤ maxLen := (by decide); have hmem : ∀ p ∈ N, p.1 ∈ B4 R ∧ p.2 = F0 R p.1 := fun p hp => by
    have := hN.mem_iff.1 hp; obtain ⟨x, hx, rfl⟩ := List.mem_map.1 this; exact ⟨hx, rfl⟩
  have hll := a0S R; have hlt := hG.lt; have hNl : N.length < 1000000 := by rw [hN.length_eq]; simp [a1G]; omega
  have hv : ∀ p ∈ N, List.length p.2 < 900000 := fun p hp => by
    rw [(hmem p hp).2]; exact b2Q (hG.name _ (hmem p hp).1)
  have hk : ∀ p ∈ N, List.length p.1 ≤ maxLen := fun p hp => by
    have := (hG.name _ (hmem p hp).1).short; omega
  have hnd : (N.map (·.1)).Nodup := by
    have hp : (N.map (·.1)).Perm (B4 R) := by rw [← a4K]; exact hN.map _
    exact hp.nodup_iff.2 (a1B R)
  have c1 := c7x (P := prog) (ρk := Tryz.keysA_ren) Tryz.keysA (enters_of func117 (by kernel_rfl) rfl) g (N.map fun p => .str p.1) (N.map fun p => .str p.2) bs clk; have c2 : ∀ q, _ := fun q => b7w g q 80 N bs clk hNl hk hv hnd
  have he := c3L hN; rw [he] at c2; have e : D.map (.map (some g)) (N.map fun p => .str p.1) (N.map fun p => .str p.2) bs clk = smD g N bs clk := rfl; rw [e] at c1; obtain ⟨sd, hsd⟩ : ∃ sd, smD g N bs clk = sd := ⟨_, rfl⟩; rw [hsd] at c1 c2 ⊢; refine fv (fun i => i == 5000006 || i == 5000008 || i == 4) func66 (by kernel_rfl) rfl rfl rfl rfl rfl ?_; simp -implicitDefEqProofs; refine ⟨⟨by rw [← hsd]; rfl, by rw [← hsd]; rfl⟩, ?_⟩; refine M2 [] 1000000 c1 rfl rfl (by simp) ?_; rintro r hs' ⟨q, rfl, rfl⟩; simp -implicitDefEqProofs [C9, B8]; refine M2 [1000000] 1000000 (c2 q) (by simp; rfl) rfl (by simp) ?_; rintro r hs' ⟨rfl, rfl⟩; generalize J4 R = K at *; simp -implicitDefEqProofs [C9, B8]
def a2E (e : Str × List Att) : D := a1S e.1 e.2
def a2f (R : List Chg) (id : Str) : Str × List Att := (F0 R id, V6 R id)
def a2K (R : List Chg) : List (Str × List Att) := (J4 R).map (a2f R)
theorem b4E {R : List Chg} {id : Str} : id ∈ J4 R ↔ id ∈ B4 R := (Z0 (a9d (F0 R)) (B4 R)).1.mem_iff
theorem a9l {R : List Chg} : (J4 R).length = (B4 R).length := (Z0 (a9d (F0 R)) (B4 R)).1.length_eq
def EsI (R : List Chg) (sd : D) (g : Nat) (N : SM) (bs : List Nat) (clk : Nat) (k : Nat) (τ : St) : Prop := τ 0 = .d sd ∧ τ 3 = .d (smD g N bs clk) ∧ τ 4 = .own true 48 (((J4 R).take k).map fun id => a2E (a2f R id)) ∧ τ 14 = .own false 9 ((J4 R).map .str) ∧ τ 15 = .d (.int .i64 (J4 R).length) ∧ τ 16 = .d (.int .i64 k)
theorem b6X (R : List Chg) (d : D) (hd : StD R d) (hG : a0O R) : Ctr prog 30 [.d d] (.own true 48 ((a2K R).map a2E)) := by
  have hdi := a1K R d hd hG; have hor : ∀ g N bs clk, List.Perm N (a1G R) → _ := fun g N bs clk hN => a9W R d hG g N bs clk hN
  have hen : ∀ id s, id ∈ B4 R → _ := fun id s h => b4K R d id s hd hG h
  have hll := a0S R; have hlt := hG.lt; have hol := a9l (R := R); obtain ⟨u1, R1, bs1, c1, u2, M, bs2, c2, rfl, hR1, hM⟩ := hd.open; have hre := a2H u1 R1 bs1 c1 u2 M bs2 c2; obtain ⟨sd, hsd⟩ : ∃ sd, T8 u1 R1 bs1 c1 u2 M bs2 c2 = .ref sd := ⟨_, rfl⟩; rw [hsd] at hdi hor hre hen ⊢; refine fv (fun i => i == 5000011 || i == 2 || i == 4) func30 (by kernel_rfl) rfl rfl rfl rfl rfl ?_; simp -implicitDefEqProofs; refine A1 hre ?_; simp -implicitDefEqProofs; refine b1x hdi ?_; rintro r hs' ⟨rfl, g, N, bs, clk, hN, rfl⟩; refine ⟨rfl, ?_⟩; have hor := hor g N bs clk hN; simp only [smD] at hor; simp -implicitDefEqProofs [smD]; refine A1 hor ?_; simp -implicitDefEqProofs [smD]; refine H3 (J4 R).length (EsI R (.ref sd) g N bs clk) ⟨by simp, by simp [smD], by simp, by simp, by simp, by simp⟩ ?_; rintro k τ hk ⟨g0, g3, g4, g14, g15, g16⟩; rcases Nat.lt_or_ge k (J4 R).length with hlt | hlt
  · have hlt' : (k : Int) < (J4 R).length := (by omega); have hin : (J4 R)[k] ∈ B4 R := b4E.1 (gmm _); have hge := a1R N (J4 R)[k]; rw [a2r hN, if_pos hin] at hge; have he := hen (J4 R)[k] (F0 R (J4 R)[k]) hin; have htk : ((J4 R).take (k + 1)).map (fun id => a2E (a2f R id)) = ((J4 R).take k).map (fun id => a2E (a2f R id)) ++ [a2E (a2f R (J4 R)[k])] := by rw [G9 hlt, List.map_append]; rfl
    have htl : (((J4 R).take k).map (fun id => a2E (a2f R id))).length ≤ 100000 := by simp; omega
    generalize ((J4 R).take k).map (fun id => a2E (a2f R id)) = T at *; simp -implicitDefEqProofs [g0, g3, g4, g14, g15, g16, hlt, hlt', smD]; refine Y9 V9 (F4 _) (P8 N) Tryz.zd_9 hge ?_; simp -implicitDefEqProofs [g0, g3, g4, g14, g15, g16, hlt, hlt', smD]; refine A1 he ?_; simp -implicitDefEqProofs [g0, g3, g4, g14, g15, g16, hlt, hlt', smD]; exact ⟨rfl, by omega, by omega, by omega, E5 hlt ⟨by simp [g0], by simp [g3, smD], by rw [htk]; simp [a2E, a2f], by simp [g14], by simp [g15], by simp⟩⟩
  · have hlt' : ¬ (k : Int) < (J4 R).length := (by omega); have hlt'' : ¬ k < (J4 R).length := (by omega); simp -implicitDefEqProofs [g0, g3, g4, g14, g15, g16, hlt', hlt'', a2K]; rw [ttl (by simpa using hlt)]; simp [Function.comp_def]
theorem b7e (s : Str) : List.length (U7 s).1 ≤ 5000 := by
  cases h : L4 s with
  | none => simp [U7, h]
  | some l =>
    cases l with
    | nil => simp [U7, h]
    | cons p l =>
      obtain ⟨t, h1, h2⟩ := b5N h; rw [h1]; exact c0H (a5Z.2 ⟨_, h2⟩)
def a2v (R : List Chg) (id : Str) : Str := (U7 (F0 R id)).1
def b8u (R : List Chg) (X : List Str) (id : Str) : Bool := decide (1 < a3h (a2v R id)) && !decide (a2v R id ∈ X)
def c2Y (X : List Str) (s : Str) : List Str := if s ∈ X then X else X ++ [s]
def a3V (R : List Chg) (p : List Str × List Str) (id : Str) : List Str × List Str := if b8u R p.1 id then (p.1, p.2 ++ [id]) else (c2Y p.1 (F0 R id), p.2)
def V1 (R : List Chg) (l : List Str) : List Str × List Str := l.foldl (a3V R) ([], [])
def a2U (R : List Chg) : List Str := I3 (V1 R (J4 R)).2
theorem b0d (R : List Chg) (l : List Str) (id : Str) : V1 R (l ++ [id]) = a3V R (V1 R l) id := by simp [V1]
theorem b1U (R : List Chg) (l : List Str) : (V1 R l).2.length ≤ l.length := by
  refine T5 (P := fun l => (V1 R l).2.length ≤ l.length) (by simp [V1]) (fun l id ih => ?_) l; rw [b0d]; unfold a3V; split
  · simp; omega
  · simp; omega
def a0L (X : List Str) : List (D × D) := X.map fun s => (D.str s, D.bool true)
theorem b6Q (X : List Str) (k : Str) : L5 (a0L X) (.str k) = if k ∈ X then some (.bool true) else none := by
  induction X with
  | nil => rfl
  | cons x X ih =>
    simp only [L5, a0L, List.map_cons, List.find?_cons, K5] at ih ⊢; by_cases h : x = k
    · simp [h]
    · simp only [decide_eq_false h]; rw [ih]; have : ¬ k = x := fun e => h e.symm
      simp [this]
theorem b8g (X : List Str) (k : Str) : Q5 (a0L X) (.str k) (.bool true) = a0L (c2Y X k) := by
  unfold Q5 c2Y; by_cases h : k ∈ X
  · rw [if_pos h, if_pos (by simp [a0L, K5, h])]; unfold a0L; rw [List.map_map]; refine List.map_congr_left fun x _ => ?_
    simp only [Function.comp_apply, K5]; exact ite_self _
  · rw [if_neg h, if_neg (by
      simp only [a0L, List.any_map, List.any_eq_true, Function.comp_apply, K5, decide_eq_true_eq, not_exists, not_and]; rintro x hx rfl; exact h hx)]
    simp [a0L]
theorem b3f : Program.underlying prog 95 = some (.map 9 4) := by kernel_rfl
def OrI (R : List Chg) (sd : D) (g : Nat) (N : SM) (bs : List Nat) (clk : Nat) (g2 : Nat) (k : Nat) (τ : St) : Prop := τ 3 = .d (smD g N bs clk) ∧ τ 4 = .d (.raw (.map (some g2))) ∧ τ 5 = .own true 9 ((V1 R ((J4 R).take k)).2.map .str) ∧ τ 18 = .own false 9 ((J4 R).map .str) ∧ τ 19 = .d (.int .i64 (J4 R).length) ∧ τ 20 = .d (.int .i64 k) ∧
  τ 1000000 = .hm (.map (some g2)) 9 (a0L (V1 R ((J4 R).take k)).1) none
theorem b8B (R : List Chg) (d : D) (hd : StD R d) (hG : a0O R) : Ctr prog 29 [.d d] (.own true 9 ((a2U R).map .str)) := by
  have hdi := a1K R d hd hG; have hor : ∀ g N bs clk, List.Perm N (a1G R) → _ := fun g N bs clk hN => a9W R d hG g N bs clk hN
  have hll := a0S R; have hlt := hG.lt; have hol := a9l (R := R); obtain ⟨u1, R1, bs1, c1, u2, M, bs2, c2, rfl, hR1, hM⟩ := hd.open; have hre := a2H u1 R1 bs1 c1 u2 M bs2 c2; obtain ⟨sd, hsd⟩ : ∃ sd, T8 u1 R1 bs1 c1 u2 M bs2 c2 = .ref sd := ⟨_, rfl⟩; rw [hsd] at hdi hor hre ⊢; refine fv (fun i => i == 5000014 || i == 2 || i == 5 || i == 49 || i == 3000050) func29 (by kernel_rfl) rfl rfl rfl rfl rfl ?_; simp -implicitDefEqProofs; refine A1 hre ?_; simp -implicitDefEqProofs; refine b1x hdi ?_; rintro r hs' ⟨rfl, g, N, bs, clk, hN, rfl⟩; refine ⟨rfl, ?_⟩; have hor := hor g N bs clk hN; simp only [smD] at hor; simp -implicitDefEqProofs [smD]; refine b0l 9 1000000 (by simp) (fun g2 => ?_); simp -implicitDefEqProofs [smD]; refine A1 hor ?_; simp -implicitDefEqProofs [smD]; refine H3 (J4 R).length (OrI R (.ref sd) g N bs clk g2) ⟨by simp [smD], by simp, by simp [V1], by simp, by simp, by simp, by simp [V1, a0L]⟩ ?_; rintro k τ hk ⟨g3, g4, g5, g18, g19, g20, gB⟩; rcases Nat.lt_or_ge k (J4 R).length with hlt | hlt
  · have hlt' : (k : Int) < (J4 R).length := (by omega); obtain ⟨id, hid⟩ : ∃ id, (J4 R)[k] = id := ⟨_, rfl⟩; have hin : id ∈ B4 R := by rw [← hid]; exact b4E.1 (gmm _)
    have hge := a1R N id; rw [a2r hN, if_pos hin] at hge; have hsn := b0d R ((J4 R).take k) id; rw [← hid, ← G9 hlt, hid] at hsn; have hol := b1U R ((J4 R).take k); rw [List.length_take] at hol; have c1 := b8e (F0 R id) (b2Q (hG.name id hin)); obtain ⟨b, hb⟩ : ∃ b, (U7 (F0 R id)).2 = b := ⟨_, rfl⟩; have hpl := b7e (F0 R id); have c2 := b9c (a2v R id) (by unfold a2v; omega); have hpp : (U7 (F0 R id)).1 = a2v R id := rfl; rw [hpp, hb] at c1; have hmg := b6Q (V1 R ((J4 R).take k)).1 (a2v R id); have hms := b8g (V1 R ((J4 R).take k)).1 (F0 R id); have hq : b8u R (V1 R ((J4 R).take k)).1 id = (decide (1 < a3h (a2v R id)) && !decide (a2v R id ∈ (V1 R ((J4 R).take k)).1)) := rfl; unfold a3V at hsn; generalize V1 R ((J4 R).take k) = T at *; rcases Classical.em (1 < a3h (a2v R id)) with h1 | h1
    · have h1' : (1 : Int) < a3h (a2v R id) := (by omega); rcases Classical.em (a2v R id ∈ T.1) with h2 | h2
      · rw [if_pos h2] at hmg; simp only [h1, h2, decide_true, Bool.not_true, Bool.and_false] at hq; simp only [hq, Bool.false_eq_true, if_false] at hsn; simp -implicitDefEqProofs [g3, g4, g5, g18, g19, g20, hlt, hlt', smD, hid]; refine Y9 V9 (F4 _) (P8 N) Tryz.zd_9 hge ?_; simp -implicitDefEqProofs [g3, g4, g5, g18, g19, g20, hlt, hlt', smD, hid]; refine A1 c1 ?_; simp -implicitDefEqProofs [g3, g4, g5, g18, g19, g20, hlt, hlt', smD, hid]; refine A1 c2 ?_; simp -implicitDefEqProofs [g3, g4, g5, g18, g19, g20, hlt, hlt', smD, h1, h1']; refine a0M (m := a0L T.1) (E := none) 1000000 (by omega) b3f (by simp [gB]) (F4 _) Tryz.zd_4 hmg ?_; simp -implicitDefEqProofs [g3, g4, g5, g18, g19, g20, hlt, hlt', smD, h1, h1']; refine Y9 V9 (F4 _) (P8 N) Tryz.zd_9 hge ?_; simp -implicitDefEqProofs [g3, g4, g5, g18, g19, g20, hlt, hlt', smD, h1, h1']; refine a5D (m := a0L T.1) (E := none) 1000000 b3f (by simp [gB]) (F4 _) _ (List.Perm.refl _) ?_; rw [hms]; simp -implicitDefEqProofs [g3, g4, g5, g18, g19, g20, hlt, hlt', smD, h1, h1']; exact ⟨by omega, E5 hlt ⟨by simp [g3, smD], by simp [g4], by simp [g5, hsn], by simp [g18], by simp [g19], by simp, by simp [hsn]⟩⟩
      · rw [if_neg h2] at hmg; simp only [h1, h2, decide_true, decide_false, Bool.not_false, Bool.and_true] at hq; simp only [hq, if_true] at hsn; simp -implicitDefEqProofs [g3, g4, g5, g18, g19, g20, hlt, hlt', smD, hid]; refine Y9 V9 (F4 _) (P8 N) Tryz.zd_9 hge ?_; simp -implicitDefEqProofs [g3, g4, g5, g18, g19, g20, hlt, hlt', smD, hid]; refine A1 c1 ?_; simp -implicitDefEqProofs [g3, g4, g5, g18, g19, g20, hlt, hlt', smD, hid]; refine A1 c2 ?_; simp -implicitDefEqProofs [g3, g4, g5, g18, g19, g20, hlt, hlt', smD, h1, h1']; refine a0M (m := a0L T.1) (E := none) 1000000 (by omega) b3f (by simp [gB]) (F4 _) Tryz.zd_4 hmg ?_; simp -implicitDefEqProofs [g3, g4, g5, g18, g19, g20, hlt, hlt', smD, h1, h1']; exact ⟨by omega, by omega, by omega, E5 hlt ⟨by simp [g3, smD], by simp [g4], by simp [hsn], by simp [g18], by simp [g19], by simp, by simp [gB, hsn]⟩⟩
    · have h1' : ¬ (1 : Int) < a3h (a2v R id) := (by omega); simp only [h1, decide_false, Bool.false_and] at hq; simp only [hq, Bool.false_eq_true, if_false] at hsn; simp -implicitDefEqProofs [g3, g4, g5, g18, g19, g20, hlt, hlt', smD, hid]; refine Y9 V9 (F4 _) (P8 N) Tryz.zd_9 hge ?_; simp -implicitDefEqProofs [g3, g4, g5, g18, g19, g20, hlt, hlt', smD, hid]; refine A1 c1 ?_; simp -implicitDefEqProofs [g3, g4, g5, g18, g19, g20, hlt, hlt', smD, hid]; refine A1 c2 ?_; simp -implicitDefEqProofs [g3, g4, g5, g18, g19, g20, hlt, hlt', smD, h1, h1']; refine Y9 V9 (F4 _) (P8 N) Tryz.zd_9 hge ?_; simp -implicitDefEqProofs [g3, g4, g5, g18, g19, g20, hlt, hlt', smD, h1, h1']; refine a5D (m := a0L T.1) (E := none) 1000000 b3f (by simp [gB]) (F4 _) _ (List.Perm.refl _) ?_; rw [hms]; simp -implicitDefEqProofs [g3, g4, g5, g18, g19, g20, hlt, hlt', smD, h1, h1']; exact ⟨by omega, E5 hlt ⟨by simp [g3, smD], by simp [g4], by simp [g5, hsn], by simp [g18], by simp [g19], by simp, by simp [hsn]⟩⟩
  · have hlt' : ¬ (k : Int) < (J4 R).length := (by omega); have hlt'' : ¬ k < (J4 R).length := (by omega); rw [ttl (by simpa using hlt)] at g5 gB; have c1 := b1L (V1 R (J4 R)).2 (by have := b1U R (J4 R); omega); have e : I3 (V1 R (J4 R)).2 = a2U R := rfl; rw [e] at c1; simp -implicitDefEqProofs [g3, g4, g5, g18, g19, g20, hlt', hlt'']; refine b7E c1 ?_; simp -implicitDefEqProofs [g3, g4, g5, g18, g19, g20, hlt', hlt'']
theorem b0c (l m : List Str) (hl : l.length < 1000000) (hm : m.length < 1000000) : Ctr prog 38 [.d (B9 l), .d (B9 m)] (.d (.bool (decide (l = m)))) := by
  refine fv (fun _ => false) func38 (by kernel_rfl) rfl rfl rfl rfl rfl ?_; by_cases hlm : l.length = m.length
  · simp -implicitDefEqProofs [B9, hlm]; refine H3 m.length (fun k τ => τ 0 = .d (B9 l) ∧ τ 1 = .d (B9 m) ∧ τ 5 = .d (.int .i64 k) ∧ l.take k = m.take k) (by simp [B9, hlm]) ?_; rintro k τ hk ⟨h0, h1, h5, ht⟩; by_cases hlt : k < m.length
    · have hlt' : k < l.length := (by omega); by_cases he : l[k] = m[k]
      · simp -implicitDefEqProofs [h0, h1, h5, B9, hlm, hlt, hlt', he]; refine ⟨by omega, E5 hlt ⟨by simp [h0, B9], by simp [h1, B9], by simp, ?_⟩⟩; rw [G9 hlt, G9 hlt', ht, he]
      · simp -implicitDefEqProofs [h0, h1, h5, B9, hlm, hlt, hlt', he]; rintro rfl; exact he rfl
    · rw [ttl (by omega), ttl (by omega)] at ht; simp -implicitDefEqProofs [h0, h1, h5, B9, hlm, hlt, ht]; try omega
  · have hlm' : ¬ (l.length : Int) = m.length := (by omega); simp -implicitDefEqProofs [B9, hlm']; rintro rfl; exact hlm rfl
def a3a (l : List Chg) (c : Chg) : Bool := l.all fun x => !(decide (idC x = idC c) && decide (0 ≤ W6 x.1 c.1))
theorem b9o (l : List Chg) (c : Chg) (hl : l.length < 1000000) : Ctr prog 23 [.d (G0 l), .d (A8 c)] (.d (.bool (a3a l c))) := by
  refine fv (fun i => false) func23 (by kernel_rfl) rfl rfl rfl rfl rfl ?_; have ec0 : A8 c = .agg [B5 c.1, .int .i64 (opC c), .str (idC c), .str c.2.2.2.1, .str c.2.2.2.2.1, .str c.2.2.2.2.2] := rfl; obtain ⟨R, hR⟩ : ∃ R, a3a l c = R := ⟨_, rfl⟩; rw [hR]; rw [ec0]; simp -implicitDefEqProofs [A4]; refine H3 l.length (fun k τ => τ 0 = .d (G0 l) ∧ τ 3 = .box (A8 c) ∧ τ 5 = .d (.int .i64 k) ∧ a3a (l.drop k) c = R) ⟨by simp, by simp [ec0], by simp, by simpa using hR⟩ ?_; rintro k τ hk ⟨h0, h3, h5, hn⟩; by_cases hlt : k < l.length
  · have hlt' : (k : Int) < l.length := (by omega); obtain ⟨x, hx⟩ : ∃ x, l[k] = x := ⟨_, rfl⟩; have ec : A8 x = .agg [B5 x.1, .int .i64 (opC x), .str (idC x), .str x.2.2.2.1, .str x.2.2.2.2.1, .str x.2.2.2.2.2] := rfl; rw [List.drop_eq_getElem_cons hlt, a3a, List.all_cons, hx] at hn; have c1 := b6x x.1 c.1; by_cases h1 : idC x = idC c
    · by_cases h2 : 0 ≤ W6 x.1 c.1
      · simp only [h1, h2, decide_true, Bool.and_true, Bool.not_true, Bool.false_and] at hn; have hR0 : R = false := hn.symm; subst hR0; simp -implicitDefEqProofs [h0, h3, h5, G0, hlt, hlt', hx, ec, ec0, A4, h1]; refine ⟨rfl, rfl, D8 c1 ?_⟩; simp -implicitDefEqProofs [h0, h3, h5, G0, hlt, hlt', hx, ec, ec0, A4, h1, h2]
      · simp only [h1, h2, decide_true, decide_false, Bool.and_false, Bool.not_false, Bool.true_and] at hn; simp -implicitDefEqProofs [h0, h3, h5, G0, hlt, hlt', hx, ec, ec0, A4, h1]; refine ⟨rfl, rfl, D8 c1 ?_⟩; simp -implicitDefEqProofs [h0, h3, h5, G0, hlt, hlt', hx, ec, ec0, A4, h1, h2]; refine ⟨by omega, E5 hlt ⟨by simp [h0, G0], by simp [h3, ec0], by simp, hn⟩⟩
    · simp only [h1, decide_false, Bool.false_and, Bool.not_false, Bool.true_and] at hn; simp -implicitDefEqProofs [h0, h3, h5, G0, hlt, hlt', hx, ec, ec0, A4, h1]; refine ⟨by omega, E5 hlt ⟨by simp [h0, G0], by simp [h3, ec0], by simp, hn⟩⟩
  · rw [List.drop_eq_nil_of_le (by omega)] at hn; have hR0 : R = true := hn.symm; subst hR0; have hlt' : ¬ (k : Int) < l.length := (by omega); simp -implicitDefEqProofs [h0, h3, h5, G0, hlt, hlt']
def smC (c : Chg) : Bool := decide (List.length c.2.2.1 ≤ 100) && (decide (List.length c.2.2.2.1 ≤ 300) && (decide (List.length c.2.2.2.2.1 ≤ 100) && decide (List.length c.2.2.2.2.2 ≤ 300)))
def a2i (l : List Chg) : Bool := l.all smC && decide (l.length ≤ 14)
theorem b4h (l : List Chg) (hl : l.length ≤ 140737488351232) : Ctr prog 9 [.d (G0 l)] (.d (.bool (a2i l))) := by
  refine fv (fun i => false) func9 (by kernel_rfl) rfl rfl rfl rfl rfl ?_; obtain ⟨R, hR⟩ : ∃ R, a2i l = R := ⟨_, rfl⟩; rw [hR]; simp -implicitDefEqProofs; refine H3 l.length (fun k τ => τ 0 = .d (G0 l) ∧ τ 3 = .d (.int .i64 k) ∧ ((l.drop k).all smC && decide (l.length ≤ 14)) = R) ⟨by simp, by simp, by simpa [a2i] using hR⟩ ?_; rintro k τ hk ⟨h0, h3, hn⟩; by_cases hlt : k < l.length
  · have hlt' : (k : Int) < l.length := (by omega); obtain ⟨x, hx⟩ : ∃ x, l[k] = x := ⟨_, rfl⟩; rw [List.drop_eq_getElem_cons hlt, List.all_cons, hx] at hn; obtain ⟨n, op, id, nm, at_, va_⟩ := x; have ec : A8 (n, op, id, nm, at_, va_) = .agg [B5 n, .int .i64 op, .str id, .str nm, .str at_, .str va_] := rfl; simp only [smC] at hn; have hF : ∀ (s : Str) (m : Nat), (m : Int) < (List.length s : Nat) → decide (List.length s ≤ m) = false := fun s m h => by simp only [decide_eq_false_iff_not]; omega
    have hT : ∀ (s : Str) (m : Nat), ¬ (m : Int) < (List.length s : Nat) → decide (List.length s ≤ m) = true := fun s m h => by simp only [decide_eq_true_eq]; omega
    rcases Classical.em (((100 : Nat) : Int) < (List.length id : Nat)) with q0 | q0
    · rw [hF id 100 q0] at hn; simp only [Bool.and_false, Bool.false_and, Bool.true_and] at hn; have hR0 : R = false := hn.symm; subst hR0; have q0' : (100 : Int) < (List.length id : Nat) := q0; simp -implicitDefEqProofs [h0, h3, G0, hlt, hlt', hx, ec, A4, q0']
    · rw [hT id 100 q0] at hn; have q0' : ¬ (100 : Int) < (List.length id : Nat) := q0; simp only [Bool.true_and] at hn; rcases Classical.em (((300 : Nat) : Int) < (List.length nm : Nat)) with q1 | q1
      · rw [hF nm 300 q1] at hn; simp only [Bool.and_false, Bool.false_and, Bool.true_and] at hn; have hR0 : R = false := hn.symm; subst hR0; have q1' : (300 : Int) < (List.length nm : Nat) := q1; simp -implicitDefEqProofs [h0, h3, G0, hlt, hlt', hx, ec, A4, q0', q1']
      · rw [hT nm 300 q1] at hn; have q1' : ¬ (300 : Int) < (List.length nm : Nat) := q1; simp only [Bool.true_and] at hn; rcases Classical.em (((100 : Nat) : Int) < (List.length at_ : Nat)) with q2 | q2
        · rw [hF at_ 100 q2] at hn; simp only [Bool.and_false, Bool.false_and, Bool.true_and] at hn; have hR0 : R = false := hn.symm; subst hR0; have q2' : (100 : Int) < (List.length at_ : Nat) := q2; simp -implicitDefEqProofs [h0, h3, G0, hlt, hlt', hx, ec, A4, q0', q1', q2']
        · rw [hT at_ 100 q2] at hn; have q2' : ¬ (100 : Int) < (List.length at_ : Nat) := q2; simp only [Bool.true_and] at hn; rcases Classical.em (((300 : Nat) : Int) < (List.length va_ : Nat)) with q3 | q3
          · rw [hF va_ 300 q3] at hn; simp only [Bool.and_false, Bool.false_and, Bool.true_and] at hn; have hR0 : R = false := hn.symm; subst hR0; have q3' : (300 : Int) < (List.length va_ : Nat) := q3; simp -implicitDefEqProofs [h0, h3, G0, hlt, hlt', hx, ec, A4, q0', q1', q2', q3']
          · rw [hT va_ 300 q3] at hn; have q3' : ¬ (300 : Int) < (List.length va_ : Nat) := q3; simp only [Bool.true_and] at hn; simp -implicitDefEqProofs [h0, h3, G0, hlt, hlt', hx, ec, A4, q0', q1', q2', q3']; exact ⟨by omega, E5 hlt ⟨by simp [h0, G0], by simp, hn⟩⟩
  · rw [List.drop_eq_nil_of_le (by omega), List.all_nil, Bool.true_and] at hn; have hlt' : ¬ (k : Int) < l.length := (by omega); simp -implicitDefEqProofs [h0, h3, G0, hlt, hlt']; rw [← hn]; rw [Bool.eq_iff_iff, decide_eq_true_eq, decide_eq_true_eq]; omega
def a2Q : Str := [109, 97, 105, 108]
def atC (t op : Int) (id nm v : Str) : Chg := if op = 4 ∨ op = 5 then ((t, 0, 0), op, id, nm, a2Q, v) else ((t, 0, 0), op, id, nm, [], [])
theorem a8u (t op : Int) (id nm v : Str) : Ctr prog 37 [.d (.int .i64 t), .d (.int .i64 op), .d (.str id), .d (.str nm), .d (.str v)] (.d (A8 (atC t op id nm v))) := by
  have hE : ∀ a b : Str, A8 ((t, 0, 0), op, id, nm, a, b) = .agg [.agg [.int .i64 t, .int .i64 0, .int .i64 0], .int .i64 op, .str id, .str nm, .str a, .str b] := fun _ _ => rfl
  have hA : atC t op id nm v = if op = 4 ∨ op = 5 then ((t, 0, 0), op, id, nm, a2Q, v) else ((t, 0, 0), op, id, nm, [], []) := rfl
  generalize atC t op id nm v = X at *; refine N1 (rv := .cell 10 35) (rs := []) (r := .d (A8 X)) (ys := []) (fun i => false) (by kernel_rfl) func37 (by kernel_rfl) rfl rfl (by simp) (nbl rfl) (by kernel_rfl) rfl rfl ?_; rcases Classical.em (op = 4) with h4 | h4
  · rw [if_pos (.inl h4)] at hA; subst hA; rw [hE]; simp -implicitDefEqProofs [h4, a2Q]
  · rcases Classical.em (op = 5) with h5 | h5
    · rw [if_pos (.inr h5)] at hA; subst hA; rw [hE]; simp -implicitDefEqProofs [h5, a2Q]
    · rw [if_neg (by simp [h4, h5])] at hA; subst hA; rw [hE]; simp -implicitDefEqProofs [h4, h5]
abbrev d0F := Str × List Att
structure c1Y (e : d0F) : Prop where
  normal : F5 e.2 = e.2
  fit : a4r e.2
theorem a5t {P : Program} {f : FuncId} {args : List AV} {e : TypeId} {l : List D} (h : Ctr P f args (.own true e l)) : Ctr P f args (.d (.sl l)) := by
  refine ⟨h.1, fun w L og vals hlok hgl hog hv => (h.2 w L og vals hlok hgl hog hv).mono ?_⟩; rintro x w' ⟨v, L', og', rfl, hgr, hlok', hold', hog', hrc⟩; obtain ⟨L2, hrc2, hlok2, hold2, hext2⟩ := hrc.demote false hlok' (fun g hg => (hog' g hg).1); refine ⟨v, L2, none, rfl, hgr, hlok2, fun c q hc hne => ?_, (fun g hg => by cases hg), D7.at_ (P := P) hrc2⟩; refine (hold2 c q (fun e => ?_)).trans (hold' c q hc hne); rcases (hog' c e.symm).2 with h1 | h1
  · omega
  · exact hne h1
structure d4z (R1 R2 : List Chg) : Prop where
  live : B4 R1 = B4 R2
  conf : a2W R1 = a2W R2
  orph : a2U R1 = a2U R2
  ents : a2K R1 = a2K R2
  entry : ∀ id, K2 R1 id = K2 R2 id
theorem c1a : c1Y ([], []) := ⟨by decide, ⟨⟨by simp, by simp⟩, by simp [H1]⟩⟩
theorem c1K {R : List Chg} (hG : a0O R) (id : Str) : c1Y (a2f R id) := by
  refine ⟨b5v _, b5u (b5k (hG.vals id).1 (hG.vals id).2)⟩
theorem b4D {R : List Chg} (hG : a0O R) (id : Str) : c1Y (K2 R id).1 := by
  unfold K2; split
  · exact c1K hG id
  · exact c1a
theorem a8t (s r m : Nat) (R : List Chg) (E : List X4) : (stH s r m R E).all isH = true := by
  rw [List.all_eq_true]; intro x hx; simp only [stH, T4, List.mem_append, List.mem_flatMap, List.mem_cons, List.not_mem_nil, or_false] at hx; rcases hx with (rfl | rfl | rfl) | ⟨e, _, hx⟩
  · rfl
  · rfl
  · rfl
  · simp only [a2q, List.mem_cons, List.not_mem_nil, or_false] at hx; rcases hx with rfl | rfl <;> rfl
theorem a8z (s r m : Nat) (R : List Chg) (E : List X4) : (stH s r m R E).length = 3 + 2 * E.length := by
  have : ∀ E : List X4, (E.flatMap a2q).length = 2 * E.length := fun E => by
    induction E with
    | nil => rfl
    | cons e E ih => rw [List.flatMap_cons, List.length_append, ih]; simp [a2q]; omega
  simp [stH, T4, this]; omega
theorem b4m (R : List Chg) : (R0 R).length ≤ R.length := by
  refine T5 (P := fun R => (R0 R).length ≤ R.length) (Nat.le_refl _) (fun R c ih => ?_) R; rw [a4x]; unfold a4n; split
  · simp; omega
  · simp; omega
structure a8h (R : List Chg) : Prop where
  fit : ∀ c ∈ R, Q7 c
  ok : ∀ c ∈ R, H7 c = 0
  nd : R.Nodup
  few : R.length ≤ 4096
theorem a9u : a8h [] := ⟨by simp, by simp, List.nodup_nil, by simp⟩
theorem a5O {R : List Chg} (h : a8h R) {c : Chg} (hc : Q7 c) : a8h (N0 R c) := by
  unfold N0; split
  · rename_i hh
    refine ⟨fun x hx => ?_, fun x hx => ?_, ?_, ?_⟩
    · rcases List.mem_append.1 hx with hx | hx
      · exact h.fit x hx
      · rw [List.mem_singleton.1 hx]; exact hc
    · rcases List.mem_append.1 hx with hx | hx
      · exact h.ok x hx
      · rw [List.mem_singleton.1 hx]; exact hh.1
    · refine List.nodup_append.2 ⟨h.nd, by simp, fun a ha b hb => ?_⟩; rw [List.mem_singleton.1 hb]; rintro rfl; exact hh.2.1 ha
    · simp; omega
  · exact h
theorem b3P {R : List Chg} (h : a8h R) {s r m : Nat} {E : List X4} (hE : Y7 E = R0 R) : (stH s r m R E).length ≤ 500000 := by
  rw [a8z]; have h1 : E.length = (R0 R).length := by rw [← hE]; simp [Y7]
  have := b4m R; have := h.few; omega
def StF (σ : St) (B s : Nat) (R : List Chg) : Prop := a8h R ∧ ∃ r m E, Y7 E = R0 R ∧ Fam σ B (stH s r m R E)
theorem StF.put {σ : St} {B s d : Nat} {R : List Chg} {x : AV} (h : StF σ B s R) (hd : d < B) : StF (Vw.put σ d x) B s R := by
  obtain ⟨hR, r, m, E, hE, hF⟩ := h; exact ⟨hR, r, m, E, hE, hF.put hd⟩
theorem b3N {σ : St} {d : Nat} {K : St → Prop} (B s : Nat) (hB : 1000000 ≤ B) (hd : d < 1000000) {R : List Chg} {c : Chg} (hF : StF σ B s R) (hc : Q7 c)
    (hk : ∀ τ ks, StF τ B s (N0 R c) → τ d = .d (.int .i64 (R3 R c)) → (∀ j, j < 1000000 → ks.contains j = false) → (∀ i, i < 1000000 → i ≠ d → τ i = F2 ks (E3 d (σ i))) →
      (∀ B2 hs2, Fam σ B2 hs2 → 1000000 ≤ B2 → (B2 + 1000000 ≤ B ∨ B + 1000000 ≤ B2) → Fam τ B2 hs2) → K τ) : a3n prog 13 [.d (.raw (va s)), .d (A8 c)] σ d K := by
  obtain ⟨hR, r, m, E, hE, hFam⟩ := hF; refine c4R B hB hd hFam (c2Z s r m R E hE hR.fit c hc) (fun x hs' hp => ?_) (fun x hs' τ ks ls hp hF' h1 h2 h3 h4 => ?_)
  · obtain ⟨_, E', hE', rfl⟩ := hp; exact ⟨a8t _ _ _ _ _, b3P (a5O hR hc) hE'⟩
  · obtain ⟨rfl, E', hE', rfl⟩ := hp; refine hk τ ks ⟨a5O hR hc, r, m, E', hE', hF'⟩ ?_ h1 (fun i hi hne => ?_) h4
    · rw [h3 d hd, if_pos rfl]; rfl
    · rw [h3 i hi, if_neg hne]
def ofE : List Chg → List Chg → Int
  | _, [] => 0
  | R, c :: l => if R3 R c ≠ 0 then R3 R c else ofE (N0 R c) l
def ofR (R l : List Chg) : List Chg := l.foldl N0 R
def OfI (l : List Chg) (s : Nat) (e : Int) (k : Nat) (τ : St) : Prop := τ 4 = .d (.raw (va s)) ∧ τ 9 = .d (G0 l) ∧ τ 10 = .d (.int .i64 l.length) ∧ τ 11 = .d (.int .i64 k) ∧ ofE (ofR [] (l.take k)) (l.drop k) = e ∧ StF τ 1000000 s (ofR [] (l.take k))
theorem c7i (l : List Chg) (hl : l.length < 100000) (hf : ∀ c ∈ l, Q7 c) : G7 prog 17 [.d (G0 l)] [] (fun x hs' => (ofE [] l ≠ 0 ∧ x = .tup [.d .nilp, .d (.int .i64 (ofE [] l))] ∧ hs' = []) ∨ (ofE [] l = 0 ∧ ∃ s r m E, x = .tup [.d (.raw (va s)), .d (.int .i64 0)] ∧ Y7 E = R0 (ofR [] l) ∧ hs' = stH s r m (ofR [] l) E)) := by
  refine a2N (rs := [.tmp 2, .tmp 3]) (fun i => i == 5000008 || i == 5000017) (by kernel_rfl) func17 (by kernel_rfl) rfl rfl (by simp) (nbl rfl) (by kernel_rfl) rfl ?_; simp -implicitDefEqProofs [A6]; refine M2 [] 1000000 b8F rfl rfl (by simp) ?_; rintro x hs' ⟨s, r, m, rfl, hh⟩; have hh2 : hs' = [.hb (va s) 65 (.agg [.raw (.map (some r)), .raw (.map (some m))]), .hm (.map (some r)) 35 (Q6 []) none, .hm (.map (some m)) 9 (R4 []) none] := hh; clear hh; subst hh2; simp -implicitDefEqProofs [A6, C9, B8]; refine H3 l.length (OfI l s (ofE [] l)) ⟨by simp, by simp [G0], by simp, by simp, by simp [ofR], ?_⟩ ?_
  · refine ⟨a9u, r, m, [], rfl, rfl, by simp [a8z], fun i hi => ?_⟩; simp only [a8z, List.length_nil] at hi
    match i, hi with
    | 0, _ => simp [stH, T4]
    | 1, _ => simp [stH, T4, ofR]
    | 2, _ => simp [stH, T4]
  rintro k τ hk ⟨h4, h9, h10, h11, hE, hF⟩; by_cases hlt : k < l.length
  · have hlt' : (k : Int) < l.length := (by omega); obtain ⟨c, hx⟩ : ∃ c, l[k] = c := ⟨_, rfl⟩; have hc : Q7 c := by rw [← hx]; exact hf _ (gmm _)
    have ec : A8 c = .agg [B5 c.1, .int .i64 (opC c), .str (idC c), .str c.2.2.2.1, .str c.2.2.2.2.1, .str c.2.2.2.2.2] := rfl; rw [List.drop_eq_getElem_cons hlt, hx, ofE] at hE; have hR2 : ofR [] (l.take (k + 1)) = N0 (ofR [] (l.take k)) c := by rw [G9 hlt, hx]; simp [ofR]
    simp -implicitDefEqProofs [h4, h9, h10, h11, hlt, hlt', G0, hx, ec, A4]; rw [← ec]; refine b3N (R := ofR [] (l.take k)) 1000000 s (Nat.le_refl _) (by omega) (by (repeat (first | exact hF | refine StF.put ?_ (by omega) | refine StF.setv ?_ (by omega) | refine StF.clean ?_ _))) hc (fun τ2 ks hF2 hd2 hks hτ hoth => ?_); have t4 : τ2 4 = .d (.raw (va s)) := by rw [hτ 4 (by omega) (by omega)]; simp [h4, F2]
    have t9 : τ2 9 = .d (G0 l) := by rw [hτ 9 (by omega) (by omega)]; simp [h9, F2]
    have t10 : τ2 10 = .d (.int .i64 l.length) := by rw [hτ 10 (by omega) (by omega)]; simp [h10, F2]
    have t11 : τ2 11 = .d (.int .i64 k) := by rw [hτ 11 (by omega) (by omega)]; simp [h11, F2]
    by_cases he : R3 (ofR [] (l.take k)) c = 0
    · rw [if_neg (by simpa using he)] at hE; rw [← hR2] at hE hF2; rw [he] at hd2; simp -implicitDefEqProofs [t4, t9, t10, t11, hd2]; exact ⟨by omega, E5 hlt ⟨by simp [t4], by simp [t9], by simp [t10], by simp, hE, by (repeat (first | exact hF2 | refine StF.put ?_ (by omega) | refine StF.setv ?_ (by omega) | refine StF.clean ?_ _))⟩⟩
    · rw [if_pos he] at hE; rw [hE] at hd2 he; simp -implicitDefEqProofs [t4, t9, t10, t11, hd2, he]; exact ⟨[.d .nilp, .d (.int .i64 (ofE [] l))], [], by simp, by simp, by simp [U8, a1z], rfl, rfl⟩
  · have hlt' : ¬ (k : Int) < l.length := (by omega); rw [List.drop_eq_nil_of_le (by omega), ofE] at hE; rw [ttl (by omega)] at hF; obtain ⟨hB, r2, m2, E2, hE2, hF2⟩ := hF; simp -implicitDefEqProofs [h4, h9, h10, h11, hlt, hlt', G0]; have hP := (((hF2.put (x := .d (.bool false)) (d := 12) (by omega)).put (x := .d (.raw (va s))) (d := 22) (by omega)).put (x := .d (.raw (va s))) (d := 2) (by omega)).put (x := .d (.int .i64 0)) (d := 3) (by omega); exact ⟨[.d (.raw (va s)), .d (.int .i64 0)], X2 1000000 (stH s r2 m2 (ofR [] l) E2).length, a6h _ _, fun k hk => hP.isH k hk, by simp [U8, a1z], .inr ⟨hE.symm, s, rfl, r2, m2, E2, hE2, hP.map⟩⟩
def Oth (σ τ : St) (d : Nat) : Prop := ∃ ks : List Nat, (∀ j, j < 1000000 → ks.contains j = false) ∧ ∀ i, i < 1000000 → i ≠ d → τ i = F2 ks (E3 d (σ i))
theorem Oth.dd {σ τ : St} {d i : Nat} {y : D} (h : Oth σ τ d) (hi : i < 1000000) (hid : i ≠ d) (hy : σ i = .d y) : τ i = .d y := by
  obtain ⟨ks, _, h2⟩ := h; rw [h2 i hi hid, hy]; rfl
theorem Oth.bx {σ τ : St} {d i : Nat} {y : D} (h : Oth σ τ d) (hi : i < 1000000) (hid : i ≠ d) (hy : σ i = .box y) : τ i = .box y := by
  obtain ⟨ks, _, h2⟩ := h; rw [h2 i hi hid, hy]; rfl
theorem b1S {x : AV} (h : U9 x = true) (d : Nat) (ks : List Nat) : F2 ks (E3 d x) = x := by
  cases x <;> simp [U9] at h <;> rfl
theorem b4r {B n i : Nat} (hB : 1000000 ≤ B) (hi : i < 1000000) : i ∉ X2 B n := fun hm => by
  obtain ⟨j, _, hj⟩ := List.mem_map.1 hm; omega
theorem b7h {B B2 n i : Nat} (hn : n ≤ 500000) (hi : i < 500000) (h : B2 + 1000000 ≤ B ∨ B + 1000000 ≤ B2) : B2 + i ∉ X2 B n := fun hm => by
  obtain ⟨j, hj, e⟩ := List.mem_map.1 hm; have : j < n := (by simpa using hj); omega
def a7B (σ τ : St) (B : Nat) : Prop := ∀ B2 hs2, Fam σ B2 hs2 → 1000000 ≤ B2 → (B2 + 1000000 ≤ B ∨ B + 1000000 ≤ B2) → Fam τ B2 hs2
theorem a0c {f : FuncId} {σ : St} {d : Nat} {K : St → Prop} (B s : Nat) (hB : 1000000 ≤ B) (hd : d < 1000000) {R : List Chg} (hF : StF σ B s R) {ds : List D} {res : AV} (hE : Enters prog f) (h : ∀ x, StD R x → Ctr prog f (.d x :: ds.map .d) res) (hm : U9 res = true)
    (hk : ∀ τ, StF τ B s R → τ d = res → Oth σ τ d → a7B σ τ B → K τ) : a3n prog f (.d (.raw (va s)) :: ds.map .d) σ d K := by
  obtain ⟨hR, r, m, E, hEE, hFam⟩ := hF; have hlen := hFam.2.1; refine c3Z (X2 B (stH s r m R E).length) (fun k hk => by obtain ⟨j, _, rfl⟩ := List.mem_map.1 hk; omega) hd (a6h _ _) hFam.isH (r := res) ?_ (fun τ h1 h2 h3 => ?_)
  · rw [hFam.map]; refine G7.lendL (ds := .raw (va s) :: ds) hE (fun w L hr => ?_) hm; obtain ⟨x, hx, hln⟩ := c2b (s := s) (r := r) (m := m) hr hEE (fun x hx => hx); exact ⟨x :: ds, .cons hln (a8q ds), h x hx⟩
  · refine hk τ ⟨hR, r, m, E, hEE, hFam.1, hFam.2.1, fun i hi => ?_⟩ (by rw [h2, b1S hm]) ⟨_, fun j hj => ?_, fun i hi hid => h3 i (b4r hB hi) hid⟩ (fun B2 hs2 hF2 hB2 hBB => ⟨hF2.1, hF2.2.1, fun i hi => ?_⟩)
    · rw [h1 _ (List.mem_map.2 ⟨i, by simpa using hi, rfl⟩)]; exact hFam.2.2 i hi
    · have := b4r (n := (stH s r m R E).length) hB hj; simp [this]
    · have h4 := hF2.2.1; have hH2 := List.all_eq_true.1 hF2.1 _ (gmm hi); rw [h3 _ (b7h hlen (by omega) hBB) (by omega), hF2.2.2 i hi, a3j hH2, a2A hH2]
theorem c5a {σ : St} {d : Nat} {K : St → Prop} (B : Nat) (hB : 1000000 ≤ B) (hd : d < 1000000)
    (hk : ∀ s τ, StF τ B s [] → τ d = .d (.raw (va s)) → Oth σ τ d → a7B σ τ B → K τ) : a3n prog 11 [] σ d K := by
  refine ⟨[], B, _, by simp, by simp, b8F, fun x hs' hp => ?_⟩; obtain ⟨s, r, m, rfl, hh⟩ := hp; have hh2 : hs' = [.hb (va s) 65 (.agg [.raw (.map (some r)), .raw (.map (some m))]), .hm (.map (some r)) 35 (Q6 []) none, .hm (.map (some m)) 9 (R4 []) none] := hh; have hH : ∀ x ∈ hs', isH x = true := fun x hx => by rw [hh] at hx; exact List.all_eq_true.1 (a8t s r m [] []) x hx
  have hlen : hs'.length = 3 := by rw [hh2]; rfl
  have hput : ∀ i, i ∉ Z5 [] B 3 → C9 (put (B8 σ []) d (.d (.raw (va s)))) [] B hs' i = F2 (Z5 [] B 3) (put σ d (.d (.raw (va s))) i) := fun i hi => by
    have := Y6 hs' [] (put (B8 σ []) d (.d (.raw (va s)))) B i (by rw [hlen]; exact hi); rw [hlen] at this; exact this
  have hL : ∀ k ∈ Z5 [] B 3, B ≤ k ∧ k < B + 3 := fun k hk => by
    rcases a2t _ _ _ _ hk with h | h
    · simp at h
    · exact h
  refine hk s _ ⟨a9u, r, m, [], rfl, a8t _ _ _ _ _, by simp [a8z], fun i hi => ?_⟩ ?_ ⟨Z5 [] B 3, fun j hj => ?_, fun i hi hid => ?_⟩ (fun B2 hs2 hF2 hB2 hBB => ⟨hF2.1, hF2.2.1, fun i hi => ?_⟩)
  · have := a8j hs' (put (B8 σ []) d (.d (.raw (va s)))) B hH i (by rw [hh]; exact hi); rw [this]; simp only [hh]
  · rw [hput d (fun hm => by have := hL d hm; omega)]; simp only [put, if_true]; rfl
  · rw [Bool.eq_false_iff]; intro hc; have := hL j (by simpa using hc); omega
  · rw [hput i (fun hm => by have := hL i hm; omega)]; simp only [put, if_neg hid]
  · have h4 := hF2.2.1; have hH2 := List.all_eq_true.1 hF2.1 _ (gmm hi); rw [hput _ (fun hm => by have := hL _ hm; omega)]; simp only [put, if_neg (show ¬ B2 + i = d by omega)]; rw [hF2.2.2 i hi, a3j hH2, a2A hH2]
def idS (n : UInt8) : Str := [48, 48, 48, 48, 48, 48, 48, 48, 48, 48, n, 45, 48, 48, 48, 48, 48, 48, 48, 48, 45, 48]
def nxS : Str := [99, 110, 61, 120, 44, 111, 61, 97, 99, 109, 101]
def nyS : Str := [99, 110, 61, 121, 44, 111, 117, 61, 115, 44, 111, 61, 97, 99, 109, 101]
def alL : List Chg := [atC 2 1 (idS 50) nxS [], atC 1 1 (idS 49) nxS [], atC 5 4 (idS 49) [] [109], atC 4 5 (idS 49) [] [109], atC 6 1 (idS 54) nyS []]
theorem c5b : Q1 (1, 0, 0) = idS 49 := by kernel_rfl
theorem c5W : Q1 (2, 0, 0) = idS 50 := by kernel_rfl
theorem c4V : Q1 (6, 0, 0) = idS 54 := by kernel_rfl
theorem c8I : ofE [] alL = 0 := by kernel_rfl
theorem d2d : ofR [] alL = alL := by kernel_rfl
def al2 : List Chg := alL ++ [atC 3 2 (idS 49) [] []]
theorem d0N : R3 alL (atC 3 2 (idS 49) [] []) = 0 := by kernel_rfl
theorem c8D : N0 alL (atC 3 2 (idS 49) [] []) = al2 := by kernel_rfl
theorem c6i : a2I alL = [idS 50, idS 49, idS 54] := by kernel_rfl
theorem b5n {l m : List Str} (hm : SS m) (hp : m.Perm l) : I3 l = m := by
  have h1 : (I3 l).Pairwise fun x y => ¬ y < x := a7G l
  have h2 : m.Pairwise fun x y => ¬ y < x := hm.imp fun h h' => List.lt_irrefl _ (List.lt_trans h h')
  have h3 : (I3 l).Perm m := (List.mergeSort_perm _ _).trans hp.symm; exact h3.eq_of_pairwise (fun a b _ _ h4 h5 => a2O h5 h4) h1 h2
theorem a3N : B4 alL = [idS 49, idS 50, idS 54] := by
  unfold B4; rw [c6i]; exact b5n (by unfold SS; decide) (List.Perm.swap _ _ _)
theorem c3U : M8 alL [idS 49, idS 50, idS 54] = [(nxS, idS 49), (nyS, idS 54)] := by kernel_rfl
theorem b3B (id : Str) : S5 alL id = decide (I2 [(nxS, idS 49), (nyS, idS 54)] (H4 alL id) = some id) := by unfold S5; rw [a3N, c3U]
theorem c3z : a2W alL = [idS 50] := by
  unfold a2W; rw [a3N]; simp only [b3B]
  kernel_rfl
theorem c4q : V6 alL (idS 49) = [(a2Q, [[109]])] := by
  kernel_rfl
def nx2 : Str := [99, 110, 61, 120, 35] ++ idS 50 ++ [44, 111, 61, 97, 99, 109, 101]
theorem b7C (id : Str) : F0 alL id = if decide (I2 [(nxS, idS 49), (nyS, idS 54)] (H4 alL id) = some id) then H4 alL id else a9r (H4 alL id) id := by unfold F0; rw [b3B]
theorem b3u : F0 alL (idS 49) = nxS := by rw [b7C]; kernel_rfl
theorem b3l : F0 alL (idS 50) = nx2 := by rw [b7C]; kernel_rfl
theorem b6T : F0 alL (idS 54) = nyS := by rw [b7C]; kernel_rfl
theorem c6P : K2 alL (idS 49) = ((nxS, [(a2Q, [[109]])]), true) := by
  unfold K2; rw [if_pos (by rw [a3N]; simp), b3u, c4q]
theorem c2a : V6 alL (idS 50) = [] := by kernel_rfl
theorem c7z : K2 alL (idS 50) = ((nx2, []), true) := by
  unfold K2; rw [if_pos (by rw [a3N]; simp), b3l, c2a]
theorem c5M : J4 alL = [idS 49, idS 50, idS 54] := by
  unfold J4; rw [a3N]; have hn : [idS 49, idS 50, idS 54].Nodup := (by decide); refine c0b (key := F0 alL) (a9k hn) ?_ (Z0 (a9d _) _).1; unfold KS; have h1 : cfK (F0 alL) (idS 49) (idS 50) = -1 := by
    unfold cfK; rw [b3u, b3l]; kernel_rfl
  have h2 : cfK (F0 alL) (idS 49) (idS 54) = -1 := by
    unfold cfK; rw [b3u, b6T]; kernel_rfl
  have h3 : cfK (F0 alL) (idS 50) (idS 54) = -1 := by
    unfold cfK; rw [b3l, b6T]; kernel_rfl
  simp [h1, h2, h3]
theorem c0Y : (V1 alL [idS 49, idS 50, idS 54]).2 = [idS 54] := by
  simp only [V1, List.foldl_cons, List.foldl_nil, a3V, b8u, a2v, b3u, b3l, b6T]
  kernel_rfl
theorem c4B : (a2U alL).length = 1 := by
  unfold a2U I3; rw [List.length_mergeSort, c5M, c0Y]; rfl
theorem c4j : a2I al2 = [idS 50, idS 54] := by kernel_rfl
theorem a6r : B4 al2 = [idS 50, idS 54] := by
  unfold B4; rw [c4j]; exact b5n (by unfold SS; decide) (List.Perm.refl _)
theorem c3Q : M8 al2 [idS 50, idS 54] = [(nxS, idS 50), (nyS, idS 54)] := by kernel_rfl
theorem b2C (id : Str) : S5 al2 id = decide (I2 [(nxS, idS 50), (nyS, idS 54)] (H4 al2 id) = some id) := by unfold S5; rw [a6r, c3Q]
theorem c0P : a2W al2 = [] := by
  unfold a2W; rw [a6r]; simp only [b2C]
  kernel_rfl
theorem c5D : F0 al2 (idS 50) = nxS := by unfold F0; rw [b2C]; kernel_rfl
theorem c2K : a0N al2 nxS = (idS 50, true) := by
  unfold a0N; rw [a6r, List.find?_cons_of_pos (by rw [c5D]; simp)]
theorem c1v : (a2K al2).length = 2 := by
  unfold a2K; rw [List.length_map, a9l, a6r]; rfl
theorem a8U {a b : Chg} (ha : opC a = 0 ∨ G2 (opC a) = true) (hb : G2 (opC b) = true) : G2 (opC (J9 a b)) = true := by
  unfold J9; split
  · exact hb
  · rename_i h
    rcases ha with h1 | h1
    · exact absurd (.inl h1) h
    · exact h1
theorem b9g (R : List Chg) (id : Str) : (opC (abF R id).nm = 0 ∨ G2 (opC (abF R id).nm) = true) ∧ ((abF R id).cr = true → G2 (opC (abF R id).nm) = true) := by
  refine T5 (P := fun R => (opC (abF R id).nm = 0 ∨ G2 (opC (abF R id).nm) = true) ∧ ((abF R id).cr = true → G2 (opC (abF R id).nm) = true)) ⟨.inl rfl, by simp [abF, Q3]⟩ (fun R c ih => ?_) R; rw [Z3]; split
  · unfold N4; split
    · rename_i h
      have := a8U (b := c) ih.1 (by simp [G2, h]); exact ⟨.inr this, fun _ => this⟩
    · split
      · rename_i h
        have := a8U (b := c) ih.1 (by simp [G2, h]); exact ⟨.inr this, fun _ => this⟩
      · split
        · exact ih
        · exact ih
  · exact ih
theorem c2v (R : List Chg) (id : Str) : (abF R id).vs.length ≤ R.length ∧ ∀ p ∈ (abF R id).vs, ∃ c ∈ R, p.1 = W8 c := by
  refine T5 (P := fun R => (abF R id).vs.length ≤ R.length ∧ ∀ p ∈ (abF R id).vs, ∃ c ∈ R, p.1 = W8 c) ⟨by simp [abF, Q3], by simp [abF, Q3]⟩ (fun R c ih => ?_) R; have h0 : (abF R id).vs.length ≤ (R ++ [c]).length ∧ ∀ p ∈ (abF R id).vs, ∃ x ∈ R ++ [c], p.1 = W8 x := by
    refine ⟨by have := ih.1; simp; omega, fun p hp => ?_⟩; obtain ⟨x, hx, e⟩ := ih.2 p hp; exact ⟨x, by simp [hx], e⟩
  rw [Z3]; split
  · unfold N4; split
    · exact h0
    · split
      · exact h0
      · split
        · exact h0
        · simp only; unfold a2m; split
          · refine ⟨by simpa using h0.1, fun p hp => ?_⟩; obtain ⟨q, hq, e⟩ := List.mem_map.1 hp; obtain ⟨x, hx, e2⟩ := h0.2 q hq; refine ⟨x, hx, ?_⟩; rw [← e, ← e2]; split <;> rfl
          · refine ⟨by have := ih.1; simp; omega, fun p hp => ?_⟩; rcases List.mem_append.1 hp with hp | hp
            · exact h0.2 p hp
            · rw [List.mem_singleton.1 hp]; exact ⟨c, by simp, rfl⟩
  · exact h0
theorem a5P {R : List Chg} (h : a8h R) : a0O R := by
  refine ⟨by have := b4m R; have := h.few; omega, fun id hid => ?_, fun id => ?_⟩
  · obtain ⟨⟨c, hc, rfl⟩, hl⟩ := a1T.1 hid; have hcr : (abF R (idC c)).cr = true := by
      simp only [a1r, Bool.and_eq_true] at hl; exact hl.1
    have hn := (b9g R (idC c)).2 hcr; obtain ⟨h1, _⟩ := b4x R (idC c); have hm : (abF R (idC c)).nm ∈ R := by
      rcases h1 with h1 | h1
      · exact h1
      · rw [h1] at hn; exact absurd hn (by decide)
    have ho := a0k.1 (h.ok _ hc); have hon := a0k.1 (h.ok _ hm); obtain ⟨h3, h4⟩ := b4j (c := (a0y (idC c)).1) (s := idC c) (by rw [← ho.id]); have hidl : List.length (idC c) = 22 := by rw [← h3, a8T h4]
    have hb := hon.name; unfold H8 at hb; have hn' : G2 (abF R (idC c)).nm.2.1 = true := hn; simp only [hn', Bool.true_and, Bool.or_eq_false_iff, decide_eq_false_iff_not, Bool.not_eq_false'] at hb; obtain ⟨l, hl2⟩ := a5Z.1 hb.1.2; have hpl : (E0 (H4 R (idC c))).1 = l := by
      have h6 := hl2; unfold L4 at h6; split at h6
      · exact Option.some.inj h6
      · cases h6
    refine ⟨?_, (h.fit _ hm).name, by omega, fun e => by rw [e] at hidl; simp at hidl⟩; rw [hpl]; intro e; exact hb.1.1 ((c3w hl2).2 e)
  · obtain ⟨h1, h2⟩ := c2v R id; refine ⟨by have := h.few; omega, fun p hp => ?_⟩; obtain ⟨c, hc, e⟩ := h2 p hp; rw [e]; exact ⟨(h.fit c hc).attr, (h.fit c hc).value⟩
theorem b1k (a b : Chg) : ltM a b = true ↔ W6 a.1 b.1 < 0 ∨ (a.1 = b.1 ∧ (J6 a).1 < (J6 b).1) := by
  unfold ltM orI orI orI; rw [decide_eq_true_eq]; by_cases h : W6 a.1 b.1 = 0
  · rw [if_neg (by simpa using h)]; have h1 := a3c.1 h; by_cases h2 : a0e (J6 a).1 (J6 b).1 = 0
    · rw [if_neg (by simpa using h2)]; have h3 := b2s.1 h2; rw [h3]; have : ¬ (J6 b).1 < (J6 b).1 := List.lt_irrefl _; simp [this, h]
    · rw [if_pos h2, b4C]; exact ⟨fun h3 => .inr ⟨h1, h3⟩, fun h3 => h3.elim (fun h4 => by omega) (·.2)⟩
  · rw [if_pos h]; have : a.1 ≠ b.1 := fun e => h (a3c.2 e)
    simp [this]
theorem b6G (a : Chg) : ltM a a = false := by
  rw [Bool.eq_false_iff, ne_eq, b1k]; rintro (h | ⟨_, h⟩)
  · rw [a3c.2 rfl] at h; omega
  · exact List.lt_irrefl _ h
theorem b9S {a b c : Chg} (h1 : ltM a b = true) (h2 : ltM b c = true) : ltM a c = true := by
  rw [b1k] at *; rcases h1 with h1 | ⟨h1, h3⟩ <;> rcases h2 with h2 | ⟨h2, h4⟩
  · exact .inl (b8k h1 h2)
  · rw [h2] at h1; exact .inl h1
  · rw [← h1] at h2; exact .inl h2
  · exact .inr ⟨h1.trans h2, List.lt_trans h3 h4⟩
theorem b8i {c : Chg} (h : H7 c = 0) : opC c ≠ 0 := by
  have := (a0k.1 h).op1
  show c.2.1 ≠ 0
  omega
def a1y (L : List Chg) : Chg := L.foldl J9 I0
theorem b2q (L : List Chg) (c : Chg) : a1y (L ++ [c]) = J9 (a1y L) c := by simp [a1y]
theorem c0C {L : List Chg} (h : ∀ c ∈ L, H7 c = 0) : (L = [] ∧ a1y L = I0) ∨ (a1y L ∈ L ∧ ∀ c ∈ L, ltM (a1y L) c = false) := by
  have key : ∀ L : List Chg, (∀ c ∈ L, H7 c = 0) → (L = [] ∧ a1y L = I0) ∨ (a1y L ∈ L ∧ ∀ c ∈ L, ltM (a1y L) c = false) := fun L => by
    refine T5 (P := fun L => (∀ c ∈ L, H7 c = 0) → (L = [] ∧ a1y L = I0) ∨ (a1y L ∈ L ∧ ∀ c ∈ L, ltM (a1y L) c = false)) (fun _ => .inl ⟨rfl, rfl⟩) (fun L c ih h => ?_) L; have hc := h c (by simp); refine .inr ?_; rw [b2q]; rcases ih (fun x hx => h x (by simp [hx])) with ⟨rfl, e⟩ | ⟨h1, h2⟩
    · rw [e]; have : J9 I0 c = c := by unfold J9; rw [if_pos (.inl rfl)]
      rw [this]; refine ⟨by simp, fun x hx => ?_⟩; simp only [List.nil_append, List.mem_singleton] at hx; rw [hx, b6G]
    · have hm := h _ (List.mem_append.2 (.inl h1)); unfold J9; by_cases hlt : ltM (a1y L) c = true
      · rw [if_pos (.inr ⟨b8i hc, hlt⟩)]; refine ⟨by simp, fun x hx => ?_⟩; rcases List.mem_append.1 hx with hx | hx
        · rw [Bool.eq_false_iff]; intro hq; have := b9S hlt hq; rw [h2 x hx] at this; cases this
        · rw [List.mem_singleton.1 hx, b6G]
      · rw [if_neg (by
          rintro (h5 | ⟨_, h5⟩)
          · exact b8i hm h5
          · exact hlt h5)]
        refine ⟨by simp [h1], fun x hx => ?_⟩; rcases List.mem_append.1 hx with hx | hx
        · exact h2 x hx
        · rw [List.mem_singleton.1 hx]; simpa using hlt
  exact key L h
def a0C (R : List Chg) (id : Str) (k : VK) : List Chg := R.filter fun c => decide (idC c = id) && (E9 (opC c) && decide (W8 c = k))
theorem b4c {c : Chg} (h : H7 c = 0) : opC c = 1 ∨ opC c = 2 ∨ opC c = 3 ∨ opC c = 4 ∨ opC c = 5 := by
  have h1 := (a0k.1 h).op1; have h2 := (a0k.1 h).op5
  show c.2.1 = 1 ∨ c.2.1 = 2 ∨ c.2.1 = 3 ∨ c.2.1 = 4 ∨ c.2.1 = 5
  omega
theorem c5V (R : List Chg) (id : Str) : (abF R id).rm = R.any fun c => decide (idC c = id) && decide (opC c = 2) := by
  refine T5 (P := fun R => (abF R id).rm = R.any fun c => decide (idC c = id) && decide (opC c = 2)) rfl (fun R c ih => ?_) R; rw [Z3, List.any_append, ← ih]; by_cases h : idC c = id
  · rw [if_pos h]; unfold N4; by_cases h1 : opC c = 1
    · simp [h, h1]
    · by_cases h3 : opC c = 3
      · simp [h, h3]
      · by_cases h2 : opC c = 2
        · simp [h, h2]
        · simp [h, h1, h2, h3]
  · rw [if_neg h]; simp [h]
theorem a6u (vs : List (VK × Chg)) (k k' : VK) (c : Chg) : a0a (a2m vs k c) k' = if k = k' then some c else a0a vs k' := by
  unfold a0a a2m; by_cases ha : vs.any (fun p => decide (p.1 = k)) = true
  · rw [if_pos ha]; have key : ∀ vs : List (VK × Chg), ((vs.map fun p => if p.1 = k then (p.1, c) else p).find? fun p => decide (p.1 = k')) = (vs.find? fun p => decide (p.1 = k')).map fun p => if p.1 = k then (p.1, c) else p := by
      intro vs
      induction vs with
      | nil => rfl
      | cons p vs ih =>
        rw [List.map_cons, List.find?_cons, List.find?_cons]; by_cases h : p.1 = k
        · rw [if_pos h]; by_cases h2 : p.1 = k'
          · simp only [decide_eq_true h2, Option.map_some, if_pos h]
          · simp only [decide_eq_false h2]; exact ih
        · rw [if_neg h]; by_cases h2 : p.1 = k'
          · simp only [decide_eq_true h2, Option.map_some, if_neg h]
          · simp only [decide_eq_false h2]; exact ih
    rw [key]; by_cases h : k = k'
    · rw [if_pos h]; obtain ⟨p, hp, e⟩ := List.any_eq_true.1 ha; cases hf : vs.find? fun p => decide (p.1 = k') with
      | none => exact absurd (by rw [← h]; exact e) (List.find?_eq_none.1 hf p hp)
      | some q =>
        have : q.1 = k' := by simpa using List.find?_some hf
        simp [this, h]
    · rw [if_neg h]; cases hf : vs.find? fun p => decide (p.1 = k') with
      | none => rfl
      | some q =>
        have hq : q.1 = k' := by simpa using List.find?_some hf
        have : ¬ q.1 = k := fun e => h (e.symm.trans hq)
        simp [this]
  · rw [if_neg ha, List.find?_append]; by_cases h : k = k'
    · subst h; rw [if_pos rfl]; have : vs.find? (fun p => decide (p.1 = k)) = none := by
        rw [List.find?_eq_none]; intro p hp hq; exact ha (List.any_eq_true.2 ⟨p, hp, hq⟩)
      simp [this]
    · rw [if_neg h]; have : List.find? (fun p : VK × Chg => decide (p.1 = k')) [(k, c)] = none := by simp [h]
      simp [this]
theorem c5m {R : List Chg} (hR : ∀ c ∈ R, H7 c = 0) (id : Str) (k : VK) : a0a (abF R id).vs k = if a0C R id k = [] then none else some (a1y (a0C R id k)) := by
  have key : ∀ R : List Chg, (∀ c ∈ R, H7 c = 0) → a0a (abF R id).vs k = if a0C R id k = [] then none else some (a1y (a0C R id k)) := fun R => by
    refine T5 (P := fun R => (∀ c ∈ R, H7 c = 0) → a0a (abF R id).vs k = if a0C R id k = [] then none else some (a1y (a0C R id k))) (fun _ => rfl) (fun R c ih h => ?_) R; have ih := ih fun x hx => h x (by simp [hx])
    have hc := h c (by simp); rw [Z3]; have hsn : a0C (R ++ [c]) id k = a0C R id k ++ (if idC c = id ∧ (E9 (opC c) = true ∧ W8 c = k) then [c] else []) := by
      unfold a0C; rw [List.filter_append]; congr 1
      by_cases h1 : idC c = id <;> by_cases h2 : E9 (opC c) = true <;> by_cases h3 : W8 c = k <;> simp [h1, h2, h3]
    by_cases hid : idC c = id
    · rw [if_pos hid]; have hops := b4c hc; unfold N4; by_cases h1 : opC c = 1
      · rw [if_neg (by simp [E9, h1]), List.append_nil] at hsn; rw [if_pos h1, hsn]; exact ih
      · rw [if_neg h1]; by_cases h3 : opC c = 3
        · rw [if_neg (by simp [E9, h3]), List.append_nil] at hsn; rw [if_pos h3, hsn]; exact ih
        · rw [if_neg h3]; by_cases h2 : opC c = 2
          · rw [if_neg (by simp [E9, h2]), List.append_nil] at hsn; rw [if_pos h2, hsn]; exact ih
          · rw [if_neg h2]; have hv : E9 (opC c) = true := by simp only [E9, Bool.or_eq_true, decide_eq_true_eq]; omega
            simp only [a6u]; by_cases hk : W8 c = k
            · rw [if_pos ⟨hid, hv, hk⟩] at hsn; rw [if_pos hk, hsn, if_neg (by simp), b2q]; congr 1
              unfold S2; rw [hk, ih]; split
              · rename_i e; rw [e]; rfl
              · rfl
            · rw [if_neg (by simp [hk]), List.append_nil] at hsn; rw [if_neg hk, hsn]; exact ih
    · rw [if_neg (by simp [hid]), List.append_nil] at hsn; rw [if_neg hid, hsn]; exact ih
  exact key R hR
structure AbE (a b : Abt) : Prop where
  cr : a.cr = b.cr
  rm : a.rm = b.rm
  nm : a.nm = b.nm
  vs : List.Perm a.vs b.vs
theorem a6L {vs : List (VK × Chg)} (hn : (vs.map (·.1)).Nodup) {k : VK} {c : Chg} : a0a vs k = some c ↔ (k, c) ∈ vs := by
  unfold a0a; constructor
  · intro h; cases hf : vs.find? fun p => decide (p.1 = k) with
    | none => rw [hf] at h; cases h
    | some q =>
      rw [hf] at h; have hq : q.1 = k := by simpa using List.find?_some hf
      simp only [Option.map_some, Option.some.injEq] at h; have := List.mem_of_find?_eq_some hf; rw [← hq, ← h]; exact this
  · intro h; cases hf : vs.find? fun p => decide (p.1 = k) with
    | none => exact absurd (by simp) (List.find?_eq_none.1 hf _ h)
    | some q =>
      have hq : q.1 = k := by simpa using List.find?_some hf
      have := c5P hn (List.mem_of_find?_eq_some hf) h hq; rw [this]; rfl
theorem c0v {σ : St} {d B : Nat} {r : AV} {hs : List AV} (hB : 1000000 ≤ B) (hd : d < 1000000) (hH : hs.all isH = true) (hl : hs.length ≤ 500000) (hm : U9 r = true) {τ : St} (hτ : τ = C9 (put (B8 σ []) d r) [] B hs) :
    Fam τ B hs ∧ τ d = r ∧ Oth σ τ d ∧ a7B σ τ B := by
  have hH' : ∀ x ∈ hs, isH x = true := fun x hx => List.all_eq_true.1 hH x hx
  have hput : ∀ i, i ∉ Z5 [] B hs.length → τ i = F2 (Z5 [] B hs.length) (put σ d r i) := fun i hi => by
    rw [hτ]; exact Y6 hs [] (put (B8 σ []) d r) B i hi
  have hL : ∀ k ∈ Z5 [] B hs.length, B ≤ k ∧ k < B + hs.length := fun k hk => by
    rcases a2t _ _ _ _ hk with h | h
    · simp at h
    · exact h
  refine ⟨⟨hH, hl, fun i hi => ?_⟩, ?_, ⟨Z5 [] B hs.length, fun j hj => ?_, fun i hi hid => ?_⟩, (fun B2 hs2 hF2 hB2 hBB => ⟨hF2.1, hF2.2.1, fun i hi => ?_⟩)⟩
  · rw [hτ]; exact a8j hs (put (B8 σ []) d r) B hH' i hi
  · rw [hput d (fun hm => by have := hL d hm; omega)]; simp only [put, if_true]; exact b1S hm d _
  · rw [Bool.eq_false_iff]; intro hc; have := hL j (by simpa using hc); omega
  · rw [hput i (fun hm => by have := hL i hm; omega)]; simp only [put, if_neg hid]
  · have h4 := hF2.2.1; have hH2 := List.all_eq_true.1 hF2.1 _ (gmm hi); rw [hput _ (fun hm => by have := hL _ hm; omega)]; simp only [put, if_neg (show ¬ B2 + i = d by omega)]; rw [hF2.2.2 i hi, a3j hH2, a2A hH2]
theorem c3B {l : List Chg} (hf : ∀ c ∈ l, Q7 c) : ∀ {R : List Chg}, a8h R → a8h (ofR R l) := by
  induction l with
  | nil => intro R h; exact h
  | cons c l ih =>
    intro R h; exact ih (fun x hx => hf x (by simp [hx])) (a5O h (hf c (by simp)))
theorem c7M {σ : St} {d : Nat} {K : St → Prop} (B : Nat) (hB : 1000000 ≤ B) (hd : d < 1000000) {l : List Chg} (hl : l.length < 100000) (hf : ∀ c ∈ l, Q7 c) (h0 : ofE [] l = 0)
    (hk : ∀ s τ, StF τ B s (ofR [] l) → τ d = .tup [.d (.raw (va s)), .d (.int .i64 0)] → Oth σ τ d → a7B σ τ B → K τ) : a3n prog 17 [.d (G0 l)] σ d K := by
  refine ⟨[], B, _, by simp, by simp, c7i l hl hf, fun x hs' hp => ?_⟩; rcases hp with ⟨h1, _⟩ | ⟨_, s, r, m, E, rfl, hE, rfl⟩
  · exact absurd h0 h1
  · have hR := c3B hf a9u; obtain ⟨f1, f2, f3, f4⟩ := c0v (σ := σ) (d := d) (r := .tup [.d (.raw (va s)), .d (.int .i64 0)]) hB hd (a8t s r m (ofR [] l) E) (b3P hR hE) rfl rfl; exact hk s _ ⟨hR, r, m, E, hE, f1⟩ f2 f3 f4
theorem b4i {σ : St} {d : Nat} {K : St → Prop} (B s : Nat) (hB : 1000000 ≤ B) (hd : d < 1000000) {R : List Chg} {c : Chg} (hF : StF σ B s R) (hc : Q7 c)
    (hk : ∀ τ, StF τ B s (N0 R c) → τ d = .d (.int .i64 (R3 R c)) → Oth σ τ d → a7B σ τ B → K τ) : a3n prog 13 [.d (.raw (va s)), .d (A8 c)] σ d K :=
  b3N B s hB hd hF hc fun τ ks h1 h2 h3 h4 h5 => hk τ h1 h2 ⟨ks, h3, h4⟩ h5
theorem b5d (l : List Str) : a0K (l.map .str) = true := by
  induction l with
  | nil => rfl
  | cons s l ih => simp [a0K, a2j, ih]
theorem c1t (l : List Att) : a0K (l.map att) = true := by
  induction l with
  | nil => rfl
  | cons s l ih =>
    simp only [List.map_cons, a0K, ih, Bool.and_true]; simp [att, a2j, a0K, B9, b5d]
theorem b6C (s : Str) (a : List Att) : a2j (a1S s a) = true := by simp [a1S, a2j, a0K, G6, c1t]
theorem c1S (l : List (Str × List Att)) : a0K (l.map a2E) = true := by
  induction l with
  | nil => rfl
  | cons s l ih => simp [a0K, ih, a2E, b6C]
theorem a4w (s : Str) (a : List Att) (b : Bool) : U9 (.tup [.d (a1S s a), .d (.bool b)]) = true := by simp [U9, a7b, b6C, a2j]
theorem c5l : ∀ c ∈ alL, Q7 c := by
  have h : (alL.all fun c => decide (List.length c.2.2.1 < 900000) && (decide (List.length c.2.2.2.1 < 900000) && (decide (List.length c.2.2.2.2.1 < 900000) && decide (List.length c.2.2.2.2.2 < 900000)))) = true := by kernel_rfl
  intro c hc; have := List.all_eq_true.1 h c hc; simp only [Bool.and_eq_true, decide_eq_true_eq] at this; exact ⟨this.1, this.2.1, this.2.2.1, this.2.2.2⟩
theorem c1d : Ctr prog 10 [] (.d (.bool true)) := by
  have g1 := a4H (1, 0, 0); have g2 := a4H (2, 0, 0); have g6 := a4H (6, 0, 0); rw [c5b] at g1; rw [c5W] at g2; rw [c4V] at g6; have k1 := a8u 2 1 (idS 50) nxS []; have k2 := a8u 1 1 (idS 49) nxS []; have k3 := a8u 5 4 (idS 49) [] [109]; have k4 := a8u 4 5 (idS 49) [] [109]; have k5 := a8u 6 1 (idS 54) nyS []; have k6 := a8u 3 2 (idS 49) [] []; have hal : G0 alL = .sl [A8 (atC 2 1 (idS 50) nxS []), A8 (atC 1 1 (idS 49) nxS []), A8 (atC 5 4 (idS 49) [] [109]), A8 (atC 4 5 (idS 49) [] [109]), A8 (atC 6 1 (idS 54) nyS [])] := rfl; have hw : ∀ c, B1 (A8 c) = 8 := fun _ => rfl
  have hcs : ∀ t : Int, B5 (t, 0, 0) = .agg [.int .i64 t, .int .i64 0, .int .i64 0] := fun _ => rfl
  simp only [hcs] at g1 g2 g6; refine fv (fun i => i == 5000031 || i == 5000043 || i == 5000049 || i == 5000087 || i == 5000093 || i == 5000104 || i == 5000113 || i == 5000116 || i == 5000131 || i == 5000137) func10 (by kernel_rfl) rfl rfl rfl rfl rfl ?_; generalize atC 2 1 (idS 50) nxS [] = C1 at *; generalize atC 1 1 (idS 49) nxS [] = C2 at *; generalize atC 5 4 (idS 49) [] [109] = C3 at *; generalize atC 4 5 (idS 49) [] [109] = C4 at *; generalize atC 6 1 (idS 54) nyS [] = C5 at *; generalize hi1 : idS 49 = i1 at *; generalize hi2 : idS 50 = i2 at *; generalize hi6 : idS 54 = i6 at *; simp only [nxS, nyS] at k1 k2 k3 k4 k5 k6; simp -implicitDefEqProofs; refine A1 g1 ?_; simp -implicitDefEqProofs; refine A1 g2 ?_; simp -implicitDefEqProofs; refine A1 k1 ?_; simp -implicitDefEqProofs; refine A1 k2 ?_; simp -implicitDefEqProofs; refine A1 k3 ?_; simp -implicitDefEqProofs; refine A1 k4 ?_; simp -implicitDefEqProofs; refine A1 g6 ?_; simp -implicitDefEqProofs; refine A1 k5 ?_; simp -implicitDefEqProofs [hw]; refine ⟨by decide, ?_⟩; rw [← hal]; refine c7M 1000000 (Nat.le_refl _) (by omega) (by decide) c5l c8I (fun s τ1 hF1 f1 o1 _ => ?_); rw [d2d] at hF1; have t11 : τ1 1 = .d (.str i1) := o1.dd (by omega) (by omega) (by simp); have t12 : τ1 2 = .d (.str i2) := o1.dd (by omega) (by omega) (by simp); have hG := a5P hF1.1; have nxe : nxS = [99, 110, 61, 120, 44, 111, 61, 97, 99, 109, 101] := rfl; have me : a2Q = [109, 97, 105, 108] := rfl; have n2e : nx2 = 99 :: 110 :: 61 :: 120 :: 35 :: (i2 ++ [44, 111, 61, 97, 99, 109, 101]) := by rw [← hi2]; rfl
  have hl2 : List.length i2 = 22 := by rw [← hi2]; rfl
  have hE1 := c6P; have hE2 := c7z; rw [hi1] at hE1; rw [hi2] at hE2; have en : ∀ id x, StD alL x → _ := fun id x hx => a9o alL x id hx hG
  have enE := enters_of func21 (by kernel_rfl) rfl; simp -implicitDefEqProofs [f1, t11, t12]; refine a0c (ds := [.str i1]) 1000000 s (Nat.le_refl _) (by omega) (by (repeat (first | exact hF1 | refine StF.put ?_ (by omega) | refine StF.setv ?_ (by omega) | refine StF.clean ?_ _))) enE (fun x hx => en i1 x hx) (a4w _ _ _) (fun τ2 hF2 f2 o2 _ => ?_); rw [hE1] at f2; have hd2 : a1S (nxS, [(a2Q, [[109]])]).1 (nxS, [(a2Q, [[109]])]).2 = .agg [.str nxS, .sl [.agg [.str a2Q, .sl [.str [109]]]]] := rfl; simp only [hd2] at f2; simp only [nxe, me] at f2; have t21 : τ2 1 = .d (.str i1) := o2.dd (by omega) (by omega) (by simp [t11]); have t22 : τ2 2 = .d (.str i2) := o2.dd (by omega) (by omega) (by simp [t12]); have t24 : τ2 4 = .d (.raw (va s)) := o2.dd (by omega) (by omega) (by simp); simp -implicitDefEqProofs [f2, t21, t22, t24]; refine a0c (ds := [.str i2]) 1000000 s (Nat.le_refl _) (by omega) (by (repeat (first | exact hF2 | refine StF.put ?_ (by omega) | refine StF.setv ?_ (by omega) | refine StF.clean ?_ _))) enE (fun x hx => en i2 x hx) (a4w _ _ _) (fun τ3 hF3 f3 o3 _ => ?_); rw [hE2] at f3; have hd3 : a1S nx2 [] = .agg [.str nx2, .sl []] := rfl; simp only [hd3] at f3; simp only [n2e] at f3; have t31 : τ3 1 = .d (.str i1) := o3.dd (by omega) (by omega) (by simp [t21]); have t32 : τ3 2 = .d (.str i2) := o3.dd (by omega) (by omega) (by simp [t22]); have t34 : τ3 4 = .d (.raw (va s)) := o3.dd (by omega) (by omega) (by simp [t24]); have t36 : τ3 6 = .box (.agg [.str [99, 110, 61, 120, 44, 111, 61, 97, 99, 109, 101], .sl [.agg [.str [109, 97, 105, 108], .sl [.str [109]]]]]) := o3.bx (by omega) (by omega) (by simp); have t37 : τ3 7 = .d (.bool true) := o3.dd (by omega) (by omega) (by simp); simp -implicitDefEqProofs [f3, t31, t32, t34, t36, t37, hl2]; have orp : ∀ x, StD alL x → Ctr prog 29 [.d x] (.d (.sl ((a2U alL).map .str))) := fun x hx => a5t (b8B alL x hx hG)
  have liv : ∀ x, StD alL x → Ctr prog 27 [.d x] (.d (.sl ((B4 alL).map .str))) := fun x hx => a5t (a5n alL x hx hG.lt)
  have con : ∀ x, StD alL x → Ctr prog 28 [.d x] (.d (.sl ((a2W alL).map .str))) := fun x hx => a5t (a7a alL x hx hG)
  have hol : ((a2U alL).map D.str).length = 1 := (by simp [c4B]); have hmO := b5d (a2U alL); generalize (a2U alL).map D.str = OL at *; rw [a3N, hi1, hi2, hi6] at liv; rw [c3z, hi2] at con; refine a0c (ds := []) (res := .d (.sl OL)) 1000000 s (Nat.le_refl _) (by omega) (by (repeat (first | exact hF3 | refine StF.put ?_ (by omega) | refine StF.setv ?_ (by omega) | refine StF.clean ?_ _))) (enters_of func29 (by kernel_rfl) rfl) orp hmO (fun τ4 hF4 f4 o4 _ => ?_); have t41 : τ4 1 = .d (.str i1) := o4.dd (by omega) (by omega) (by simp [t31]); have t42 : τ4 2 = .d (.str i2) := o4.dd (by omega) (by omega) (by simp [t32]); have t44 : τ4 4 = .d (.raw (va s)) := o4.dd (by omega) (by omega) (by simp [t34]); have t485 : τ4 85 = .d (.bool false) := o4.dd (by omega) (by omega) (by simp); simp -implicitDefEqProofs [f4, t41, t42, t44, t485, hol]; refine a0c (ds := []) (res := .d (B9 [i1, i2, i6])) 1000000 s (Nat.le_refl _) (by omega) (by (repeat (first | exact hF4 | refine StF.put ?_ (by omega) | refine StF.setv ?_ (by omega) | refine StF.clean ?_ _))) (enters_of func27 (by kernel_rfl) rfl) liv rfl (fun τ5 hF5 f5 o5 _ => ?_); have t51 : τ5 1 = .d (.str i1) := o5.dd (by omega) (by omega) (by simp [t41]); have t52 : τ5 2 = .d (.str i2) := o5.dd (by omega) (by omega) (by simp [t42]); have t54 : τ5 4 = .d (.raw (va s)) := o5.dd (by omega) (by omega) (by simp [t44]); have t591 : τ5 91 = .d (.bool false) := o5.dd (by omega) (by omega) (by simp); simp -implicitDefEqProofs [f5, t51, t52, t54, t591, B9]; have l1 := b0c [i1, i2, i6] [i1, i2, i6] (by simp) (by simp); have l2 := b0c [i2] [i2] (by simp) (by simp); simp only [B9, List.map_cons, List.map_nil, decide_true] at l1 l2; refine A1 g6 ?_; simp -implicitDefEqProofs [f5, t51, t52, t54, t591, B9]; refine ⟨by decide, A1 l1 ?_⟩; simp -implicitDefEqProofs [f5, t51, t52, t54, t591, B9]; refine a0c (ds := []) (res := .d (B9 [i2])) 1000000 s (Nat.le_refl _) (by omega) (by (repeat (first | exact hF5 | refine StF.put ?_ (by omega) | refine StF.setv ?_ (by omega) | refine StF.clean ?_ _))) (enters_of func28 (by kernel_rfl) rfl) con rfl (fun τ6 hF6 f6 o6 _ => ?_); have t61 : τ6 1 = .d (.str i1) := o6.dd (by omega) (by omega) (by simp [t51]); have t62 : τ6 2 = .d (.str i2) := o6.dd (by omega) (by omega) (by simp [t52]); have t64 : τ6 4 = .d (.raw (va s)) := o6.dd (by omega) (by omega) (by simp [t54]); have t602 : τ6 102 = .d (.bool false) := o6.dd (by omega) (by omega) (by simp); simp -implicitDefEqProofs [f6, t61, t62, t64, t602, B9]; refine A1 l2 ?_; simp -implicitDefEqProofs [f6, t61, t62, t64, t602, B9]; refine A1 k6 ?_; simp -implicitDefEqProofs [f6, t61, t62, t64, t602, B9]; have ha2 := d0N; have hr2 := c8D; have hfc : Q7 (atC 3 2 (idS 49) [] []) := by
    rw [hi1]; have h5 : List.length i1 = 22 := by rw [← hi1]; rfl
    exact ⟨by simp [atC]; omega, by simp [atC], by simp [atC], by simp [atC]⟩
  rw [hi1] at ha2 hr2 hfc; refine b4i 1000000 s (Nat.le_refl _) (by omega) (R := alL) (by (repeat (first | exact hF6 | refine StF.put ?_ (by omega) | refine StF.setv ?_ (by omega) | refine StF.clean ?_ _))) hfc (fun τ7 hF7 f7 o7 _ => ?_); rw [ha2] at f7; rw [hr2] at hF7; have t72 : τ7 2 = .d (.str i2) := o7.dd (by omega) (by omega) (by simp [t62]); have t74 : τ7 4 = .d (.raw (va s)) := o7.dd (by omega) (by omega) (by simp [t64]); have hG2 := a5P hF7.1; have fnd : ∀ x, StD al2 x → _ := fun x hx => b6g al2 x nxS hx hG2
  rw [c2K, hi2] at fnd; simp only [nxe] at fnd; have hen : ∀ x, StD al2 x → Ctr prog 30 [.d x] (.d (.sl ((a2K al2).map a2E))) := fun x hx => a5t (b6X al2 x hx hG2)
  have con2 : ∀ x, StD al2 x → Ctr prog 28 [.d x] (.d (.sl ((a2W al2).map .str))) := fun x hx => a5t (a7a al2 x hx hG2)
  have hel : ((a2K al2).map a2E).length = 2 := (by simp [c1v]); have hme := c1S (a2K al2); generalize (a2K al2).map a2E = EL at *; rw [c0P] at con2; simp -implicitDefEqProofs [f7, t72, t74]; refine a0c (ds := [.str [99, 110, 61, 120, 44, 111, 61, 97, 99, 109, 101]]) 1000000 s (Nat.le_refl _) (by omega) (by (repeat (first | exact hF7 | refine StF.put ?_ (by omega) | refine StF.setv ?_ (by omega) | refine StF.clean ?_ _))) (enters_of func15 (by kernel_rfl) rfl) fnd rfl (fun τ8 hF8 f8 o8 _ => ?_); have t82 : τ8 2 = .d (.str i2) := o8.dd (by omega) (by omega) (by simp [t72]); have t84 : τ8 4 = .d (.raw (va s)) := o8.dd (by omega) (by omega) (by simp [t74]); have t810 : τ8 10 = .d (.int .i64 0) := o8.dd (by omega) (by omega) (by simp); simp -implicitDefEqProofs [f8, t82, t84, t810]; refine a0c (ds := []) (res := .d (.sl EL)) 1000000 s (Nat.le_refl _) (by omega) (by (repeat (first | exact hF8 | refine StF.put ?_ (by omega) | refine StF.setv ?_ (by omega) | refine StF.clean ?_ _))) (enters_of func30 (by kernel_rfl) rfl) hen hme (fun τ9 hF9 f9 o9 _ => ?_); have t94 : τ9 4 = .d (.raw (va s)) := o9.dd (by omega) (by omega) (by simp [t84]); have t929 : τ9 129 = .d (.bool true) := o9.dd (by omega) (by omega) (by simp); simp -implicitDefEqProofs [f9, t94, t929, hel]; refine a0c (ds := []) (res := .d (.sl [])) 1000000 s (Nat.le_refl _) (by omega) (by (repeat (first | exact hF9 | refine StF.put ?_ (by omega) | refine StF.setv ?_ (by omega) | refine StF.clean ?_ _))) (enters_of func28 (by kernel_rfl) rfl) con2 rfl (fun τ10 hF10 f10 o10 _ => ?_); have tA : τ10 135 = .d (.bool true) := o10.dd (by omega) (by omega) (by simp); simp -implicitDefEqProofs [f10, tA]
theorem c3P {c : Chg} (h : smC c = true) : Q7 c := by
  simp only [smC, Bool.and_eq_true, decide_eq_true_eq] at h; exact ⟨by omega, by omega, by omega, by omega⟩
theorem b1V {l : List Chg} (h : a2i l = true) : l.length ≤ 14 ∧ ∀ c ∈ l, Q7 c := by
  simp only [a2i, Bool.and_eq_true, decide_eq_true_eq, List.all_eq_true] at h; exact ⟨h.2, fun c hc => c3P (h.1 c hc)⟩
theorem b4k {l : List Chg} : ∀ {R : List Chg}, R.length + l.length ≤ 4000 → (∀ x, x ∈ ofR R l ↔ x ∈ R ∨ (x ∈ l ∧ H7 x = 0)) ∧ (ofR R l).length ≤ R.length + l.length := by
  induction l with
  | nil => intro R _; exact ⟨fun x => by simp [ofR], by simp [ofR]⟩
  | cons c l ih =>
    intro R h; simp only [List.length_cons] at h; have hl : (N0 R c).length ≤ R.length + 1 := by
      unfold N0; split <;> simp
    have hm : ∀ x, x ∈ N0 R c ↔ x ∈ R ∨ (x = c ∧ H7 x = 0) := fun x => by
      unfold N0; split
      · rename_i hh
        simp only [List.mem_append, List.mem_singleton]; refine or_congr_right ⟨fun e => ⟨e, by rw [e]; exact hh.1⟩, fun e => e.1⟩
      · rename_i hh
        refine ⟨.inl, fun hx => hx.elim id ?_⟩; rintro ⟨rfl, h0⟩; refine Classical.byContradiction fun hn => hh ⟨h0, hn, by omega⟩
    obtain ⟨i1, i2⟩ := ih (R := N0 R c) (by omega); refine ⟨fun x => ?_, ?_⟩
    · show x ∈ ofR (N0 R c) l ↔ _
      rw [i1, hm, or_assoc]; refine or_congr_right ?_; simp only [List.mem_cons]; constructor
      · rintro (⟨h1, h2⟩ | ⟨h1, h2⟩)
        · exact ⟨.inl h1, h2⟩
        · exact ⟨.inr h1, h2⟩
      · rintro ⟨h1 | h1, h2⟩
        · exact .inl ⟨h1, h2⟩
        · exact .inr ⟨h1, h2⟩
    · show (ofR (N0 R c) l).length ≤ _
      simp only [List.length_cons]; omega
theorem b7z {R : List Chg} {c : Chg} (h : R.length < 4096) : R3 R c = H7 c := by
  unfold R3; split
  · rfl
  · rename_i h0
    have h0 : H7 c = 0 := (by simpa using h0); split
    · exact h0.symm
    · rw [if_neg (by omega)]; exact h0.symm
theorem b1a {R : List Chg} {id : Str} (h : id ∉ B4 R) : K2 R id = (([], []), false) := by unfold K2; rw [if_neg h]
theorem c4d {R : List Chg} {c : Chg} (hc : c ∈ R) (h2 : opC c = 2) : idC c ∉ B4 R := fun h => by
  obtain ⟨_, h3⟩ := a1T.1 h; have : (abF R (idC c)).rm = true := by
    rw [c5V, List.any_eq_true]; exact ⟨c, hc, by simp [h2]⟩
  simp [a1r, this] at h3
theorem b9Z (m : SM) (k v n : Str) : I2 (m ++ [(k, v)]) n = (I2 m n).or (if k = n then some v else none) := by
  unfold I2; rw [List.find?_append]; cases h : List.find? (fun p => decide (p.1 = n)) m with
  | some x => simp
  | none => by_cases hk : k = n <;> simp [hk]
theorem c1n (R : List Chg) (n : Str) (l : List Str) : I2 (M8 R l) n = l.find? fun id => decide (H4 R id = n) := by
  refine T5 (P := fun l => I2 (M8 R l) n = l.find? fun id => decide (H4 R id = n)) rfl (fun l id ih => ?_) l; rw [a8g, List.find?_append, ← ih]; split
  · rename_i h
    by_cases hn : H4 R id = n
    · rw [hn] at h; obtain ⟨x, hx⟩ := Option.isSome_iff_exists.1 h; rw [hx]; rfl
    · cases I2 (M8 R l) n <;> simp [hn]
  · rw [b9Z]; by_cases hn : H4 R id = n <;> simp [hn]
theorem c1V {R : List Chg} {id : Str} : S5 R id = true ↔ (B4 R).find? (fun x => decide (H4 R x = H4 R id)) = some id := by
  unfold S5; rw [c1n, decide_eq_true_eq]
theorem c2t {R : List Chg} {id : Str} (h : id ∈ B4 R) : ∃ x ∈ B4 R, H4 R x = H4 R id ∧ S5 R x = true := by
  cases hf : (B4 R).find? (fun x => decide (H4 R x = H4 R id)) with
  | none => exact absurd (by simp) (List.find?_eq_none.1 hf id h)
  | some x =>
    have h1 : H4 R x = H4 R id := by simpa using List.find?_some hf
    exact ⟨x, List.mem_of_find?_eq_some hf, h1, c1V.2 (by rw [h1]; exact hf)⟩
theorem c2j {R : List Chg} {id n : Str} (h : id ∈ B4 R) (hs : F0 R id = n) : ∃ x ∈ B4 R, F0 R x = n ∧ a0N R n = (x, true) := by
  unfold a0N; cases hf : (B4 R).find? (fun x => decide (F0 R x = n)) with
  | none => exact absurd (by simpa using hs) (List.find?_eq_none.1 hf id h)
  | some x => exact ⟨x, List.mem_of_find?_eq_some hf, by simpa using List.find?_some hf, rfl⟩
theorem a1o {R : List Chg} {id : Str} (h : id ∈ B4 R) : K2 R id = ((F0 R id, V6 R id), true) := by unfold K2; rw [if_pos h]
theorem b3S {a c : Chg} (ha : a = I0 ∨ W6 a.1 c.1 < 0) (hc : H7 c = 0) : J9 a c = c := by
  unfold J9; rcases ha with rfl | ha
  · rw [if_pos (.inl rfl)]
  · rw [if_pos (.inr ⟨b8i hc, (b1k a c).2 (.inl ha)⟩)]
def b0Y (R : List Chg) (c : Chg) : Prop := ∀ x ∈ R, idC x = idC c → W6 x.1 c.1 < 0
theorem b9D {R : List Chg} {c : Chg} (h : b0Y R c) : c ∉ R := fun hc => by
  have := h c hc rfl; rw [a3c.2 rfl] at this; omega
theorem b8p (R : List Chg) (id : Str) : ((abF R id).nm = I0 ∨ ((abF R id).nm ∈ R ∧ idC (abF R id).nm = id)) ∧ ∀ k, S2 (abF R id).vs k = I0 ∨ (S2 (abF R id).vs k ∈ R ∧ idC (S2 (abF R id).vs k) = id) := by
  refine T5 (P := fun R => ((abF R id).nm = I0 ∨ ((abF R id).nm ∈ R ∧ idC (abF R id).nm = id)) ∧ ∀ k, S2 (abF R id).vs k = I0 ∨ (S2 (abF R id).vs k ∈ R ∧ idC (S2 (abF R id).vs k) = id)) ⟨.inl rfl, fun k => .inl rfl⟩ (fun R c ih => ?_) R; have h0 : (abF R id).nm = I0 ∨ ((abF R id).nm ∈ R ++ [c] ∧ idC (abF R id).nm = id) := ih.1.imp (fun h => h) fun h => ⟨by simp [h.1], h.2⟩
  have h9 : ∀ k, S2 (abF R id).vs k = I0 ∨ (S2 (abF R id).vs k ∈ R ++ [c] ∧ idC (S2 (abF R id).vs k) = id) := fun k => (ih.2 k).imp (fun h => h) fun h => ⟨by simp [h.1], h.2⟩
  rw [Z3]; split
  · rename_i hid
    have hl : ∀ a, (a = I0 ∨ (a ∈ R ++ [c] ∧ idC a = id)) → (J9 a c = I0 ∨ (J9 a c ∈ R ++ [c] ∧ idC (J9 a c) = id)) := fun a ha => by
      rcases a7f a c with e | e
      · rw [e]; exact ha
      · rw [e]; exact .inr ⟨by simp, hid⟩
    unfold N4; split
    · exact ⟨hl _ h0, h9⟩
    · split
      · exact ⟨hl _ h0, h9⟩
      · split
        · exact ⟨h0, h9⟩
        · refine ⟨h0, fun k => ?_⟩; simp only [b1X]; split
          · exact hl _ (h9 _)
          · exact h9 k
  · exact ⟨h0, h9⟩
theorem b8j {R : List Chg} {c : Chg} (h : b0Y R c) (hc : H7 c = 0) : abF (R ++ [c]) (idC c) =
    if opC c = 1 then { abF R (idC c) with cr := true, nm := c } else if opC c = 3 then { abF R (idC c) with nm := c } else if opC c = 2 then { abF R (idC c) with rm := true }
    else { abF R (idC c) with vs := a2m (abF R (idC c)).vs (W8 c) c } := by
  obtain ⟨h1, h2⟩ := b8p R (idC c); have e1 := b3S (c := c) (h1.imp (fun h => h) fun q => h _ q.1 q.2) hc; have e2 := b3S (c := c) ((h2 (W8 c)).imp (fun h => h) fun q => h _ q.1 q.2) hc; rw [Z3, if_pos rfl]; unfold N4; rw [e1, e2]
theorem b3Z {vs : List (VK × Chg)} {n : Str} {w : List Str} : (n, w) ∈ X7 vs ↔ ∃ p ∈ vs, opC p.2 = 4 ∧ p.1.1 = n ∧ w = [p.1.2] := by
  unfold X7 b4W; rw [List.mem_filterMap]; constructor
  · rintro ⟨p, hp, e⟩; split at e
    · rename_i ho
      simp only [Option.some.injEq, Prod.mk.injEq] at e; exact ⟨p, hp, ho, e.1, e.2.symm⟩
    · cases e
  · rintro ⟨p, hp, ho, rfl, rfl⟩; exact ⟨p, hp, by rw [if_pos ho]⟩
theorem c3N {R : List Chg} (hR : ∀ c ∈ R, H7 c = 0) (id : Str) : ∀ p ∈ (abF R id).vs, opC p.2 = 4 → C8 p.1.1 = p.1.1 := by
  intro p hp ho; have hv : a0a (abF R id).vs p.1 = some p.2 := (a6L (a4C R id)).2 hp; rw [c5m hR] at hv; split at hv
  · cases hv
  · rename_i hne
    simp only [Option.some.injEq] at hv; have hm := c0C (L := a0C R id p.1) (fun c hc => hR c (List.mem_filter.1 hc).1); rcases hm with ⟨e, _⟩ | ⟨hm, _⟩
    · exact absurd e hne
    · rw [hv] at hm; obtain ⟨hm1, hm2⟩ := List.mem_filter.1 hm; simp only [Bool.and_eq_true, decide_eq_true_eq] at hm2; have hb := (a0k.1 (hR _ hm1)).name; have hk : E9 p.2.2.1 = true := hm2.2.1; unfold H8 at hb; simp only [hk, Bool.true_and, Bool.or_eq_false_iff, decide_eq_false_iff_not, Bool.not_eq_false', ne_eq, Decidable.not_not] at hb; rw [← hm2.2.2]; exact hb.2.2
theorem b2x {R : List Chg} (hR : ∀ c ∈ R, H7 c = 0) (id n v : Str) (hn : C8 n = n) : v ∈ a4V (V6 R id) n ↔ ∃ c, ((n, v), c) ∈ (abF R id).vs ∧ opC c = 4 := by
  rw [c1b, hn, V6, a8Z]; constructor
  · rintro ⟨⟨m, w⟩, ha, e, hv⟩; obtain ⟨⟨⟨k1, k2⟩, c⟩, hp, ho, rfl, rfl⟩ := b3Z.1 ha; have hl := c3N hR id _ hp ho; simp only at hl e hv; rw [hl] at e; rw [List.mem_singleton] at hv; subst e; subst hv; exact ⟨c, hp, ho⟩
  · rintro ⟨c, hp, ho⟩; exact ⟨(n, [v]), b3Z.2 ⟨_, hp, ho, rfl, rfl⟩, hn, by simp⟩
structure c3s (R : List Chg) (c : Chg) : Prop where
  rm : opC c = 2 → K2 (R ++ [c]) (idC c) = (([], []), false)
  put : opC c = 4 → ∃ a, K2 (R ++ [c]) (idC c) = (((K2 R (idC c)).1.1, a), true) ∧ c.2.2.2.2.2 ∈ a4V a c.2.2.2.2.1
  drop : opC c = 5 → ∃ a, K2 (R ++ [c]) (idC c) = (((K2 R (idC c)).1.1, a), true) ∧ c.2.2.2.2.2 ∉ a4V a c.2.2.2.2.1
  name : opC c = 1 ∨ opC c = 3 → ∃ s, K2 (R ++ [c]) (idC c) = ((s, (K2 R (idC c)).1.2), true) ∧ (s = nmC c ∨ ∃ x, a0N (R ++ [c]) (nmC c) = (x, true) ∧ x ≠ idC c)
theorem b7m {R : List Chg} {c : Chg} (hR : ∀ x ∈ R, H7 x = 0) (h : b0Y R c) (hc : H7 c = 0) (hl : idC c ∈ B4 R) : c3s R c := by
  have hA := b8j h hc; have hO : ∀ id, idC c ≠ id → abF (R ++ [c]) id = abF R id := fun id hid => by rw [Z3, if_neg hid]
  have hR2 : ∀ x ∈ R ++ [c], H7 x = 0 := fun x hx => by
    rcases List.mem_append.1 hx with hx | hx
    · exact hR x hx
    · rw [List.mem_singleton.1 hx]; exact hc
  have hlive : ∀ (hcr : opC c ≠ 2), B4 (R ++ [c]) = B4 R := fun hcr => by
    obtain ⟨h0, h1⟩ := a1T.1 hl; refine a7r (a9q _) (a9q _) fun id => ?_
    rw [a1T, a1T]; by_cases hid : idC c = id
    · subst hid; have : a1r (abF (R ++ [c]) (idC c)) = true := by
        simp only [a1r, Bool.and_eq_true] at h1 ⊢; rw [hA, if_neg hcr]; split
        · exact ⟨rfl, h1.2⟩
        · split
          · exact h1
          · exact h1
      simp only [h1, this, and_true]; exact iff_of_true ⟨c, by simp, rfl⟩ h0
    · rw [hO id hid]; refine and_congr_left fun _ => ⟨fun ⟨x, hx, e⟩ => ?_, fun ⟨x, hx, e⟩ => ⟨x, by simp [hx], e⟩⟩
      rcases List.mem_append.1 hx with hx | hx
      · exact ⟨x, hx, e⟩
      · rw [List.mem_singleton.1 hx] at e; exact absurd e hid
  have hb := (a0k.1 hc).name; unfold H8 at hb; have hv : opC c = 4 ∨ opC c = 5 → B4 (R ++ [c]) = B4 R ∧ H4 (R ++ [c]) = H4 R ∧ (abF (R ++ [c]) (idC c)).vs = a2m (abF R (idC c)).vs (W8 c) c ∧ C8 c.2.2.2.2.1 = c.2.2.2.2.1 := fun ho => by
    have o1 : opC c ≠ 1 := (by omega); have o2 : opC c ≠ 2 := (by omega); have o3 : opC c ≠ 3 := (by omega); rw [if_neg o1, if_neg o3, if_neg o2] at hA; refine ⟨hlive o2, ?_, by rw [hA], ?_⟩
    · funext id
      unfold H4; by_cases hid : idC c = id
      · subst hid; rw [hA]
      · rw [hO id hid]
    · have hk : E9 c.2.1 = true := by
        rcases ho with ho | ho <;> (have ho : c.2.1 = _ := ho; rw [ho]; rfl)
      simp only [hk, Bool.true_and, Bool.or_eq_false_iff, decide_eq_false_iff_not, Bool.not_eq_false', ne_eq, Decidable.not_not] at hb; exact hb.2.2
  have hsh : B4 (R ++ [c]) = B4 R → H4 (R ++ [c]) = H4 R → F0 (R ++ [c]) = F0 R := fun q1 q2 => by
    have hob : S5 (R ++ [c]) = S5 R := by funext id; unfold S5 M8; rw [q1, q2]
    funext id
    unfold F0; rw [hob, q2]
  refine ⟨fun ho => b1a (c4d (by simp) ho), fun ho => ?_, fun ho => ?_, fun ho => ?_⟩
  · obtain ⟨q1, q2, q3, q4⟩ := hv (.inl ho); refine ⟨V6 (R ++ [c]) (idC c), ?_, (b2x hR2 _ _ _ q4).2 ⟨c, ?_, ho⟩⟩
    · rw [a1o (by rw [q1]; exact hl), a1o hl, hsh q1 q2]
    · rw [q3]; refine (a6L (a5E (a4C R _) _ _)).1 ?_; rw [a6u, if_pos rfl]
  · obtain ⟨q1, q2, q3, q4⟩ := hv (.inr ho); refine ⟨V6 (R ++ [c]) (idC c), ?_, fun hm => ?_⟩
    · rw [a1o (by rw [q1]; exact hl), a1o hl, hsh q1 q2]
    · obtain ⟨x, hx, hx4⟩ := (b2x hR2 _ _ _ q4).1 hm; rw [q3] at hx; have := (a6L (a5E (a4C R _) _ _)).2 hx; rw [a6u, if_pos rfl] at this; simp only [Option.some.injEq] at this; rw [← this, ho] at hx4; omega
  · have o2 : opC c ≠ 2 := (by omega); have q1 := hlive o2; have hn : (abF (R ++ [c]) (idC c)).nm = c ∧ (abF (R ++ [c]) (idC c)).vs = (abF R (idC c)).vs := by
      rcases ho with ho | ho
      · rw [if_pos ho] at hA; rw [hA]; exact ⟨rfl, rfl⟩
      · rw [if_neg (by omega), if_pos ho] at hA; rw [hA]; exact ⟨rfl, rfl⟩
    have hown : H4 (R ++ [c]) (idC c) = nmC c := by unfold H4; rw [hn.1]
    have hl2 : idC c ∈ B4 (R ++ [c]) := by rw [q1]; exact hl
    have hat : V6 (R ++ [c]) (idC c) = V6 R (idC c) := by unfold V6; rw [hn.2]
    refine ⟨F0 (R ++ [c]) (idC c), ?_, ?_⟩
    · rw [a1o hl2, a1o hl, hat]
    · by_cases hob : S5 (R ++ [c]) (idC c) = true
      · left
        unfold F0; rw [if_pos hob, hown]
      · obtain ⟨x, hx, hx1, hx2⟩ := c2t hl2; have hxs : F0 (R ++ [c]) x = nmC c := by
          unfold F0; rw [if_pos hx2, hx1, hown]
        obtain ⟨y, hy, hy1, hy2⟩ := c2j hx hxs; by_cases hyc : y = idC c
        · left; rw [← hyc]; exact hy1
        · exact .inr ⟨y, hy2, hyc⟩
end Go.Proofs.Tz
namespace Go.Proofs.Tz
open Go.Vw
end Go.Proofs.Tz