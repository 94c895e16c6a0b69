/-
  What the functions that the statements about merged states reach compute, part 5 of 6, for data of bounded size (each theorem states its bound).
-/import Derived.Test.YtnknfnfinhagoaaGreatDoorTo
import Derived.Test.YtnknfnfinhagoaaGreatDoorWk
import Derived.Test.YtnknfnfinhagoaaGreatDoorTl
import Derived.Test.YtnknfnfinhagoaaGreatDoorWl
import Derived.Shelf.SlSortCmp.NoneTotal
import Derived.Test.YtnknfnfinhagoaaGreatDoorTn
open Go.Proofs.Tryz
set_option linter.unusedSimpArgs false
set_option linter.unusedVariables false
set_option maxRecDepth 100000
set_option maxHeartbeats 8000000
namespace Go.Proofs.Tz
open Go.Vw Go.RowKit Go.Proofs Go.Sort
def W9 (R : List Chg) (id : Str) : Bool := decide (I1 (N8 R (A8 R)) (K4 R id) = some id)
def D9 (R : List Chg) (id : Str) : Str := if W9 R id then K4 R id else a9K (K4 R id) id
def a1I (R : List Chg) : SM := (A8 R).map fun id => (id, D9 R id)
def smD (g : Nat) (N : SM) (bs : List Nat) (clk : Nat) : D := .map (.map (some g)) (N.map fun p => .str p.1) (N.map fun p => .str p.2) bs clk
theorem b5q (m : SM) : (N9 m).map (·.1) = m.map fun p => D.str p.1 := by simp [N9, Function.comp_def]
theorem c0L (m : SM) : (N9 m).map (·.2) = m.map fun p => D.str p.2 := by simp [N9, Function.comp_def]
theorem c1T (m : SM) : (m.map fun p => D.str p.1).zip (m.map fun p => D.str p.2) = N9 m := by
  induction m with
  | nil => rfl
  | cons p m ih => simp only [List.map_cons, List.zip_cons_cons, ih, N9]
theorem c5B {f : FuncId} {args : List AV} {m : SM} (h : G8 prog f args [] (fun r hs' => ∃ g, r = .d (.raw (.map (some g))) ∧ hs' = [.hm (.map (some g)) 9 (N9 m) none])) :
    G8 prog f args [] (fun r hs' => hs' = [] ∧ ∃ g N bs clk, List.Perm N m ∧ r = .d (smD g N bs clk)) := by
  refine h.frzMap ?_; rintro r hs' ⟨g, rfl, rfl⟩; refine ⟨g, 9, N9 m, rfl, rfl, fun m' bs clk hp => ?_⟩; obtain ⟨N, n1, n2⟩ := a2k hp rfl; refine ⟨rfl, g, N, bs, clk, n1, ?_⟩; have e : m' = N9 N := n2.symm; rw [e, b5q, c0L]; rfl
theorem b0O {m N : SM} (h : List.Perm N m) (hn : (m.map (·.1)).Nodup) (k : Str) : I1 N k = I1 m k := by
  have e1 : L4 (N9 N) (.str k) = L4 (N9 m) (.str k) := b2P (P := prog) (kt := 9) (h.map _) (by
    show ((N9 m).map (·.1)).Nodup
    rw [b5q]; have : (m.map fun p => D.str p.1) = (m.map (·.1)).map .str := by simp [Function.comp_def]
    rw [this]; exact (List.pairwise_map).2 (hn.imp fun hab e => hab (by simpa using e))) (F7 k)
  rw [a2T, a2T] at e1; cases h1 : I1 N k <;> cases h2 : I1 m k <;> rw [h1, h2] at e1 <;> simp at e1 <;> simp [e1]
theorem b9C {m : SM} {k v v' : Str} (h : I1 m k = none) : R8 (N9 (m ++ [(k, v)])) (.str k) (.str v') = N9 (m ++ [(k, v')]) := by
  have hne : ∀ p ∈ m, ¬ p.1 = k := by
    simp only [I1, Option.map_eq_none_iff, List.find?_eq_none] at h; intro p hp; simpa using h p hp
  unfold R8; rw [if_pos (by simp [N9, K5])]; simp only [N9, List.map_append, List.map_map, List.map_cons, List.map_nil]; congr 1
  · refine List.map_congr_left fun p hp => ?_
    simp [K5, hne p hp]
  · simp [K5]
theorem a5Z {m : SM} {k : Str} : I1 m k = none ↔ ∀ p ∈ m, p.1 ≠ k := by
  simp [I1, List.find?_eq_none]
theorem b4X (R : List Chg) : SS (A8 R) := by
  have h1 : (A8 R).Pairwise fun x y => ¬ y < x := a7T (a2z R)
  have h2 : (A8 R).Nodup := (List.mergeSort_perm _ _).nodup_iff.2 (List.Nodup.sublist (List.filter_sublist.map _) (a3z R)); exact (List.Pairwise.and h1 h2).imp fun {a b} h => (Classical.byContradiction fun hn => h.2 (a2L hn h.1))
theorem a0c (R : List Chg) : (A8 R).Nodup := (b4X R).nodup
structure d4q (R : List Chg) : Prop where
  ok : ∀ c ∈ R, Q4 c = 0
  few : R.length ≤ 4096
structure b4n (own id : Str) : Prop where
  parse : (C8 own).1 ≠ []
  own : List.length own < 900000
  short : List.length id < 200
  ne : id ≠ []
def a2M (R : List Chg) (l : List Str) : SM := l.map fun id => (id, D9 R id)
theorem b8l (R : List Chg) (l : List Str) (id : Str) : a2M R (l ++ [id]) = a2M R l ++ [(id, D9 R id)] := by simp [a2M]
theorem b7N {R : List Chg} {l : List Str} {id : Str} (h : id ∉ l) : I1 (a2M R l) id = none := by
  rw [a5Z]; intro p hp; obtain ⟨x, hx, rfl⟩ := List.mem_map.1 hp; rintro rfl; exact h hx
def DiI (R : List Chg) (sd : D) (g g2 : Nat) (k : Nat) (τ : St) : Prop := τ 0 = .d sd ∧ τ 3 = .d (.raw (.map (some g))) ∧ τ 4 = .d (.raw (.map (some g2))) ∧ τ 12 = .own false 9 ((A8 R).map .str) ∧ τ 13 = .d (.int .i64 (A8 R).length) ∧ τ 14 = .d (.int .i64 k) ∧
  τ 1000000 = .hm (.map (some g)) 9 (N9 (N8 R (A8 R))) none ∧ τ 1000001 = .hm (.map (some g2)) 9 (N9 (a2M R ((A8 R).take k))) none
theorem b4A (R : List Chg) (d : D) (hd : StD R d) (hl : (S8 R).length < 100000) (hN : ∀ id ∈ A8 R, b4n (K4 R id) id) : G8 prog 42 [.d d] [] (fun r hs' => ∃ g, r = .d (.raw (.map (some g))) ∧ hs' = [.hm (.map (some g)) 9 (N9 (a1I R)) none]) := by
  obtain ⟨u1, R1, bs1, c1, u2, M, bs2, c2, rfl, hR1, hM⟩ := hd.open; have hll := a0u R; have hlv := a3J R _ hd hl; have how := b2m R _ hd hl; refine a1l (fun i => i == 5000009) (by kernel_rfl) func42 (by kernel_rfl) rfl rfl (nbl rfl) (by kernel_rfl) rfl ?_; simp -implicitDefEqProofs [A5]; refine M2 [] 1000000 how rfl rfl (by simp) ?_; rintro r hs' ⟨g, rfl, rfl⟩; simp -implicitDefEqProofs [A5, D1, C0]; refine b0U 9 1000001 (by simp [A5]) (fun g2 => ?_); simp -implicitDefEqProofs [A5]; refine A1 hlv ?_; simp -implicitDefEqProofs [A5]; obtain ⟨sd, hsd⟩ : ∃ sd, U3 u1 R1 bs1 c1 u2 M bs2 c2 = sd := ⟨_, rfl⟩; refine H2 (A8 R).length (DiI R sd g g2) ⟨by simp [A5, ← hsd], by simp [A5], by simp [A5], by simp [A5], by simp [A5], by simp [A5], by simp [A5], by simp [A5, a2M, N9]⟩ ?_; rintro k τ hk ⟨g0, g3, g4, g12, g13, g14, gA, gB⟩; by_cases hlt : k < (A8 R).length
  · have hlt' : (k : Int) < (A8 R).length := (by omega); obtain ⟨id, hid⟩ : ∃ id, (A8 R)[k] = id := ⟨_, rfl⟩; have hin : id ∈ A8 R := by rw [← hid]; exact gmm _
    obtain ⟨d, hg1, hab⟩ := hM.live hin; obtain ⟨u, V, bs, clk, hd1, hV⟩ := hab; have htk : (A8 R).take (k + 1) = (A8 R).take k ++ [id] := by rw [J0 hlt, hid]
    have hsn := b8l R ((A8 R).take k) id; rw [← htk] at hsn; have hnew : I1 (a2M R ((A8 R).take k)) id = none := b7N fun hm => by
      have := a0c R; rw [← List.take_append_drop k (A8 R), List.nodup_append] at this; exact this.2.2 id hm id (by rw [List.drop_eq_getElem_cons hlt, hid]; simp) rfl
    have chg_eq : B0 (abF R id).nm = .agg [B8 (abF R id).nm.1, .int .i64 (abF R id).nm.2.1, .str (abF R id).nm.2.2.1, .str (K4 R id), .str (abF R id).nm.2.2.2.2.1, .str (abF R id).nm.2.2.2.2.2] := rfl; have hmg := a2T (N8 R (A8 R)) (K4 R id); have hsh : D9 R id = if W9 R id then K4 R id else a9K (K4 R id) id := rfl
    have hob : W9 R id = decide (I1 (N8 R (A8 R)) (K4 R id) = some id) := rfl; have hn := hN id hin; have hot := c1R (K4 R id) id hn.own hn.short hn.parse; have hlk : ∃ r w, L4 (N9 (N8 R (A8 R))) (.str (K4 R id)) = r ∧ a0j false (.str []) r = .d (.str w) ∧ (decide (w = id) = W9 R id) := by
      rw [hmg, hob]; cases h : I1 (N8 R (A8 R)) (K4 R id) with
      | none => exact ⟨none, [], rfl, rfl, by simp [Ne.symm hn.ne]⟩
      | some v => exact ⟨some (.str v), v, rfl, rfl, by simp⟩
    obtain ⟨r, w, hr1, hr2, hr3⟩ := hlk; rw [← a5J] at hg1; rw [hd1] at hg1; generalize a9K (K4 R id) id = OT at *; rcases Classical.em (w = id) with hw | hw
    all_goals
      simp -implicitDefEqProofs [g0, g3, g4, g12, g13, g14, ← hsd, U3, hlt, hlt', hid]; refine Z4 a3y (F7 _) (a4u M) Tryz.zd_75 hg1 ?_; simp -implicitDefEqProofs [g0, g3, g4, g12, g13, g14, P5, chg_eq, A7]; refine a5A (m := N9 (a2M R ((A8 R).take k))) (E := none) 1000001 X3 (by simp [gB]) (F7 _) _ (List.Perm.refl _) ?_; rw [a6E hnew]; simp -implicitDefEqProofs [g0, g3, g4, g12, g13, g14]; refine a0R (m := N9 (N8 R (A8 R))) (E := none) 1000000 (by omega) X3 (by simp [gA]) (F7 _) Tryz.zd_9 hr1 ?_; rw [hr2]
    · have hb : W9 R id = true := by rw [← hr3]; simpa using hw
      rw [hb, if_pos rfl] at hsh; simp -implicitDefEqProofs [g0, g3, g4, g12, g13, g14, hw]; (repeat refine ai (by omega) ?_); exact D7 hlt ⟨by simp [g0, ← hsd, U3], by simp [g3], by simp [g4], by simp [g12], by simp [g13], by simp, by simp [gA], by simp [hsn, hsh]⟩
    · have hb : W9 R id = false := by rw [← hr3]; simpa using hw
      rw [hb] at hsh; simp only [Bool.false_eq_true, if_false] at hsh; simp -implicitDefEqProofs [g0, g3, g4, g12, g13, g14, hw]; refine A1 hot ?_; simp -implicitDefEqProofs [g0, g3, g4, g12, g13, g14, hw]; refine a5A (m := N9 (a2M R ((A8 R).take k) ++ [(id, K4 R id)])) (E := none) 1000001 X3 (by simp) (F7 _) _ (List.Perm.refl _) ?_; rw [b9C hnew]; simp -implicitDefEqProofs [g0, g3, g4, g12, g13, g14]; (repeat refine ai (by omega) ?_); exact D7 hlt ⟨by simp [g0, ← hsd, U3], by simp [g3], by simp [g4], by simp [g12], by simp [g13], by simp, by simp [gA], by simp [hsn, hsh]⟩
  · have hlt' : ¬ (k : Int) < (A8 R).length := (by omega); rw [ttl (by omega)] at gB; simp -implicitDefEqProofs [g0, g3, g4, g12, g13, g14, hlt, hlt']; exact ⟨_, [1000001], by simp, by simp [gB, isH], by simp [a1y], g2, rfl, by simp [gB, a1I, a2M]⟩
structure a1H (R : List Chg) : Prop where
  few : (S8 R).length < 5000
  name : ∀ id ∈ A8 R, b4n (K4 R id) id
  vals : ∀ id, (abF R id).vs.length < 5000 ∧ ∀ p ∈ (abF R id).vs, List.length p.1.1 < 900000 ∧ List.length p.1.2 < 900000
theorem a1H.lt {R : List Chg} (h : a1H R) : (S8 R).length < 100000 := by have := h.few; omega
theorem b7s (R : List Chg) (d : D) (hd : StD R d) (hG : a1H R) : G8 prog 63 [.d d] [] (fun r hs' => hs' = [] ∧ ∃ g N bs clk, List.Perm N (N8 R (A8 R)) ∧ r = .d (smD g N bs clk)) := c5B (b2m R d hd hG.lt)
theorem a1F (R : List Chg) (d : D) (hd : StD R d) (hG : a1H R) : G8 prog 42 [.d d] [] (fun r hs' => hs' = [] ∧ ∃ g N bs clk, List.Perm N (a1I R) ∧ r = .d (smD g N bs clk)) := c5B (b4A R d hd hG.lt hG.name)
theorem a4J (R : List Chg) : (a1I R).map (·.1) = A8 R := by simp [a1I, Function.comp_def]
theorem a2s {R : List Chg} {N : SM} (hN : List.Perm N (a1I R)) (id : Str) : I1 N id = if id ∈ A8 R then some (D9 R id) else none := by
  rw [b0O hN (by rw [a4J]; exact a0c R)]; by_cases h : id ∈ A8 R
  · rw [if_pos h]; have hn := a0c R; unfold a1I I1; generalize A8 R = l at *
    induction l with
    | nil => simp at h
    | cons x l ih =>
      rw [List.nodup_cons] at hn; by_cases hx : x = id
      · subst hx; simp
      · rcases List.mem_cons.1 h with e | h
        · exact absurd e.symm hx
        · have := ih h hn.2; simp only [List.map_cons, List.find?_cons, decide_eq_false hx] at this ⊢; exact this
  · rw [if_neg h, a5Z]; intro p hp e; exact h (by rw [← a4J, ← e]; exact List.mem_map.2 ⟨p, hp, rfl⟩)
theorem R0 (N : SM) : ∀ k ∈ N.map (fun p => D.str p.1), E0 prog 9 k = true := by
  intro k hk; obtain ⟨x, _, rfl⟩ := List.mem_map.1 hk; exact F7 _
theorem a1P (N : SM) (k : Str) : L4 ((N.map fun p => D.str p.1).zip (N.map fun p => D.str p.2)) (.str k) = (I1 N k).map .str := by rw [c1T, a2T]
def R6 (R : List Chg) (n : Str) : Str × Bool := match (A8 R).find? fun id => decide (D9 R id = n) with
  | some id => (id, true)
  | none => ([], false)
def noF (R : List Chg) (n : Str) (k : Nat) : Prop := R6 R n = match ((A8 R).drop k).find? fun id => decide (D9 R id = n) with
  | some id => (id, true)
  | none => ([], false)
theorem c0W (R : List Chg) (n : Str) : noF R n 0 := by simp [noF, R6]
theorem c3g {R : List Chg} {n : Str} {k : Nat} (h : noF R n k) (hk : k < (A8 R).length) (he : D9 R (A8 R)[k] = n) : R6 R n = ((A8 R)[k], true) := by
  rw [noF, List.drop_eq_getElem_cons hk, List.find?_cons_of_pos (by simpa using he)] at h; exact h
theorem c1u {R : List Chg} {n : Str} {k : Nat} (h : noF R n k) (hk : k < (A8 R).length) (he : ¬ D9 R (A8 R)[k] = n) : noF R n (k + 1) := by
  rw [noF, List.drop_eq_getElem_cons hk, List.find?_cons_of_neg (by simpa using he)] at h; exact h
theorem c4c {R : List Chg} {n : Str} {k : Nat} (h : noF R n k) (hk : (A8 R).length ≤ k) : R6 R n = ([], false) := by
  rw [noF, List.drop_eq_nil_of_le hk] at h; exact h
def FnI (R : List Chg) (n : Str) (g : Nat) (N : SM) (bs : List Nat) (clk : Nat) (k : Nat) (τ : St) : Prop := τ 1 = .d (.str n) ∧ τ 6 = .d (smD g N bs clk) ∧ τ 15 = .own false 9 ((A8 R).map .str) ∧ τ 16 = .d (.int .i64 (A8 R).length) ∧ τ 17 = .d (.int .i64 k) ∧ noF R n k
theorem b1f (R : List Chg) (d : D) (n : Str) (hd : StD R d) (hG : a1H R) : Ctr prog 15 [.d d, .d (.str n)] (.tup [.d (.str (R6 R n).1), .d (.bool (R6 R n).2)]) := by
  have hdi := a1F R d hd hG; have hlv := a3J R d hd hG.lt; obtain ⟨u1, R1, bs1, c1, u2, M, bs2, c2, rfl, hR1, hM⟩ := hd.open; have hll := a0u R; have hlt := hG.lt; have hre := a2q u1 R1 bs1 c1 u2 M bs2 c2; obtain ⟨sd, hsd⟩ : ∃ sd, U3 u1 R1 bs1 c1 u2 M bs2 c2 = sd := ⟨_, rfl⟩; rw [hsd] at hdi hlv hre ⊢; refine H1 (rv := .tmp 4) (rs := [.tmp 5]) (r := .d (.str (R6 R n).1)) (ys := [.d (.bool (R6 R n).2)]) (fun i => i == 5000013) (by kernel_rfl) func15 (by kernel_rfl) rfl rfl (by simp) (nbl rfl) (by kernel_rfl) rfl rfl ?_; simp -implicitDefEqProofs; refine A1 hre ?_; simp -implicitDefEqProofs; refine b1C hdi ?_; rintro r hs' ⟨rfl, g, N, bs, clk, hN, rfl⟩; refine ⟨rfl, ?_⟩; simp -implicitDefEqProofs; refine A1 hlv ?_; simp -implicitDefEqProofs; refine H2 (A8 R).length (FnI R n g N bs clk) ⟨by simp, by simp, by simp, by simp, by simp, c0W R n⟩ ?_; rintro k τ hk ⟨g1, g6, g15, g16, g17, gN⟩; rcases Nat.lt_or_ge k (A8 R).length with hlt | hlt
  · have hlt' : (k : Int) < (A8 R).length := (by omega); have hin : (A8 R)[k] ∈ A8 R := gmm _; have hge := a1P N (A8 R)[k]; rw [a2s hN, if_pos hin] at hge; rcases Classical.em (D9 R (A8 R)[k] = n) with he | he
    · rw [c3g gN hlt he]; simp -implicitDefEqProofs [g1, g6, g15, g16, g17, hlt, hlt', smD]; refine Z4 X3 (F7 _) (R0 N) Tryz.zd_9 hge ?_; simp -implicitDefEqProofs [g1, g6, g15, g16, g17, hlt, hlt', smD, he]
    · have hnx := c1u gN hlt he; simp -implicitDefEqProofs [g1, g6, g15, g16, g17, hlt, hlt', smD]; refine Z4 X3 (F7 _) (R0 N) Tryz.zd_9 hge ?_; simp -implicitDefEqProofs [g1, g6, g15, g16, g17, hlt, hlt', smD, he]; exact ⟨by omega, D7 hlt ⟨by simp [g1], by simp [g6, smD], by simp [g15], by simp [g16], by simp, hnx⟩⟩
  · rw [c4c gN hlt]; have hlt' : ¬ (k : Int) < (A8 R).length := (by omega); have hlt'' : ¬ k < (A8 R).length := (by omega); simp -implicitDefEqProofs [g1, g6, g15, g16, g17, hlt', hlt'']
def b8d (p : VK × Chg) : Option Att := if opC p.2 = 4 then some (p.1.1, [p.1.2]) else none
def a0g (vs : List (VK × Chg)) : List Att := vs.filterMap b8d
def a1d (R : List Chg) (id : Str) : List Att := O0 (a0g (abF R id).vs)
def a1R (s : Str) (a : List Att) : D := .agg [.str s, a5W a]
theorem b2f {V W : List (VK × Chg)} (h : List.Perm V W) : O0 (a0g V) = O0 (a0g W) := by
  refine b7g fun n v => ?_
  have : ∀ a, a ∈ a0g V ↔ a ∈ a0g W := fun a => (h.filterMap b8d).mem_iff
  simp only [b6L, this]
theorem c2I {V : List (VK × Chg)} (h : V.length < 5000) (hs : ∀ p ∈ V, List.length p.1.1 < 900000 ∧ List.length p.1.2 < 900000) : b6H (a0g V) := by
  have hlen : (a0g V).length ≤ V.length := List.length_filterMap_le _ _; have hm : ∀ a ∈ a0g V, List.length a.1 < 900000 ∧ a.2.length = 1 := fun a ha => by
    obtain ⟨p, hp, e⟩ := List.mem_filterMap.1 ha; unfold b8d at e; split at e
    · simp only [Option.some.injEq] at e; subst e; exact ⟨(hs p hp).1, rfl⟩
    · cases e
  refine ⟨⟨by omega, fun a ha => ⟨by have := (hm a ha).1; omega, by have := (hm a ha).2; omega⟩⟩, ?_⟩; have : ∀ l : List Att, (∀ a ∈ l, a.2.length = 1) → M9 l = l.length := by
    intro l
    induction l with
    | nil => intro _; rfl
    | cons a l ih =>
      intro h; have := ih fun b hb => h b (by simp [hb])
      simp only [M9, List.map_cons, List.sum_cons, List.length_cons] at this ⊢; rw [this, h a (by simp)]; omega
  rw [this _ fun a ha => (hm a ha).2]; omega
theorem c0E (vs : List (VK × Chg)) (k : VK) (c : Chg) : (a4S vs k c).map (·.1) = if vs.any (fun p => decide (p.1 = k)) then vs.map (·.1) else vs.map (·.1) ++ [k] := by
  unfold a4S; split
  · rw [List.map_map]; refine List.map_congr_left fun p _ => ?_
    simp only [Function.comp_apply]; split <;> rfl
  · simp
theorem b7S {vs : List (VK × Chg)} (hn : (vs.map (·.1)).Nodup) (k : VK) (c : Chg) : ((a4S vs k c).map (·.1)).Nodup := by
  rw [c0E]; split
  · exact hn
  · rename_i h
    refine List.nodup_append.2 ⟨hn, by simp, fun x hx z hz => ?_⟩; simp only [List.mem_singleton] at hz; subst hz; rintro rfl; obtain ⟨p, hp, e⟩ := List.mem_map.1 hx; exact h (List.any_eq_true.2 ⟨p, hp, by simpa using e⟩)
theorem b9i (R : List Chg) (id : Str) : ((abF R id).vs.map (·.1)).Nodup := by
  refine V8 (P := fun R => ((abF R id).vs.map (·.1)).Nodup) (by simp [abF, R5]) (fun R c ih => ?_) R; rw [a3U]; split
  · unfold Q7; split
    · exact ih
    · split
      · exact ih
      · split
        · exact ih
        · exact b7S ih _ _
  · exact ih
theorem c3m {a b : VK} (h : vkD a = vkD b) : a = b := by
  obtain ⟨a1, a2⟩ := a; obtain ⟨b1, b2⟩ := b; simp only [vkD, D.agg.injEq, List.cons.injEq, D.str.injEq, and_true] at h; rw [h.1, h.2]
structure a4L (V W : List (VK × Chg)) (seen : List D) : Prop where
  eq : seen = W.map fun p => vkD p.1
  nd : W.Nodup
  sub : ∀ p ∈ W, p ∈ V
theorem d1y {V : List (VK × Chg)} (hn : (V.map (·.1)).Nodup) {p q : VK × Chg} (hp : p ∈ V) (hq : q ∈ V) (e : p.1 = q.1) : p = q := by
  obtain ⟨i, hi, e1⟩ := List.getElem_of_mem hp; obtain ⟨j, hj, e2⟩ := List.getElem_of_mem hq; have := a7P hn (i := i) (j := j) (by simpa using hi) (by simpa using hj) (by simp [e1, e2, e]); subst this; rw [← e1, ← e2]
theorem a4L.next {V W : List (VK × Chg)} {seen : List D} (h : a4L V W seen) {p : VK × Chg} (hp : p ∈ V) (hn : vkD p.1 ∉ seen) : a4L V (W ++ [p]) (seen ++ [vkD p.1]) := by
  refine ⟨by rw [h.eq]; simp, ?_, fun q hq => ?_⟩
  · refine List.nodup_append.2 ⟨h.nd, by simp, fun a ha b hb => ?_⟩; simp only [List.mem_singleton] at hb; subst hb; rintro rfl; exact hn (by rw [h.eq]; exact List.mem_map.2 ⟨a, ha, rfl⟩)
  · rcases List.mem_append.1 hq with hq | hq
    · exact h.sub q hq
    · rw [List.mem_singleton.1 hq]; exact hp
theorem b6e {V : List (VK × Chg)} (hn : (V.map (·.1)).Nodup) : V.Nodup := (List.pairwise_map.1 hn).imp fun h e => h (by rw [e])
theorem a4L.le {V W : List (VK × Chg)} {seen : List D} (h : a4L V W seen) (hn : (V.map (·.1)).Nodup) : W.length ≤ V.length := by
  have hp : W.Perm (V.filter fun p => decide (p ∈ W)) := (List.perm_ext_iff_of_nodup h.nd ((b6e hn).filter _)).2 fun p => by
    simp only [List.mem_filter, decide_eq_true_eq]; exact ⟨fun hs => ⟨h.sub p hs, hs⟩, fun hs => hs.2⟩
  rw [hp.length_eq]; exact List.length_filter_le _ _
theorem a4L.all {V W : List (VK × Chg)} {seen : List D} (h : a4L V W seen) (hn : (V.map (·.1)).Nodup) (ha : ∀ p ∈ V, vkD p.1 ∈ seen) : List.Perm W V := by
  have hnv : V.Nodup := b6e hn; refine (List.perm_ext_iff_of_nodup h.nd hnv).2 fun p => ⟨h.sub p, fun hp => ?_⟩
  have := ha p hp; rw [h.eq] at this; obtain ⟨q, hq, e⟩ := List.mem_map.1 this; rw [← d1y hn (h.sub q hq) hp (c3m e)]; exact hq
theorem c2N (V : List (VK × Chg)) : (V.map fun p => vkD p.1).zip (V.map fun p => B0 p.2) = V.map fun p => (vkD p.1, B0 p.2) := by
  induction V with
  | nil => rfl
  | cons x V ih => simp only [List.map_cons, List.zip_cons_cons, ih]
theorem c2B (a : VK) : G2 (vkD a) (vkD a) = true := by simp [vkD, G2, V4, X6]
theorem a9T (V : List (VK × Chg)) : ∀ k ∈ V.map (fun p => vkD p.1), G2 k k = true := by
  intro k hk; obtain ⟨x, _, rfl⟩ := List.mem_map.1 hk; exact c2B _
theorem b8N (c : Chg) : B3 (B0 c) = 8 := rfl
theorem b9b (W : List (VK × Chg)) (p : VK × Chg) : a0g (W ++ [p]) = a0g W ++ (if opC p.2 = 4 then [(p.1.1, [p.1.2])] else []) := by
  simp only [a0g, List.filterMap_append, List.filterMap_cons, List.filterMap_nil, b8d]; split <;> simp_all
def EnI (s : Str) (u : Value) (V : List (VK × Chg)) (bs : List Nat) (clk : Nat) (k : Nat) (τ : St) : Prop := ∃ W seen, a4L V W seen ∧ W.length = k ∧ τ 2 = .d (.str s) ∧ τ 6 = .box (.agg [.str [], .sl []]) ∧ τ 7 = .own false 72 ((a0g W).map att) ∧
  τ 18 = .d (.map u (V.map fun p => vkD p.1) (V.map fun p => B0 p.2) bs clk) ∧ τ 19 = .mit u ((V.map fun p => vkD p.1).zip bs, clk) seen
theorem b5d (R : List Chg) (d : D) (id s : Str) (hd : StD R d) (hG : a1H R) (hin : id ∈ A8 R) : Ctr prog 50 [.d d, .d (.str id), .d (.str s)] (.d (a1R s (a1d R id))) := by
  obtain ⟨u1, R1, bs1, c1, u2, M, bs2, c2, rfl, hR1, hM⟩ := hd.open; obtain ⟨d, hg1, hab⟩ := hM.live hin; obtain ⟨u, V, bs, clk, hd1, hV⟩ := hab; have hvl : V.length < 5000 := by rw [hV.length_eq]; exact (hG.vals id).1
  have hvs : ∀ p ∈ V, List.length p.1.1 < 900000 ∧ List.length p.1.2 < 900000 := fun p hp => (hG.vals id).2 p (hV.mem_iff.1 hp)
  rw [← a5J] at hg1; rw [hd1] at hg1; have hat : a1d R id = O0 (a0g V) := (b2f hV).symm; rw [hat]; refine H1 (rv := .cell 6 48) (rs := []) (r := .d (a1R s (O0 (a0g V)))) (ys := []) (fun i => false) (by kernel_rfl) func50 (by kernel_rfl) rfl rfl (by simp) (nbl rfl) (by kernel_rfl) rfl rfl ?_; simp -implicitDefEqProofs [U3]; refine Z4 a3y (F7 _) (a4u M) Tryz.zd_75 hg1 ?_; simp -implicitDefEqProofs [P5, b8N]; have hVn : (V.map (·.1)).Nodup := (hV.map _).nodup_iff.2 (b9i R id); refine H2 V.length (EnI s u V bs clk) ⟨[], [], ⟨rfl, List.nodup_nil, by simp⟩, rfl, by simp, by simp, by simp [a0g], by simp, by simp⟩ ?_; rintro k τ hk ⟨W, seen, hS, hsl, g2, g6, g7, g18, g19⟩; have hle := hS.le hVn; simp -implicitDefEqProofs [g2, g6, g7, g18, g19]; refine c4R (vs := V.map fun p => B0 p.2) 18 (by simp [g18]) (a9T V) (fun x v hm hn => ?_) (fun hall => ?_)
  · have hm2 := hm; rw [c2N] at hm2; obtain ⟨p, hp, e⟩ := List.mem_map.1 hm2; simp only [Prod.mk.injEq] at e; obtain ⟨rfl, rfl⟩ := e; have hS2 := hS.next hp hn; have hlt : k < V.length := by have := hS2.le hVn; simp at this; omega
    have hsn := b9b W p; have chg_eq : B0 p.2 = .agg [B8 p.2.1, .int .i64 (opC p.2), .str p.2.2.2.1, .str p.2.2.2.2.1, .str p.2.2.2.2.2.1, .str p.2.2.2.2.2.2] := rfl; have vk_eq : vkD p.1 = .agg [.str p.1.1, .str p.1.2] := rfl; have hpl : (a0g W).length ≤ W.length := List.length_filterMap_le _ _; generalize hT2 : a0g (W ++ [p]) = T2 at *; generalize hT : a0g W = T at *; rcases Classical.em (opC p.2 = 4) with h4 | h4
    all_goals
      simp only [h4, if_true, if_false] at hsn; simp -implicitDefEqProofs [g2, g6, g7, g18, g19]; refine c4z (vs := V.map fun p => B0 p.2) 18 (by simp [g18]) (a9T V) hm ?_; simp -implicitDefEqProofs [g2, g6, g7, g18, g19, chg_eq, vk_eq, A7, h4]
    · refine ⟨by omega, by omega, D7 hlt ⟨W ++ [p], seen ++ [vkD p.1], hS2, by simp [hsl], by simp [g2], by simp [g6], by simp [hT2, hsn, att, B6], by simp [g18], by simp [vk_eq]⟩⟩
    · exact D7 hlt ⟨W ++ [p], seen ++ [vkD p.1], hS2, by simp [hsl], by simp [g2], by simp [g6], by simp [g7, hT2, hsn], by simp [g18], by simp [vk_eq]⟩
  · have hp : List.Perm W V := hS.all hVn fun p hp => hall (vkD p.1, B0 p.2) (by rw [c2N]; exact List.mem_map.2 ⟨p, hp, rfl⟩)
    have hsort := (b9X (a0g W) (c2I (by omega) fun p hp => hvs p (hS.sub p hp))); rw [b2f hp] at hsort; simp only [a5W] at hsort; generalize O0 (a0g V) = A at *; generalize a0g W = T at *; simp -implicitDefEqProofs [g2, g6, g7, g18, g19]; refine A1 hsort ?_; simp -implicitDefEqProofs [g2, g6, g7, g18, g19, a1R, a5W]
def O7 (R : List Chg) (id : Str) : (Str × List Att) × Bool := if id ∈ A8 R then ((D9 R id, a1d R id), true) else (([], []), false)
theorem b3y (R : List Chg) (d : D) (id : Str) (hd : StD R d) (hG : a1H R) : Ctr prog 21 [.d d, .d (.str id)] (.tup [.d (a1R (O7 R id).1.1 (O7 R id).1.2), .d (.bool (O7 R id).2)]) := by
  have hdi := a1F R d hd hG; have hen : ∀ s, id ∈ A8 R → _ := fun s h => b5d R d id s hd hG h
  obtain ⟨u1, R1, bs1, c1, u2, M, bs2, c2, rfl, hR1, hM⟩ := hd.open; have hre := a2q u1 R1 bs1 c1 u2 M bs2 c2; obtain ⟨sd, hsd⟩ : ∃ sd, U3 u1 R1 bs1 c1 u2 M bs2 c2 = sd := ⟨_, rfl⟩; rw [hsd] at hdi hre hen ⊢; rcases Classical.em (id ∈ A8 R) with hin | hin
  · have he : O7 R id = ((D9 R id, a1d R id), true) := (by simp [O7, hin]); rw [he]; have hen := hen (D9 R id) hin; refine H1 (rv := .cell 4 48) (rs := [.tmp 5]) (r := .d (a1R (D9 R id) (a1d R id))) (ys := [.d (.bool true)]) (fun i => i == 5000014) (by kernel_rfl) func21 (by kernel_rfl) rfl rfl (by simp) (nbl rfl) (by kernel_rfl) rfl rfl ?_; simp -implicitDefEqProofs; refine A1 hre ?_; simp -implicitDefEqProofs; refine b1C hdi ?_; rintro r hs' ⟨rfl, g, N, bs, clk, hN, rfl⟩; have hge := a1P N id; rw [a2s hN, if_pos hin] at hge; refine ⟨rfl, ?_⟩; simp -implicitDefEqProofs [smD]; refine Z4 X3 (F7 _) (R0 N) Tryz.zd_9 hge ?_; simp -implicitDefEqProofs; refine A1 hen ?_; simp -implicitDefEqProofs [a1R, a5W]
  · have he : O7 R id = (([], []), false) := (by simp [O7, hin]); rw [he]; refine H1 (rv := .cell 4 48) (rs := [.tmp 5]) (r := .d (a1R [] [])) (ys := [.d (.bool false)]) (fun i => i == 5000014) (by kernel_rfl) func21 (by kernel_rfl) rfl rfl (by simp) (nbl rfl) (by kernel_rfl) rfl rfl ?_; simp -implicitDefEqProofs; refine A1 hre ?_; simp -implicitDefEqProofs; refine b1C hdi ?_; rintro r hs' ⟨rfl, g, N, bs, clk, hN, rfl⟩; have hge := a1P N id; rw [a2s hN, if_neg hin] at hge; refine ⟨rfl, ?_⟩; simp -implicitDefEqProofs [smD]; refine Z4 X3 (F7 _) (R0 N) Tryz.zd_9 hge ?_; simp -implicitDefEqProofs [a1R, a5W]
theorem b7D (g : FuncId) (cs : List D) (hcs : (cs.all fun c => !c.isAgg) = true) (p : Str → Bool) (l : List Str) (hl : l.length < 1000000) (hp : ∀ a ∈ l, Ctr prog g ([.d (.str a)] ++ cs.map .d) (.d (.bool (p a)))) :
    Ctr prog 64 [.own true 9 (l.map .str), .d (.clo g cs)] (.own true 9 ((l.filter fun x => !p x).map .str)) := by
  refine fv (fun i => i == 2000010) func64 (by kernel_rfl) rfl rfl rfl rfl rfl ?_; simp -implicitDefEqProofs; refine c2U (b9F g cs hcs p l hl hp) rfl ?_; by_cases hn : a1Y p 0 l = -1
  · simp -implicitDefEqProofs [hn, b5o p l 0 hn]
  · obtain ⟨i, h1, h2, h3, h4⟩ := b4p p l 0 hn; simp only [Nat.zero_add] at h1; have e1 : ¬ ((i : Int) = -1) := (by omega); simp -implicitDefEqProofs [h1, e1]; refine ⟨by omega, ?_⟩; refine a3p (fun n τ => ∃ (j q : Nat) (m : List Str), n = l.length - j ∧ j ≤ l.length ∧ τ 0 = .own true 9 (m.map .str) ∧ τ 1 = .d (.clo g cs) ∧ τ 5 = .d (.int .i64 q) ∧ τ 6 = .d (.int .i64 j) ∧ m.length = l.length ∧ q < j ∧ m.take q = (l.take j).filter (fun x => !p x) ∧ m.drop j = l.drop j)
      (l.length - (i + 1)) ⟨i + 1, i, l, rfl, by omega, by simp, by simp, by simp, by simp, rfl, by omega, h4.symm, rfl⟩ ?_
    rintro n τ ⟨j, q, m, rfl, hj, g0, g1, g5, g6, hm, hq, ht, hd⟩; by_cases hlt : j < l.length
    · have hmj : m[j]'(by omega) = l[j] := by
        have := congrArg (fun x : List Str => x[0]?) hd; simpa [hlt, hm] using this
      have hf := hp _ (gmm hlt); simp only [List.cons_append, List.nil_append] at hf; have hlt' : (j : Int) < l.length := (by omega); simp -implicitDefEqProofs [g0, g1, g5, g6, hm, hlt', hlt, hmj]; refine ⟨by simpa using hcs, A1 hf ?_⟩; by_cases he : p l[j] = true
      · simp -implicitDefEqProofs [g0, g1, g5, g6, hm, hlt', hlt, hmj, he]; refine ⟨by omega, _, ?_, j + 1, rfl, by omega, q, m, rfl, rfl, by omega, hm, by omega, ?_, ?_⟩
        · omega
        · rw [J0 hlt, List.filter_append, ht]; simp [he]
        · rw [← List.drop_drop, hd, List.drop_drop]
      · have hq2 : q < m.length := (by omega); have hqq : m[q]? = some m[q] := List.getElem?_eq_getElem hq2; simp -implicitDefEqProofs [g0, g1, g5, g6, hm, hlt', hlt, hmj, he, hqq]; refine ⟨by omega, by omega, by omega, _, ?_, j + 1, rfl, by omega, q + 1, m.set q l[j], ?_, by simp, by simp, by simpa using hm, by omega, ?_, ?_⟩
        · omega
        · rw [List.map_set]
        · rw [List.take_set, J0 hq2, List.set_append_right _ _ (by simp; omega)]; simp only [List.length_take, Nat.min_eq_left (Nat.le_of_lt hq2), Nat.sub_self, List.set_cons_zero]; rw [J0 hlt, List.filter_append, ht]; simp [he]
        · rw [List.drop_set_of_lt (by omega), ← List.drop_drop, hd, List.drop_drop]
    · simp -implicitDefEqProofs [g0, g1, g5, g6, hm, hlt]; have hjl : j = l.length := (by omega); subst hjl; refine ⟨by omega, by omega, ?_⟩; rw [List.take_append_of_le_length (by simp; omega), List.take_take, Nat.min_self, ← List.map_take, ht, List.take_length]
def U6 (R : List Chg) : List Str := (A8 R).filter fun id => !W9 R id
theorem c3k {R : List Chg} {N : SM} (hN : List.Perm N (N8 R (A8 R))) (k : Str) : I1 N k = I1 (N8 R (A8 R)) k := by
  refine b0O hN ?_ k; have : ∀ l : List Str, ((N8 R l).map (·.1)).Nodup := fun l => V8 (P := fun l => ((N8 R l).map (·.1)).Nodup) (by simp [N8]) (fun l id ih => by
    rw [a8e]; cases h : I1 (N8 R l) (K4 R id) with
    | some v => simpa using ih
    | none =>
      simp only [Option.isSome_none, Bool.false_eq_true, if_false, List.map_append, List.map_cons, List.map_nil]; refine List.nodup_append.2 ⟨ih, by simp, fun a ha b hb => ?_⟩; simp only [List.mem_singleton] at hb; subst hb; rintro rfl; obtain ⟨p, hp, e⟩ := List.mem_map.1 ha; exact a5Z.1 h p hp e) l
  exact this _
theorem c1F (R : List Chg) (sd : D) (hd : StD R sd) (id : Str) (hin : id ∈ A8 R) (hne : id ≠ []) (g : Nat) (N : SM) (bs : List Nat) (clk : Nat) (hN : List.Perm N (N8 R (A8 R))) :
    Ctr prog 65 ([.d (.str id)] ++ [D.ref (smD g N bs clk), D.ref sd].map .d) (.d (.bool (W9 R id))) := by
  obtain ⟨u1, R1, bs1, c1, u2, M, bs2, c2, rfl, hR1, hM⟩ := hd.open; obtain ⟨d, hg1, hab⟩ := hM.live hin; obtain ⟨u, V, bs', clk', hd1, hV⟩ := hab; have chg_eq : B0 (abF R id).nm = .agg [B8 (abF R id).nm.1, .int .i64 (abF R id).nm.2.1, .str (abF R id).nm.2.2.1, .str (K4 R id), .str (abF R id).nm.2.2.2.2.1, .str (abF R id).nm.2.2.2.2.2] := rfl; rw [← a5J] at hg1; rw [hd1] at hg1; have hmg := a1P N (K4 R id); rw [c3k hN] at hmg; have hob : W9 R id = decide (I1 (N8 R (A8 R)) (K4 R id) = some id) := rfl; have hlk : ∃ r w, L4 ((N.map fun p => D.str p.1).zip (N.map fun p => D.str p.2)) (.str (K4 R id)) = r ∧ a0j false (.str []) r = .d (.str w) ∧ (decide (w = id) = W9 R id) := by
    rw [hmg, hob]; cases h : I1 (N8 R (A8 R)) (K4 R id) with
    | none => exact ⟨none, [], rfl, rfl, by simp [Ne.symm hne]⟩
    | some v => exact ⟨some (.str v), v, rfl, rfl, by simp⟩
  obtain ⟨r, w, hr1, hr2, hr3⟩ := hlk; rw [← hr3]; refine fv (fun _ => false) func65 (by kernel_rfl) rfl rfl rfl rfl rfl ?_; simp -implicitDefEqProofs [smD, U3]; refine Z4 a3y (F7 _) (a4u M) Tryz.zd_75 hg1 ?_; simp -implicitDefEqProofs [P5, chg_eq, A7]; refine Z4 X3 (F7 _) (R0 N) Tryz.zd_9 hr1 ?_; rw [hr2]; simp -implicitDefEqProofs
theorem a3M (R : List Chg) (d : D) (hd : StD R d) (hG : a1H R) : Ctr prog 28 [.d d] (.own true 9 ((U6 R).map .str)) := by
  have how := b7s R d hd hG; have hlv := a3J R d hd hG.lt; have hq : ∀ id ∈ A8 R, ∀ g N bs clk, List.Perm N (N8 R (A8 R)) → _ := fun id hin g N bs clk hN => c1F R d hd id hin (hG.name id hin).ne g N bs clk hN
  have hll := a0u R; have hlt := hG.lt; obtain ⟨u1, R1, bs1, c1, u2, M, bs2, c2, rfl, hR1, hM⟩ := hd.open; have hre := a2q u1 R1 bs1 c1 u2 M bs2 c2; obtain ⟨sd, hsd⟩ : ∃ sd, U3 u1 R1 bs1 c1 u2 M bs2 c2 = .ref sd := ⟨_, rfl⟩; rw [hsd] at how hlv hre hq ⊢; refine fv (fun i => i == 5000008 || i == 10 || i == 12 || i == 2) func28 (by kernel_rfl) rfl rfl rfl rfl rfl ?_; simp -implicitDefEqProofs; refine A1 hre ?_; simp -implicitDefEqProofs; refine b1C how ?_; rintro r hs' ⟨rfl, g, N, bs, clk, hN, rfl⟩; refine ⟨rfl, ?_⟩; have hdl := b7D 65 [D.ref (smD g N bs clk), D.ref (.ref sd)] rfl (W9 R) (A8 R) (by omega) (fun id hid => hq id hid g N bs clk hN); simp -implicitDefEqProofs [smD]; refine A1 hlv ?_; simp -implicitDefEqProofs [smD]; simp only [smD] at hdl; refine A1 hdl ?_; simp -implicitDefEqProofs [U6]
theorem a5Q {s : Str} : H5 s = true ↔ ∃ l, K1 s = some l := by
  unfold H5; rw [Option.isSome_iff_exists]
theorem b4N : K1 [] = some [] := by decide
theorem c3X {s : Str} {l : List F6} (h : K1 s = some l) : s = [] ↔ l = [] := by
  constructor
  · rintro rfl; rw [b4N] at h; simpa using h.symm
  · rintro rfl; exact b2w h b4N
theorem c1S {p : F6} (h : NP p) : (V5 p).length ≤ 577 := by
  obtain ⟨h1, h2⟩ := a5R h; simp only [M0, J7, Bool.and_eq_true, decide_eq_true_eq] at h1 h2; have e1 : (P4 (S3 p.2)).length ≤ 2 * (S3 p.2).length := by
    unfold P4; generalize S3 p.2 = s
    induction s with
    | nil => simp
    | cons c s ih =>
      rw [List.flatMap_cons, List.length_append, List.length_cons]; have : (if O5 c = true then [92, c] else [c]).length ≤ 2 := by split <;> simp
      omega
  have e2 : (S3 p.2).length ≤ p.2.length := by
    have hq : ∀ (s : Str) (c : UInt8), (sqz c s).length ≤ s.length := by
      intro s
      induction s with
      | nil => intro c; simp [sqz]
      | cons x s ih =>
        intro c; simp only [sqz]; have := ih x; split <;> simp <;> omega
    unfold S3; have h3 := hq (D6 (E6 p.2)) 0; have h4 : (D6 (E6 p.2)).length = (E6 p.2).length := (by simp [D6]); have h5 : (E6 p.2).length ≤ p.2.length := Z1 p.2; omega
  have e3 : (D6 p.1).length = p.1.length := (by simp [D6]); simp only [V5, List.length_append, List.length_cons]; omega
theorem b9L {s : Str} (h : H5 s = true) : s.length ≤ 5000 := by
  obtain ⟨l, hl⟩ := a5Q.1 h; obtain ⟨h1, h8, hs, _⟩ := a1T hl; have key : ∀ l : List F6, (∀ p ∈ l, NP p) → (D8 44 (l.map V5)).length ≤ l.length * 578 := by
    intro l
    induction l with
    | nil => intro _; simp [D8]
    | cons p l ih =>
      intro h; have hp := c1S (h p (by simp)); have ih := ih (fun q hq => h q (by simp [hq])); cases l with
      | nil => simp [D8]; omega
      | cons q l =>
        simp only [List.map_cons, D8, List.length_append, List.length_cons] at ih ⊢; omega
  have := key l h1; rw [← hs] at this; omega
theorem a8E {s : Str} {p : F6} {l : List F6} (h : K1 s = some (p :: l)) : ∃ t, H6 s = (t, true) ∧ K1 t = some l := by
  have h8 := (a1T h).2.1; have ha := b8D h h (n := l) (fun q hq => .inl (by simp [hq])) (by simp at h8; omega); refine ⟨_, ?_, ha.2⟩; unfold H6; rw [h]; simp only [ha.1]
theorem b8S {p : F6} (h : N3 p = 0) : (V5 p).length ≤ 577 := by
  unfold N3 at h; split at h
  · cases h
  · split at h
    · cases h
    · rename_i h1 h2
      simp only [Bool.not_eq_false] at h1 h2; simp only [M0, J7, Bool.and_eq_true, decide_eq_true_eq] at h1 h2; have e1 : (P4 (S3 p.2)).length ≤ 2 * (S3 p.2).length := by
        unfold P4; generalize S3 p.2 = s
        induction s with
        | nil => simp
        | cons c s ih =>
          rw [List.flatMap_cons, List.length_append, List.length_cons]; have : (if O5 c = true then [92, c] else [c]).length ≤ 2 := by split <;> simp
          omega
      have e2 : (S3 p.2).length ≤ p.2.length := by
        have hq : ∀ (s : Str) (c : UInt8), (sqz c s).length ≤ s.length := by
          intro s
          induction s with
          | nil => intro c; simp [sqz]
          | cons x s ih =>
            intro c; simp only [sqz]; have := ih x; split <;> simp <;> omega
        unfold S3; have h3 := hq (D6 (E6 p.2)) 0; have h4 : (D6 (E6 p.2)).length = (E6 p.2).length := (by simp [D6]); have h5 : (E6 p.2).length ≤ p.2.length := Z1 p.2; omega
      have e3 : (D6 p.1).length = p.1.length := (by simp [D6]); simp only [V5, List.length_append, List.length_cons]; omega
theorem b5O (l : List F6) : (F4 l).1.length ≤ 5000 := by
  unfold F4; split
  · rename_i h
    unfold V3 at h; split at h
    · rename_i h1
      split at h
      · cases h
      · have h1 := a2J.1 h1; have key : ∀ l : List F6, (∀ p ∈ l, N3 p = 0) → (D8 44 (l.map V5)).length ≤ l.length * 578 := by
          intro l
          induction l with
          | nil => intro _; simp [D8]
          | cons p l ih =>
            intro h; have hp := b8S (h p (by simp)); have ih := ih (fun q hq => h q (by simp [hq])); cases l with
            | nil => simp [D8]; omega
            | cons q l =>
              simp only [List.map_cons, D8, List.length_append, List.length_cons] at ih ⊢; omega
        have := key l h1; simp only; omega
    · rename_i h1; exact absurd h h1
  · simp
def cfK (key : Str → Str) (a b : Str) : Int := orI [a0k (key a) (key b), a0B a b]
theorem a8q {key : Str → Str} {a b : Str} : cfK key a b < 0 ↔ a0k (key a) (key b) < 0 ∨ (key a = key b ∧ a < b) := by
  unfold cfK orI orI orI; by_cases h : a0k (key a) (key b) = 0
  · rw [if_neg (by simpa using h)]; by_cases h2 : a0B a b = 0
    · rw [if_neg (by simpa using h2)]; have := b9q.1 h2; subst this; simp [h]
    · rw [if_pos h2, c2J]; have := a4C.1 h; simp [this, b1Y]
  · rw [if_pos h]; have : key a ≠ key b := fun e => h (a4C.2 e)
    simp [this]
theorem a8o (key : Str → Str) (a : Str) : ¬ cfK key a a < 0 := by
  rw [a8q, b1Y]; simp
theorem a4K {key : Str → Str} {a b c : Str} (h1 : cfK key a b < 0) (h2 : cfK key b c < 0) : cfK key a c < 0 := by
  rw [a8q] at *; rcases h1 with h1 | ⟨h1, h3⟩ <;> rcases h2 with h2 | ⟨h2, h4⟩
  · exact .inl (b8h h1 h2)
  · rw [h2] at h1; exact .inl h1
  · rw [← h1] at h2; exact .inl h2
  · exact .inr ⟨h1.trans h2, a1j h3 h4⟩
theorem b5Z {key : Str → Str} {a b : Str} (h1 : ¬ cfK key a b < 0) (h2 : ¬ cfK key b a < 0) : a = b := by
  rw [a8q] at *; have h3 := b9m (key a) (key b); have h4 : a0k (key a) (key b) = 0 := (by omega); have h5 := a4C.1 h4; exact a2L (fun h => h1 (.inr ⟨h5, h⟩)) (fun h => h2 (.inr ⟨h5.symm, h⟩))
theorem a8i (key : Str → Str) : SWO (ltOf (cfK key)) where
  irrefl x := by simpa [ltOf] using a8o key x
  trans x y z h1 h2 := by
    simp only [ltOf, decide_eq_true_eq] at *; exact a4K h1 h2
  ntrans x y z h1 h2 := by
    simp only [ltOf, decide_eq_false_iff_not] at *; intro h3; by_cases h4 : cfK key y x < 0
    · exact h2 (a4K h4 h3)
    · have := b5Z h1 h4; subst this; exact h2 h3
def KS (key : Str → Str) (l : List Str) : Prop := l.Pairwise fun a b => cfK key a b < 0
theorem a6j {key : Str → Str} {l : List Str} (hn : l.Nodup) : KS key (M8 (cfK key) l) := by
  obtain ⟨h1, h2⟩ := W8 (a8i key) l; have hn' : (M8 (cfK key) l).Nodup := h1.nodup_iff.2 hn; refine List.pairwise_iff_getElem.2 fun i j hi hj hij => ?_
  have h3 := h2 i j hij hj; simp only [ltOf, decide_eq_false_iff_not] at h3; refine Classical.byContradiction fun h4 => ?_
  have := b5Z h4 h3; exact (List.pairwise_iff_getElem.1 hn') i j hi hj hij this
theorem b8G {key : Str → Str} {A B : List Str} (ha : KS key A) (hb : KS key B) (h : A.Perm B) : A = B :=
  h.eq_of_pairwise (fun a b _ _ h1 h2 => absurd (a4K h1 h2) (a8o key a)) ha hb
theorem b2d {key key' : Str → Str} {l m : List Str} (hn : l.Nodup) (hp : l.Perm m) (hk : ∀ a ∈ l, key a = key' a) : M8 (cfK key) l = M8 (cfK key') m := by
  have h1 := (W8 (a8i key) l).1; have h2 := (W8 (a8i key') m).1; have h3 : (M8 (cfK key) l).Perm (M8 (cfK key') m) := h1.trans (hp.trans h2.symm); refine b8G (key := key) (a6j hn) ?_ h3; have h4 : KS key' (M8 (cfK key') m) := a6j (hp.nodup_iff.1 hn); refine List.Pairwise.imp_of_mem (fun {a b} ha hb h => ?_) h4; have ha' : a ∈ l := hp.mem_iff.2 (h2.mem_iff.1 ha); have hb' : b ∈ l := hp.mem_iff.2 (h2.mem_iff.1 hb); simp only [cfK, hk a ha', hk b hb'] at h ⊢; exact h
def Y9 (N : SM) (id : Str) : Str := (I1 N id).getD []
theorem c2M (g : Nat) (N : SM) (bs : List Nat) (clk : Nat) (hN : ∀ p ∈ N, List.length p.2 < 900000) (a b : Str) :
    Ctr prog 118 ([.d (.str a), .d (.str b)] ++ [D.ref (smD g N bs clk)].map .d) (.d (.int .i64 (cfK (Y9 N) a b))) := by
  have hk : ∀ a, List.length (Y9 N a) < 900000 := fun a => by
    unfold Y9 I1; cases h : N.find? fun p => decide (p.1 = a) with
    | none => simp
    | some p => simpa using hN p (List.mem_of_find?_eq_some h)
  have hg : ∀ a, ∃ r, L4 ((N.map fun p => D.str p.1).zip (N.map fun p => D.str p.2)) (.str a) = r ∧ a0j false (.str []) r = .d (.str (Y9 N a)) := fun a => by
    rw [a1P]; unfold Y9; cases I1 N a <;> exact ⟨_, rfl, rfl⟩
  obtain ⟨r1, h1, h2⟩ := hg a; obtain ⟨r2, h3, h4⟩ := hg b; have c1 := b5J (Y9 N a) (Y9 N b) (hk a) (hk b); have c2 := a6H a b; have c3 := a5y [a0k (Y9 N a) (Y9 N b), a0B a b] (by simp); simp only [a1X, List.map_cons, List.map_nil] at c3; refine fv (fun i => false) func118 (by kernel_rfl) rfl rfl rfl rfl rfl ?_; simp -implicitDefEqProofs [smD]; refine Z4 X3 (F7 _) (R0 N) Tryz.zd_9 h1 ?_; rw [h2]; simp -implicitDefEqProofs; refine Z4 X3 (F7 _) (R0 N) Tryz.zd_9 h3 ?_; rw [h4]; simp -implicitDefEqProofs; refine A1 c1 ?_; simp -implicitDefEqProofs; refine A1 c2 ?_; simp -implicitDefEqProofs; refine ⟨by decide, A1 c3 ?_⟩; simp -implicitDefEqProofs [cfK]
theorem c2j (g : Nat) (N : SM) (bs : List Nat) (clk : Nat) (hN : ∀ p ∈ N, List.length p.2 < 900000) (l : List Str) (hl : l.length < 1000000) : a6c prog 162 9 (l.map .str) [.d (.clo 118 [D.ref (smD g N bs clk)])] ((M8 (cfK (Y9 N)) l).map .str) := by
  refine b6W Tryz.layT 9 (by kernel_rfl) (enters_of func162 (by kernel_rfl) rfl) D.str (fun s => Value.string ⟨s.toArray⟩) b8W (cfK (Y9 N)) (a8i _) 118 [D.ref (smD g N bs clk)] (by simp [D.isAgg]) (fun x y => c2M g N bs clk hN x y) (fun w cb => ?_) l hl; exact AnyF.slices_SortFunc_none Tryz.layU none 0 _ w
theorem b8s (g q T : Nat) (N : SM) (bs : List Nat) (clk : Nat) (hl : N.length < 1000000) (hk : ∀ p ∈ N, List.length p.1 ≤ maxLen) (hN : ∀ p ∈ N, List.length p.2 < 900000) (hnd : (N.map (·.1)).Nodup) :
    G8 prog 116 [.d (.raw (a8A 163 q)), .d (.clo 118 [D.ref (smD g N bs clk)])] [.hb (.pointer (some ⟨q, 0, none⟩)) T (smD g N bs clk)]
      (fun r hs' => r = .own true 9 ((M8 (cfK (Y9 N)) (N.map (·.1))).map .str) ∧ hs' = [.hb (.pointer (some ⟨q, 0, none⟩)) T (smD g N bs clk)]) := by
  have c1 := c1A (P := prog) (ρ := Tryz.coll_ren) (ρk := Tryz.keysA_ren) Tryz.coll { Tryz.keysA with } (enters_of func161 (by kernel_rfl) rfl) (enters_of func163 (by kernel_rfl) rfl) rfl (by decide) (by kernel_rfl) (by kernel_rfl) g q T (N.map (·.1)) (N.map fun p => .str p.2) bs clk (by simp) (by simp; omega) (by simpa using hk); have e : (D.map (.map (some g)) ((N.map (·.1)).map .str) (N.map fun p => .str p.2) bs clk) = smD g N bs clk := by simp [smD, Function.comp_def]
  rw [e] at c1; have hfix : ∀ ss, List.Perm ss (N.map (·.1)) → M8 (cfK (Y9 N)) ss = M8 (cfK (Y9 N)) (N.map (·.1)) := fun ss h => b2d (h.nodup_iff.2 hnd) h (fun _ _ => rfl)
  obtain ⟨sd, hsd⟩ : ∃ sd, smD g N bs clk = sd := ⟨_, rfl⟩; have hsI := c2j g N bs clk hN; rw [hsd] at c1 hsI ⊢; refine a1l (fun i => i == 5000007 || i == 3000010 || i == 5 || i == 8 || i == 4) (by kernel_rfl) func116 (by kernel_rfl) rfl rfl (nbl rfl) (by kernel_rfl) rfl ?_; simp -implicitDefEqProofs [A5]; refine M2 [1000000] 1000000 c1 (by simp [A5]) rfl (by simp) ?_; rintro r hs' ⟨⟨ss, hss, rfl⟩, rfl⟩; have hsl : ss.length < 1000000 := by rw [hss.length_eq]; simpa using hl
  have hI := hsI ss hsl; rw [hfix ss hss] at hI; generalize M8 (cfK (Y9 N)) (N.map (·.1)) = K at *; simp -implicitDefEqProofs [A5, D1, C0]; refine b7V hI ?_; simp -implicitDefEqProofs [A5]; exact ⟨.own true 9 (K.map .str), [1000000], by simp, by simp [isH], by simp [a1y, Tryz.coll_ren], rfl, by simp⟩
def I3 (R : List Chg) : List Str := M8 (cfK (D9 R)) (A8 R)
theorem a6I {R : List Chg} {id : Str} (h : b4n (K4 R id) id) : List.length (D9 R id) < 900000 := by
  unfold D9; split
  · exact h.own
  · have := b5O (b1L (K4 R id) id); unfold a9K; omega
theorem c4d {R : List Chg} {N : SM} (h : List.Perm N (a1I R)) : M8 (cfK (Y9 N)) (N.map (·.1)) = I3 R := by
  have hp : (N.map (·.1)).Perm (A8 R) := by rw [← a4J]; exact h.map _
  refine b2d (hp.nodup_iff.2 (a0c R)) hp (fun a ha => ?_); unfold Y9; rw [a2s h, if_pos (hp.mem_iff.1 ha)]; rfl
theorem a9S (R : List Chg) (d : D) (hG : a1H R) (g : Nat) (N : SM) (bs : List Nat) (clk : Nat) (hN : List.Perm N (a1I R)) :
    Ctr prog 66 [.d d, .d (smD g N bs clk)] (.own true 9 ((I3 R).map .str)) := by
  have hmx : (1000000 : Nat) ≤ maxLen := (by decide); have hmem : ∀ p ∈ N, p.1 ∈ A8 R ∧ p.2 = D9 R p.1 := fun p hp => by
    have := hN.mem_iff.1 hp; obtain ⟨x, hx, rfl⟩ := List.mem_map.1 this; exact ⟨hx, rfl⟩
  have hll := a0u R; have hlt := hG.lt; have hNl : N.length < 1000000 := by rw [hN.length_eq]; simp [a1I]; omega
  have hv : ∀ p ∈ N, List.length p.2 < 900000 := fun p hp => by
    rw [(hmem p hp).2]; exact a6I (hG.name _ (hmem p hp).1)
  have hk : ∀ p ∈ N, List.length p.1 ≤ maxLen := fun p hp => by
    have := (hG.name _ (hmem p hp).1).short; omega
  have hnd : (N.map (·.1)).Nodup := by
    have hp : (N.map (·.1)).Perm (A8 R) := by rw [← a4J]; exact hN.map _
    exact hp.nodup_iff.2 (a0c R)
  have c1 := c8r (P := prog) (ρk := Tryz.keysA_ren) Tryz.keysA (enters_of func117 (by kernel_rfl) rfl) g (N.map fun p => .str p.1) (N.map fun p => .str p.2) bs clk; have c2 : ∀ q, _ := fun q => b8s g q 80 N bs clk hNl hk hv hnd
  have he := c4d hN; rw [he] at c2; have e : D.map (.map (some g)) (N.map fun p => .str p.1) (N.map fun p => .str p.2) bs clk = smD g N bs clk := rfl; rw [e] at c1; obtain ⟨sd, hsd⟩ : ∃ sd, smD g N bs clk = sd := ⟨_, rfl⟩; rw [hsd] at c1 c2 ⊢; refine fv (fun i => i == 5000006 || i == 5000008 || i == 4) func66 (by kernel_rfl) rfl rfl rfl rfl rfl ?_; simp -implicitDefEqProofs; refine ⟨⟨by rw [← hsd]; rfl, by rw [← hsd]; rfl⟩, ?_⟩; refine M2 [] 1000000 c1 rfl rfl (by simp) ?_; rintro r hs' ⟨q, rfl, rfl⟩; simp -implicitDefEqProofs [D1, C0]; refine M2 [1000000] 1000000 (c2 q) (by simp; rfl) rfl (by simp) ?_; rintro r hs' ⟨rfl, rfl⟩; generalize I3 R = K at *; simp -implicitDefEqProofs [D1, C0]
def a1w (e : Str × List Att) : D := a1R e.1 e.2
def a3a (R : List Chg) (id : Str) : Str × List Att := (D9 R id, a1d R id)
def a0C (R : List Chg) : List (Str × List Att) := (I3 R).map (a3a R)
theorem a2m {R : List Chg} {id : Str} : id ∈ I3 R ↔ id ∈ A8 R := (W8 (a8i (D9 R)) (A8 R)).1.mem_iff
theorem a4j {R : List Chg} : (I3 R).length = (A8 R).length := (W8 (a8i (D9 R)) (A8 R)).1.length_eq
def EsI (R : List Chg) (sd : D) (g : Nat) (N : SM) (bs : List Nat) (clk : Nat) (k : Nat) (τ : St) : Prop := τ 0 = .d sd ∧ τ 3 = .d (smD g N bs clk) ∧ τ 4 = .own true 48 (((I3 R).take k).map fun id => a1w (a3a R id)) ∧ τ 14 = .own false 9 ((I3 R).map .str) ∧ τ 15 = .d (.int .i64 (I3 R).length) ∧ τ 16 = .d (.int .i64 k)
theorem b0i (R : List Chg) (d : D) (hd : StD R d) (hG : a1H R) : Ctr prog 30 [.d d] (.own true 48 ((a0C R).map a1w)) := by
  have hdi := a1F R d hd hG; have hor : ∀ g N bs clk, List.Perm N (a1I R) → _ := fun g N bs clk hN => a9S R d hG g N bs clk hN
  have hen : ∀ id s, id ∈ A8 R → _ := fun id s h => b5d R d id s hd hG h
  have hll := a0u R; have hlt := hG.lt; have hol := a4j (R := R); obtain ⟨u1, R1, bs1, c1, u2, M, bs2, c2, rfl, hR1, hM⟩ := hd.open; have hre := a2q u1 R1 bs1 c1 u2 M bs2 c2; obtain ⟨sd, hsd⟩ : ∃ sd, U3 u1 R1 bs1 c1 u2 M bs2 c2 = .ref sd := ⟨_, rfl⟩; rw [hsd] at hdi hor hre hen ⊢; refine fv (fun i => i == 5000011 || i == 2 || i == 4) func30 (by kernel_rfl) rfl rfl rfl rfl rfl ?_; simp -implicitDefEqProofs; refine A1 hre ?_; simp -implicitDefEqProofs; refine b1C hdi ?_; rintro r hs' ⟨rfl, g, N, bs, clk, hN, rfl⟩; refine ⟨rfl, ?_⟩; have hor := hor g N bs clk hN; simp only [smD] at hor; simp -implicitDefEqProofs [smD]; refine A1 hor ?_; simp -implicitDefEqProofs [smD]; refine H2 (I3 R).length (EsI R (.ref sd) g N bs clk) ⟨by simp, by simp [smD], by simp, by simp, by simp, by simp⟩ ?_; rintro k τ hk ⟨g0, g3, g4, g14, g15, g16⟩; rcases Nat.lt_or_ge k (I3 R).length with hlt | hlt
  · have hlt' : (k : Int) < (I3 R).length := (by omega); have hin : (I3 R)[k] ∈ A8 R := a2m.1 (gmm _); have hge := a1P N (I3 R)[k]; rw [a2s hN, if_pos hin] at hge; have he := hen (I3 R)[k] (D9 R (I3 R)[k]) hin; have htk : ((I3 R).take (k + 1)).map (fun id => a1w (a3a R id)) = ((I3 R).take k).map (fun id => a1w (a3a R id)) ++ [a1w (a3a R (I3 R)[k])] := by rw [J0 hlt, List.map_append]; rfl
    have htl : (((I3 R).take k).map (fun id => a1w (a3a R id))).length ≤ 100000 := by simp; omega
    generalize ((I3 R).take k).map (fun id => a1w (a3a R id)) = T at *; simp -implicitDefEqProofs [g0, g3, g4, g14, g15, g16, hlt, hlt', smD]; refine Z4 X3 (F7 _) (R0 N) Tryz.zd_9 hge ?_; simp -implicitDefEqProofs [g0, g3, g4, g14, g15, g16, hlt, hlt', smD]; refine A1 he ?_; simp -implicitDefEqProofs [g0, g3, g4, g14, g15, g16, hlt, hlt', smD]; exact ⟨rfl, by omega, by omega, by omega, D7 hlt ⟨by simp [g0], by simp [g3, smD], by rw [htk]; simp [a1w, a3a], by simp [g14], by simp [g15], by simp⟩⟩
  · have hlt' : ¬ (k : Int) < (I3 R).length := (by omega); have hlt'' : ¬ k < (I3 R).length := (by omega); simp -implicitDefEqProofs [g0, g3, g4, g14, g15, g16, hlt', hlt'', a0C]; rw [ttl (by simpa using hlt)]; simp [Function.comp_def]
theorem b0l (s : Str) : List.length (H6 s).1 ≤ 5000 := by
  cases h : K1 s with
  | none => simp [H6, h]
  | some l =>
    cases l with
    | nil => simp [H6, h]
    | cons p l =>
      obtain ⟨t, h1, h2⟩ := a8E h; rw [h1]; exact b9L (a5Q.2 ⟨_, h2⟩)
def U8 (R : List Chg) (id : Str) : Str := (H6 (D9 R id)).1
def a6w (R : List Chg) (X : List Str) (id : Str) : Bool := decide (1 < T7 (U8 R id)) && !decide (U8 R id ∈ X)
def b4d (X : List Str) (s : Str) : List Str := if s ∈ X then X else X ++ [s]
def a0T (R : List Chg) (p : List Str × List Str) (id : Str) : List Str × List Str := if a6w R p.1 id then (p.1, p.2 ++ [id]) else (b4d p.1 (D9 R id), p.2)
def H7 (R : List Chg) (l : List Str) : List Str × List Str := l.foldl (a0T R) ([], [])
def P0 (R : List Chg) : List Str := I4 (H7 R (I3 R)).2
theorem a1U (R : List Chg) (l : List Str) (id : Str) : H7 R (l ++ [id]) = a0T R (H7 R l) id := by simp [H7]
theorem a7u (R : List Chg) (l : List Str) : (H7 R l).2.length ≤ l.length := by
  refine V8 (P := fun l => (H7 R l).2.length ≤ l.length) (by simp [H7]) (fun l id ih => ?_) l; rw [a1U]; unfold a0T; split
  · simp; omega
  · simp; omega
def a0P (X : List Str) : List (D × D) := X.map fun s => (D.str s, D.bool true)
theorem b8x (X : List Str) (k : Str) : L4 (a0P X) (.str k) = if k ∈ X then some (.bool true) else none := by
  induction X with
  | nil => rfl
  | cons x X ih =>
    simp only [L4, a0P, List.map_cons, List.find?_cons, K5] at ih ⊢; by_cases h : x = k
    · simp [h]
    · simp only [decide_eq_false h]; rw [ih]; have : ¬ k = x := fun e => h e.symm
      simp [this]
theorem b7U (X : List Str) (k : Str) : R8 (a0P X) (.str k) (.bool true) = a0P (b4d X k) := by
  unfold R8 b4d; by_cases h : k ∈ X
  · rw [if_pos h, if_pos (by simp [a0P, K5, h])]; unfold a0P; rw [List.map_map]; refine List.map_congr_left fun x _ => ?_
    simp only [Function.comp_apply, K5]; exact ite_self _
  · rw [if_neg h, if_neg (by
      simp only [a0P, List.any_map, List.any_eq_true, Function.comp_apply, K5, decide_eq_true_eq, not_exists, not_and]; rintro x hx rfl; exact h hx)]
    simp [a0P]
theorem b3o : Program.underlying prog 95 = some (.map 9 4) := by kernel_rfl
def OrI (R : List Chg) (sd : D) (g : Nat) (N : SM) (bs : List Nat) (clk : Nat) (g2 : Nat) (k : Nat) (τ : St) : Prop := τ 3 = .d (smD g N bs clk) ∧ τ 4 = .d (.raw (.map (some g2))) ∧ τ 5 = .own true 9 ((H7 R ((I3 R).take k)).2.map .str) ∧ τ 18 = .own false 9 ((I3 R).map .str) ∧ τ 19 = .d (.int .i64 (I3 R).length) ∧ τ 20 = .d (.int .i64 k) ∧
  τ 1000000 = .hm (.map (some g2)) 9 (a0P (H7 R ((I3 R).take k)).1) none
theorem a9X (R : List Chg) (d : D) (hd : StD R d) (hG : a1H R) : Ctr prog 29 [.d d] (.own true 9 ((P0 R).map .str)) := by
  have hdi := a1F R d hd hG; have hor : ∀ g N bs clk, List.Perm N (a1I R) → _ := fun g N bs clk hN => a9S R d hG g N bs clk hN
  have hll := a0u R; have hlt := hG.lt; have hol := a4j (R := R); obtain ⟨u1, R1, bs1, c1, u2, M, bs2, c2, rfl, hR1, hM⟩ := hd.open; have hre := a2q u1 R1 bs1 c1 u2 M bs2 c2; obtain ⟨sd, hsd⟩ : ∃ sd, U3 u1 R1 bs1 c1 u2 M bs2 c2 = .ref sd := ⟨_, rfl⟩; rw [hsd] at hdi hor hre ⊢; refine fv (fun i => i == 5000014 || i == 2 || i == 5 || i == 49 || i == 3000050) func29 (by kernel_rfl) rfl rfl rfl rfl rfl ?_; simp -implicitDefEqProofs; refine A1 hre ?_; simp -implicitDefEqProofs; refine b1C hdi ?_; rintro r hs' ⟨rfl, g, N, bs, clk, hN, rfl⟩; refine ⟨rfl, ?_⟩; have hor := hor g N bs clk hN; simp only [smD] at hor; simp -implicitDefEqProofs [smD]; refine b0U 9 1000000 (by simp) (fun g2 => ?_); simp -implicitDefEqProofs [smD]; refine A1 hor ?_; simp -implicitDefEqProofs [smD]; refine H2 (I3 R).length (OrI R (.ref sd) g N bs clk g2) ⟨by simp [smD], by simp, by simp [H7], by simp, by simp, by simp, by simp [H7, a0P]⟩ ?_; rintro k τ hk ⟨g3, g4, g5, g18, g19, g20, gB⟩; rcases Nat.lt_or_ge k (I3 R).length with hlt | hlt
  · have hlt' : (k : Int) < (I3 R).length := (by omega); obtain ⟨id, hid⟩ : ∃ id, (I3 R)[k] = id := ⟨_, rfl⟩; have hin : id ∈ A8 R := by rw [← hid]; exact a2m.1 (gmm _)
    have hge := a1P N id; rw [a2s hN, if_pos hin] at hge; have hsn := a1U R ((I3 R).take k) id; rw [← hid, ← J0 hlt, hid] at hsn; have hol := a7u R ((I3 R).take k); rw [List.length_take] at hol; have c1 := b7p (D9 R id) (a6I (hG.name id hin)); obtain ⟨b, hb⟩ : ∃ b, (H6 (D9 R id)).2 = b := ⟨_, rfl⟩; have hpl := b0l (D9 R id); have c2 := b8E (U8 R id) (by unfold U8; omega); have hpp : (H6 (D9 R id)).1 = U8 R id := rfl; rw [hpp, hb] at c1; have hmg := b8x (H7 R ((I3 R).take k)).1 (U8 R id); have hms := b7U (H7 R ((I3 R).take k)).1 (D9 R id); have hq : a6w R (H7 R ((I3 R).take k)).1 id = (decide (1 < T7 (U8 R id)) && !decide (U8 R id ∈ (H7 R ((I3 R).take k)).1)) := rfl; unfold a0T at hsn; generalize H7 R ((I3 R).take k) = T at *; rcases Classical.em (1 < T7 (U8 R id)) with h1 | h1
    · have h1' : (1 : Int) < T7 (U8 R id) := (by omega); rcases Classical.em (U8 R id ∈ T.1) with h2 | h2
      · rw [if_pos h2] at hmg; simp only [h1, h2, decide_true, Bool.not_true, Bool.and_false] at hq; simp only [hq, Bool.false_eq_true, if_false] at hsn; simp -implicitDefEqProofs [g3, g4, g5, g18, g19, g20, hlt, hlt', smD, hid]; refine Z4 X3 (F7 _) (R0 N) Tryz.zd_9 hge ?_; simp -implicitDefEqProofs [g3, g4, g5, g18, g19, g20, hlt, hlt', smD, hid]; refine A1 c1 ?_; simp -implicitDefEqProofs [g3, g4, g5, g18, g19, g20, hlt, hlt', smD, hid]; refine A1 c2 ?_; simp -implicitDefEqProofs [g3, g4, g5, g18, g19, g20, hlt, hlt', smD, h1, h1']; refine a0R (m := a0P T.1) (E := none) 1000000 (by omega) b3o (by simp [gB]) (F7 _) Tryz.zd_4 hmg ?_; simp -implicitDefEqProofs [g3, g4, g5, g18, g19, g20, hlt, hlt', smD, h1, h1']; refine Z4 X3 (F7 _) (R0 N) Tryz.zd_9 hge ?_; simp -implicitDefEqProofs [g3, g4, g5, g18, g19, g20, hlt, hlt', smD, h1, h1']; refine a5A (m := a0P T.1) (E := none) 1000000 b3o (by simp [gB]) (F7 _) _ (List.Perm.refl _) ?_; rw [hms]; simp -implicitDefEqProofs [g3, g4, g5, g18, g19, g20, hlt, hlt', smD, h1, h1']; exact ⟨by omega, D7 hlt ⟨by simp [g3, smD], by simp [g4], by simp [g5, hsn], by simp [g18], by simp [g19], by simp, by simp [hsn]⟩⟩
      · rw [if_neg h2] at hmg; simp only [h1, h2, decide_true, decide_false, Bool.not_false, Bool.and_true] at hq; simp only [hq, if_true] at hsn; simp -implicitDefEqProofs [g3, g4, g5, g18, g19, g20, hlt, hlt', smD, hid]; refine Z4 X3 (F7 _) (R0 N) Tryz.zd_9 hge ?_; simp -implicitDefEqProofs [g3, g4, g5, g18, g19, g20, hlt, hlt', smD, hid]; refine A1 c1 ?_; simp -implicitDefEqProofs [g3, g4, g5, g18, g19, g20, hlt, hlt', smD, hid]; refine A1 c2 ?_; simp -implicitDefEqProofs [g3, g4, g5, g18, g19, g20, hlt, hlt', smD, h1, h1']; refine a0R (m := a0P T.1) (E := none) 1000000 (by omega) b3o (by simp [gB]) (F7 _) Tryz.zd_4 hmg ?_; simp -implicitDefEqProofs [g3, g4, g5, g18, g19, g20, hlt, hlt', smD, h1, h1']; exact ⟨by omega, by omega, by omega, D7 hlt ⟨by simp [g3, smD], by simp [g4], by simp [hsn], by simp [g18], by simp [g19], by simp, by simp [gB, hsn]⟩⟩
    · have h1' : ¬ (1 : Int) < T7 (U8 R id) := (by omega); simp only [h1, decide_false, Bool.false_and] at hq; simp only [hq, Bool.false_eq_true, if_false] at hsn; simp -implicitDefEqProofs [g3, g4, g5, g18, g19, g20, hlt, hlt', smD, hid]; refine Z4 X3 (F7 _) (R0 N) Tryz.zd_9 hge ?_; simp -implicitDefEqProofs [g3, g4, g5, g18, g19, g20, hlt, hlt', smD, hid]; refine A1 c1 ?_; simp -implicitDefEqProofs [g3, g4, g5, g18, g19, g20, hlt, hlt', smD, hid]; refine A1 c2 ?_; simp -implicitDefEqProofs [g3, g4, g5, g18, g19, g20, hlt, hlt', smD, h1, h1']; refine Z4 X3 (F7 _) (R0 N) Tryz.zd_9 hge ?_; simp -implicitDefEqProofs [g3, g4, g5, g18, g19, g20, hlt, hlt', smD, h1, h1']; refine a5A (m := a0P T.1) (E := none) 1000000 b3o (by simp [gB]) (F7 _) _ (List.Perm.refl _) ?_; rw [hms]; simp -implicitDefEqProofs [g3, g4, g5, g18, g19, g20, hlt, hlt', smD, h1, h1']; exact ⟨by omega, D7 hlt ⟨by simp [g3, smD], by simp [g4], by simp [g5, hsn], by simp [g18], by simp [g19], by simp, by simp [hsn]⟩⟩
  · have hlt' : ¬ (k : Int) < (I3 R).length := (by omega); have hlt'' : ¬ k < (I3 R).length := (by omega); rw [ttl (by simpa using hlt)] at g5 gB; have c1 := b1F (H7 R (I3 R)).2 (by have := a7u R (I3 R); omega); have e : I4 (H7 R (I3 R)).2 = P0 R := rfl; rw [e] at c1; simp -implicitDefEqProofs [g3, g4, g5, g18, g19, g20, hlt', hlt'']; refine b7V c1 ?_; simp -implicitDefEqProofs [g3, g4, g5, g18, g19, g20, hlt', hlt'']
theorem b0X (l m : List Str) (hl : l.length < 1000000) (hm : m.length < 1000000) : Ctr prog 38 [.d (B6 l), .d (B6 m)] (.d (.bool (decide (l = m)))) := by
  refine fv (fun _ => false) func38 (by kernel_rfl) rfl rfl rfl rfl rfl ?_; by_cases hlm : l.length = m.length
  · simp -implicitDefEqProofs [B6, hlm]; refine H2 m.length (fun k τ => τ 0 = .d (B6 l) ∧ τ 1 = .d (B6 m) ∧ τ 5 = .d (.int .i64 k) ∧ l.take k = m.take k) (by simp [B6, hlm]) ?_; rintro k τ hk ⟨h0, h1, h5, ht⟩; by_cases hlt : k < m.length
    · have hlt' : k < l.length := (by omega); by_cases he : l[k] = m[k]
      · simp -implicitDefEqProofs [h0, h1, h5, B6, hlm, hlt, hlt', he]; refine ⟨by omega, D7 hlt ⟨by simp [h0, B6], by simp [h1, B6], by simp, ?_⟩⟩; rw [J0 hlt, J0 hlt', ht, he]
      · simp -implicitDefEqProofs [h0, h1, h5, B6, hlm, hlt, hlt', he]; rintro rfl; exact he rfl
    · rw [ttl (by omega), ttl (by omega)] at ht; simp -implicitDefEqProofs [h0, h1, h5, B6, hlm, hlt, ht]; try omega
  · have hlm' : ¬ (l.length : Int) = m.length := (by omega); simp -implicitDefEqProofs [B6, hlm']; rintro rfl; exact hlm rfl
theorem a4i (l : List Str) (s : Str) (hl : l.length < 1000000) : Ctr prog 32 [.d (B6 l), .d (.str s)] (.d (.bool (decide (s ∈ l)))) := by
  refine fv (fun _ => false) func32 (by kernel_rfl) rfl rfl rfl rfl rfl ?_; simp -implicitDefEqProofs; refine H2 l.length (fun k τ => τ 0 = .d (B6 l) ∧ τ 1 = .d (.str s) ∧ τ 5 = .d (.int .i64 k) ∧ s ∉ l.take k) (by simp) ?_; rintro k τ hk ⟨h0, h1, h5, hn⟩; by_cases hlt : k < l.length
  · by_cases he : l[k] = s
    · simp -implicitDefEqProofs [h0, h1, h5, B6, hlt, he]; exact he ▸ gmm _
    · simp -implicitDefEqProofs [h0, h1, h5, B6, hlt, he]; refine ⟨by omega, D7 hlt ⟨by simp [h0, B6], by simp [h1], by simp, ?_⟩⟩; rw [J0 hlt, List.mem_append, List.mem_singleton]; rintro (h | h)
      · exact hn h
      · exact he h.symm
  · simp -implicitDefEqProofs [h0, h5, B6, hlt]; rw [ttl (by omega)] at hn
    first | exact ⟨by omega, hn⟩ | exact hn
def a7M (a b : List Str) : Bool := a.all fun x => decide (x ∈ b)
theorem b0Z (a b : List Str) (ha : a.length < 1000000) (hb : b.length < 1000000) : Ctr prog 33 [.d (B6 a), .d (B6 b)] (.d (.bool (a7M a b))) := by
  refine fv (fun _ => false) func33 (by kernel_rfl) rfl rfl rfl rfl rfl ?_; obtain ⟨R, hR⟩ : ∃ R, a7M a b = R := ⟨_, rfl⟩; rw [hR]; simp -implicitDefEqProofs; refine H2 a.length (fun k τ => τ 0 = .d (B6 a) ∧ τ 1 = .d (B6 b) ∧ τ 5 = .d (.int .i64 k) ∧ a7M (a.drop k) b = R) ⟨by simp, by simp, by simp, by simpa using hR⟩ ?_; rintro k τ hk ⟨h0, h1, h5, hn⟩; by_cases hlt : k < a.length
  · have c1 := a4i b a[k] hb; rw [List.drop_eq_getElem_cons hlt, a7M, List.all_cons] at hn; by_cases he : a[k] ∈ b
    · simp only [he, decide_true, Bool.true_and] at hn c1; simp -implicitDefEqProofs [h0, h1, h5, B6, hlt]; simp only [B6] at c1; refine A1 c1 ?_; simp -implicitDefEqProofs [h0, h1, h5, B6, hlt, he]; refine ⟨by omega, D7 hlt ⟨by simp [h0, B6], by simp [h1, B6], by simp, hn⟩⟩
    · simp only [he, decide_false, Bool.false_and] at hn c1; simp -implicitDefEqProofs [h0, h1, h5, B6, hlt]; simp only [B6] at c1; refine A1 c1 ?_; have hR0 : R = false := hn.symm; subst hR0; simp -implicitDefEqProofs [h0, h1, h5, B6, hlt, he]
  · rw [List.drop_eq_nil_of_le (by omega)] at hn; have : R = true := hn.symm; simp -implicitDefEqProofs [h0, h1, h5, B6, hlt, this]
theorem b9x (s : Str) (hs : List.length s < 900000) : Ctr prog 31 [.d (.str s)] (.tup [.d (.int .i64 (T7 (H6 s).1)), .d (.str (H6 s).1)]) := by
  have c1 := b5Q s hs; have hl := b0l s; have c2 := b8n (H6 s).1 (by omega); generalize (H6 s).1 = p at *; generalize (H6 s).2 = b at *; refine H1 (rv := .tmp 2) (rs := [.tmp 3]) (r := .d (.int .i64 (T7 p))) (ys := [.d (.str p)]) (fun i => false) (by kernel_rfl) func31 (by kernel_rfl) rfl rfl (by simp) (nbl rfl) (by kernel_rfl) rfl rfl ?_; simp -implicitDefEqProofs; refine A1 c1 ?_; simp -implicitDefEqProofs; refine A1 c2 ?_; simp -implicitDefEqProofs
def smC (c : Chg) : Bool := decide (List.length c.2.2.1 ≤ 100) && (decide (List.length c.2.2.2.1 ≤ 300) && (decide (List.length c.2.2.2.2.1 ≤ 100) && decide (List.length c.2.2.2.2.2 ≤ 300)))
def a3R (l : List Chg) : Bool := l.all smC && decide (l.length ≤ 14)
theorem c1U (l : List Chg) (hl : l.length ≤ 140737488351232) : Ctr prog 9 [.d (O6 l)] (.d (.bool (a3R l))) := by
  refine fv (fun i => false) func9 (by kernel_rfl) rfl rfl rfl rfl rfl ?_; obtain ⟨R, hR⟩ : ∃ R, a3R l = R := ⟨_, rfl⟩; rw [hR]; simp -implicitDefEqProofs; refine H2 l.length (fun k τ => τ 0 = .d (O6 l) ∧ τ 3 = .d (.int .i64 k) ∧ ((l.drop k).all smC && decide (l.length ≤ 14)) = R) ⟨by simp, by simp, by simpa [a3R] using hR⟩ ?_; rintro k τ hk ⟨h0, h3, hn⟩; by_cases hlt : k < l.length
  · have hlt' : (k : Int) < l.length := (by omega); obtain ⟨x, hx⟩ : ∃ x, l[k] = x := ⟨_, rfl⟩; rw [List.drop_eq_getElem_cons hlt, List.all_cons, hx] at hn; obtain ⟨n, op, id, nm, at_, va_⟩ := x; have ec : B0 (n, op, id, nm, at_, va_) = .agg [B8 n, .int .i64 op, .str id, .str nm, .str at_, .str va_] := rfl; simp only [smC] at hn; have hF : ∀ (s : Str) (m : Nat), (m : Int) < (List.length s : Nat) → decide (List.length s ≤ m) = false := fun s m h => by simp only [decide_eq_false_iff_not]; omega
    have hT : ∀ (s : Str) (m : Nat), ¬ (m : Int) < (List.length s : Nat) → decide (List.length s ≤ m) = true := fun s m h => by simp only [decide_eq_true_eq]; omega
    rcases Classical.em (((100 : Nat) : Int) < (List.length id : Nat)) with q0 | q0
    · rw [hF id 100 q0] at hn; simp only [Bool.and_false, Bool.false_and, Bool.true_and] at hn; have hR0 : R = false := hn.symm; subst hR0; have q0' : (100 : Int) < (List.length id : Nat) := q0; simp -implicitDefEqProofs [h0, h3, O6, hlt, hlt', hx, ec, A7, q0']
    · rw [hT id 100 q0] at hn; have q0' : ¬ (100 : Int) < (List.length id : Nat) := q0; simp only [Bool.true_and] at hn; rcases Classical.em (((300 : Nat) : Int) < (List.length nm : Nat)) with q1 | q1
      · rw [hF nm 300 q1] at hn; simp only [Bool.and_false, Bool.false_and, Bool.true_and] at hn; have hR0 : R = false := hn.symm; subst hR0; have q1' : (300 : Int) < (List.length nm : Nat) := q1; simp -implicitDefEqProofs [h0, h3, O6, hlt, hlt', hx, ec, A7, q0', q1']
      · rw [hT nm 300 q1] at hn; have q1' : ¬ (300 : Int) < (List.length nm : Nat) := q1; simp only [Bool.true_and] at hn; rcases Classical.em (((100 : Nat) : Int) < (List.length at_ : Nat)) with q2 | q2
        · rw [hF at_ 100 q2] at hn; simp only [Bool.and_false, Bool.false_and, Bool.true_and] at hn; have hR0 : R = false := hn.symm; subst hR0; have q2' : (100 : Int) < (List.length at_ : Nat) := q2; simp -implicitDefEqProofs [h0, h3, O6, hlt, hlt', hx, ec, A7, q0', q1', q2']
        · rw [hT at_ 100 q2] at hn; have q2' : ¬ (100 : Int) < (List.length at_ : Nat) := q2; simp only [Bool.true_and] at hn; rcases Classical.em (((300 : Nat) : Int) < (List.length va_ : Nat)) with q3 | q3
          · rw [hF va_ 300 q3] at hn; simp only [Bool.and_false, Bool.false_and, Bool.true_and] at hn; have hR0 : R = false := hn.symm; subst hR0; have q3' : (300 : Int) < (List.length va_ : Nat) := q3; simp -implicitDefEqProofs [h0, h3, O6, hlt, hlt', hx, ec, A7, q0', q1', q2', q3']
          · rw [hT va_ 300 q3] at hn; have q3' : ¬ (300 : Int) < (List.length va_ : Nat) := q3; simp only [Bool.true_and] at hn; simp -implicitDefEqProofs [h0, h3, O6, hlt, hlt', hx, ec, A7, q0', q1', q2', q3']; exact ⟨by omega, D7 hlt ⟨by simp [h0, O6], by simp, hn⟩⟩
  · rw [List.drop_eq_nil_of_le (by omega), List.all_nil, Bool.true_and] at hn; have hlt' : ¬ (k : Int) < l.length := (by omega); simp -implicitDefEqProofs [h0, h3, O6, hlt, hlt']; rw [← hn]; rw [Bool.eq_iff_iff, decide_eq_true_eq, decide_eq_true_eq]; omega
def a2O : Str := [109, 97, 105, 108]
def atC (t op : Int) (id nm v : Str) : Chg := if op = 4 ∨ op = 5 then ((t, 0, 0), op, id, nm, a2O, v) else ((t, 0, 0), op, id, nm, [], [])
theorem a8x (t op : Int) (id nm v : Str) : Ctr prog 37 [.d (.int .i64 t), .d (.int .i64 op), .d (.str id), .d (.str nm), .d (.str v)] (.d (B0 (atC t op id nm v))) := by
  have hE : ∀ a b : Str, B0 ((t, 0, 0), op, id, nm, a, b) = .agg [.agg [.int .i64 t, .int .i64 0, .int .i64 0], .int .i64 op, .str id, .str nm, .str a, .str b] := fun _ _ => rfl
  have hA : atC t op id nm v = if op = 4 ∨ op = 5 then ((t, 0, 0), op, id, nm, a2O, v) else ((t, 0, 0), op, id, nm, [], []) := rfl
  generalize atC t op id nm v = X at *; refine H1 (rv := .cell 10 35) (rs := []) (r := .d (B0 X)) (ys := []) (fun i => false) (by kernel_rfl) func37 (by kernel_rfl) rfl rfl (by simp) (nbl rfl) (by kernel_rfl) rfl rfl ?_; rcases Classical.em (op = 4) with h4 | h4
  · rw [if_pos (.inl h4)] at hA; subst hA; rw [hE]; simp -implicitDefEqProofs [h4, a2O]
  · rcases Classical.em (op = 5) with h5 | h5
    · rw [if_pos (.inr h5)] at hA; subst hA; rw [hE]; simp -implicitDefEqProofs [h5, a2O]
    · rw [if_neg (by simp [h4, h5])] at hA; subst hA; rw [hE]; simp -implicitDefEqProofs [h4, h5]
abbrev d1j := Str × List Att
structure d4t (e : d1j) : Prop where
  normal : O0 e.2 = e.2
  fit : b6H e.2
theorem a1m {P : Program} {f : FuncId} {args : List AV} {e : TypeId} {l : List D} (h : Ctr P f args (.own true e l)) : Ctr P f args (.d (.sl l)) := by
  refine ⟨h.1, fun w L og vals hlok hgl hog hv => (h.2 w L og vals hlok hgl hog hv).mono ?_⟩; rintro x w' ⟨v, L', og', rfl, hgr, hlok', hold', hog', hrc⟩; obtain ⟨L2, hrc2, hlok2, hold2, hext2⟩ := hrc.demote false hlok' (fun g hg => (hog' g hg).1); refine ⟨v, L2, none, rfl, hgr, hlok2, fun c q hc hne => ?_, (fun g hg => by cases hg), E3.at_ (P := P) hrc2⟩; refine (hold2 c q (fun e => ?_)).trans (hold' c q hc hne); rcases (hog' c e.symm).2 with h1 | h1
  · omega
  · exact hne h1
structure d4h (R1 R2 : List Chg) : Prop where
  live : A8 R1 = A8 R2
  conf : U6 R1 = U6 R2
  orph : P0 R1 = P0 R2
  ents : a0C R1 = a0C R2
  entry : ∀ id, O7 R1 id = O7 R2 id
theorem a8w (s r m : Nat) (R : List Chg) (E : List X9) : (stH s r m R E).all isH = true := by
  rw [List.all_eq_true]; intro x hx; simp only [stH, U0, List.mem_append, List.mem_flatMap, List.mem_cons, List.not_mem_nil, or_false] at hx; rcases hx with (rfl | rfl | rfl) | ⟨e, _, hx⟩
  · rfl
  · rfl
  · rfl
  · simp only [a2w, List.mem_cons, List.not_mem_nil, or_false] at hx; rcases hx with rfl | rfl <;> rfl
theorem a8m (s r m : Nat) (R : List Chg) (E : List X9) : (stH s r m R E).length = 3 + 2 * E.length := by
  have : ∀ E : List X9, (E.flatMap a2w).length = 2 * E.length := fun E => by
    induction E with
    | nil => rfl
    | cons e E ih => rw [List.flatMap_cons, List.length_append, ih]; simp [a2w]; omega
  simp [stH, U0, this]; omega
theorem b4H (R : List Chg) : (S8 R).length ≤ R.length := by
  refine V8 (P := fun R => (S8 R).length ≤ R.length) (Nat.le_refl _) (fun R c ih => ?_) R; rw [a4y]; unfold a3Z; split
  · simp; omega
  · simp; omega
structure a6L (R : List Chg) : Prop where
  fit : ∀ c ∈ R, S4 c
  ok : ∀ c ∈ R, Q4 c = 0
  nd : R.Nodup
  few : R.length ≤ 4096
theorem a9P : a6L [] := ⟨by simp, by simp, List.nodup_nil, by simp⟩
theorem a5F {R : List Chg} (h : a6L R) {c : Chg} (hc : S4 c) : a6L (Y1 R c) := by
  unfold Y1; split
  · rename_i hh
    refine ⟨fun x hx => ?_, fun x hx => ?_, ?_, ?_⟩
    · rcases List.mem_append.1 hx with hx | hx
      · exact h.fit x hx
      · rw [List.mem_singleton.1 hx]; exact hc
    · rcases List.mem_append.1 hx with hx | hx
      · exact h.ok x hx
      · rw [List.mem_singleton.1 hx]; exact hh.1
    · refine List.nodup_append.2 ⟨h.nd, by simp, fun a ha b hb => ?_⟩; rw [List.mem_singleton.1 hb]; rintro rfl; exact hh.2.1 ha
    · simp; omega
  · exact h
theorem b3M {R : List Chg} (h : a6L R) {s r m : Nat} {E : List X9} (hE : Z2 E = S8 R) : (stH s r m R E).length ≤ 500000 := by
  rw [a8m]; have h1 : E.length = (S8 R).length := by rw [← hE]; simp [Z2]
  have := b4H R; have := h.few; omega
def StF (σ : St) (B s : Nat) (R : List Chg) : Prop := a6L R ∧ ∃ r m E, Z2 E = S8 R ∧ Fam σ B (stH s r m R E)
theorem StF.put {σ : St} {B s d : Nat} {R : List Chg} {x : AV} (h : StF σ B s R) (hd : d < B) : StF (Vw.put σ d x) B s R := by
  obtain ⟨hR, r, m, E, hE, hF⟩ := h; exact ⟨hR, r, m, E, hE, hF.put hd⟩
theorem StF.setv {σ : St} {B s d : Nat} {R : List Chg} {x : AV} (h : StF σ B s R) (hd : d < B) : StF (Vw.A9 σ d x) B s R := by
  obtain ⟨hR, r, m, E, hE, hF⟩ := h; exact ⟨hR, r, m, E, hE, hF.setv hd⟩
theorem StF.clean {σ : St} {B s : Nat} {R : List Chg} (h : StF σ B s R) (ds : List Nat) : StF (Vw.J8 ds σ) B s R := by
  obtain ⟨hR, r, m, E, hE, hF⟩ := h; exact ⟨hR, r, m, E, hE, hF.clean ds⟩
theorem b5k {σ : St} {d : Nat} {K : St → Prop} (B s : Nat) (hB : 1000000 ≤ B) (hd : d < 1000000) {R : List Chg} {c : Chg} (hF : StF σ B s R) (hc : S4 c)
    (hk : ∀ τ ks, StF τ B s (Y1 R c) → τ d = .d (.int .i64 (W1 R c)) → (∀ j, j < 1000000 → ks.contains j = false) → (∀ i, i < 1000000 → i ≠ d → τ i = F3 ks (E5 d (σ i))) →
      (∀ B2 hs2, Fam σ B2 hs2 → 1000000 ≤ B2 → (B2 + 1000000 ≤ B ∨ B + 1000000 ≤ B2) → Fam τ B2 hs2) → K τ) : a3i prog 13 [.d (.raw (va s)), .d (B0 c)] σ d K := by
  obtain ⟨hR, r, m, E, hE, hFam⟩ := hF; refine c5x B hB hd hFam (c1w s r m R E hE hR.fit c hc) (fun x hs' hp => ?_) (fun x hs' τ ks ls hp hF' h1 h2 h3 h4 => ?_)
  · obtain ⟨_, E', hE', rfl⟩ := hp; exact ⟨a8w _ _ _ _ _, b3M (a5F hR hc) hE'⟩
  · obtain ⟨rfl, E', hE', rfl⟩ := hp; refine hk τ ks ⟨a5F hR hc, r, m, E', hE', hF'⟩ ?_ h1 (fun i hi hne => ?_) h4
    · rw [h3 d hd, if_pos rfl]; rfl
    · rw [h3 i hi, if_neg hne]
def ofE : List Chg → List Chg → Int
  | _, [] => 0
  | R, c :: l => if W1 R c ≠ 0 then W1 R c else ofE (Y1 R c) l
def ofR (R l : List Chg) : List Chg := l.foldl Y1 R
def OfI (l : List Chg) (s : Nat) (e : Int) (k : Nat) (τ : St) : Prop := τ 4 = .d (.raw (va s)) ∧ τ 9 = .d (O6 l) ∧ τ 10 = .d (.int .i64 l.length) ∧ τ 11 = .d (.int .i64 k) ∧ ofE (ofR [] (l.take k)) (l.drop k) = e ∧ StF τ 1000000 s (ofR [] (l.take k))
theorem c7Y (l : List Chg) (hl : l.length < 100000) (hf : ∀ c ∈ l, S4 c) : G8 prog 17 [.d (O6 l)] [] (fun x hs' => (ofE [] l ≠ 0 ∧ x = .tup [.d .nilp, .d (.int .i64 (ofE [] l))] ∧ hs' = []) ∨ (ofE [] l = 0 ∧ ∃ s r m E, x = .tup [.d (.raw (va s)), .d (.int .i64 0)] ∧ Z2 E = S8 (ofR [] l) ∧ hs' = stH s r m (ofR [] l) E)) := by
  refine a2G (rs := [.tmp 2, .tmp 3]) (fun i => i == 5000008 || i == 5000017) (by kernel_rfl) func17 (by kernel_rfl) rfl rfl (by simp) (nbl rfl) (by kernel_rfl) rfl ?_; simp -implicitDefEqProofs [A5]; refine M2 [] 1000000 c0t rfl rfl (by simp) ?_; rintro x hs' ⟨s, r, m, rfl, hh⟩; have hh2 : hs' = [.hb (va s) 65 (.agg [.raw (.map (some r)), .raw (.map (some m))]), .hm (.map (some r)) 35 (R9 []) none, .hm (.map (some m)) 9 (S9 []) none] := hh; clear hh; subst hh2; simp -implicitDefEqProofs [A5, D1, C0]; refine H2 l.length (OfI l s (ofE [] l)) ⟨by simp, by simp [O6], by simp, by simp, by simp [ofR], ?_⟩ ?_
  · refine ⟨a9P, r, m, [], rfl, rfl, by simp [a8m], fun i hi => ?_⟩; simp only [a8m, List.length_nil] at hi
    match i, hi with
    | 0, _ => simp [stH, U0]
    | 1, _ => simp [stH, U0, ofR]
    | 2, _ => simp [stH, U0]
  rintro k τ hk ⟨h4, h9, h10, h11, hE, hF⟩; by_cases hlt : k < l.length
  · have hlt' : (k : Int) < l.length := (by omega); obtain ⟨c, hx⟩ : ∃ c, l[k] = c := ⟨_, rfl⟩; have hc : S4 c := by rw [← hx]; exact hf _ (gmm _)
    have ec : B0 c = .agg [B8 c.1, .int .i64 (opC c), .str (idC c), .str c.2.2.2.1, .str c.2.2.2.2.1, .str c.2.2.2.2.2] := rfl; rw [List.drop_eq_getElem_cons hlt, hx, ofE] at hE; have hR2 : ofR [] (l.take (k + 1)) = Y1 (ofR [] (l.take k)) c := by rw [J0 hlt, hx]; simp [ofR]
    simp -implicitDefEqProofs [h4, h9, h10, h11, hlt, hlt', O6, hx, ec, A7]; rw [← ec]; refine b5k (R := ofR [] (l.take k)) 1000000 s (Nat.le_refl _) (by omega) (by (repeat (first | exact hF | refine StF.put ?_ (by omega) | refine StF.setv ?_ (by omega) | refine StF.clean ?_ _))) hc (fun τ2 ks hF2 hd2 hks hτ hoth => ?_); have t4 : τ2 4 = .d (.raw (va s)) := by rw [hτ 4 (by omega) (by omega)]; simp [h4, F3]
    have t9 : τ2 9 = .d (O6 l) := by rw [hτ 9 (by omega) (by omega)]; simp [h9, F3]
    have t10 : τ2 10 = .d (.int .i64 l.length) := by rw [hτ 10 (by omega) (by omega)]; simp [h10, F3]
    have t11 : τ2 11 = .d (.int .i64 k) := by rw [hτ 11 (by omega) (by omega)]; simp [h11, F3]
    by_cases he : W1 (ofR [] (l.take k)) c = 0
    · rw [if_neg (by simpa using he)] at hE; rw [← hR2] at hE hF2; rw [he] at hd2; simp -implicitDefEqProofs [t4, t9, t10, t11, hd2]; exact ⟨by omega, D7 hlt ⟨by simp [t4], by simp [t9], by simp [t10], by simp, hE, by (repeat (first | exact hF2 | refine StF.put ?_ (by omega) | refine StF.setv ?_ (by omega) | refine StF.clean ?_ _))⟩⟩
    · rw [if_pos he] at hE; rw [hE] at hd2 he; simp -implicitDefEqProofs [t4, t9, t10, t11, hd2, he]; exact ⟨[.d .nilp, .d (.int .i64 (ofE [] l))], [], by simp, by simp, by simp [V7, a1z], rfl, rfl⟩
  · have hlt' : ¬ (k : Int) < l.length := (by omega); rw [List.drop_eq_nil_of_le (by omega), ofE] at hE; rw [ttl (by omega)] at hF; obtain ⟨hB, r2, m2, E2, hE2, hF2⟩ := hF; simp -implicitDefEqProofs [h4, h9, h10, h11, hlt, hlt', O6]; have hP := (((hF2.put (x := .d (.bool false)) (d := 12) (by omega)).put (x := .d (.raw (va s))) (d := 22) (by omega)).put (x := .d (.raw (va s))) (d := 2) (by omega)).put (x := .d (.int .i64 0)) (d := 3) (by omega); exact ⟨[.d (.raw (va s)), .d (.int .i64 0)], Y3 1000000 (stH s r2 m2 (ofR [] l) E2).length, a6h _ _, fun k hk => hP.isH k hk, by simp [V7, a1z], .inr ⟨hE.symm, s, rfl, r2, m2, E2, hE2, hP.map⟩⟩
def Oth (σ τ : St) (d : Nat) : Prop := ∃ ks : List Nat, (∀ j, j < 1000000 → ks.contains j = false) ∧ ∀ i, i < 1000000 → i ≠ d → τ i = F3 ks (E5 d (σ i))
theorem Oth.dd {σ τ : St} {d i : Nat} {y : D} (h : Oth σ τ d) (hi : i < 1000000) (hid : i ≠ d) (hy : σ i = .d y) : τ i = .d y := by
  obtain ⟨ks, _, h2⟩ := h; rw [h2 i hi hid, hy]; rfl
theorem Oth.bx {σ τ : St} {d i : Nat} {y : D} (h : Oth σ τ d) (hi : i < 1000000) (hid : i ≠ d) (hy : σ i = .box y) : τ i = .box y := by
  obtain ⟨ks, _, h2⟩ := h; rw [h2 i hi hid, hy]; rfl
theorem b2h {x : AV} (h : U4 x = true) (d : Nat) (ks : List Nat) : F3 ks (E5 d x) = x := by
  cases x <;> simp [U4] at h <;> rfl
theorem b3E {B n i : Nat} (hB : 1000000 ≤ B) (hi : i < 1000000) : i ∉ Y3 B n := fun hm => by
  obtain ⟨j, _, hj⟩ := List.mem_map.1 hm; omega
theorem b7B {B B2 n i : Nat} (hn : n ≤ 500000) (hi : i < 500000) (h : B2 + 1000000 ≤ B ∨ B + 1000000 ≤ B2) : B2 + i ∉ Y3 B n := fun hm => by
  obtain ⟨j, hj, e⟩ := List.mem_map.1 hm; have : j < n := (by simpa using hj); omega
def a7h (σ τ : St) (B : Nat) : Prop := ∀ B2 hs2, Fam σ B2 hs2 → 1000000 ≤ B2 → (B2 + 1000000 ≤ B ∨ B + 1000000 ≤ B2) → Fam τ B2 hs2
theorem Q2 {f : FuncId} {σ : St} {d : Nat} {K : St → Prop} (B s : Nat) (hB : 1000000 ≤ B) (hd : d < 1000000) {R : List Chg} (hF : StF σ B s R) {ds : List D} {res : AV} (hE : Enters prog f) (h : ∀ x, StD R x → Ctr prog f (.d x :: ds.map .d) res) (hm : U4 res = true)
    (hk : ∀ τ, StF τ B s R → τ d = res → Oth σ τ d → a7h σ τ B → K τ) : a3i prog f (.d (.raw (va s)) :: ds.map .d) σ d K := by
  obtain ⟨hR, r, m, E, hEE, hFam⟩ := hF; have hlen := hFam.2.1; refine c3s (Y3 B (stH s r m R E).length) (fun k hk => by obtain ⟨j, _, rfl⟩ := List.mem_map.1 hk; omega) hd (a6h _ _) hFam.isH (r := res) ?_ (fun τ h1 h2 h3 => ?_)
  · rw [hFam.map]; refine G8.lendL (ds := .raw (va s) :: ds) hE (fun w L hr => ?_) hm; obtain ⟨x, hx, hln⟩ := c1b (s := s) (r := r) (m := m) hr hEE (fun x hx => hx); exact ⟨x :: ds, .cons hln (a8j ds), h x hx⟩
  · refine hk τ ⟨hR, r, m, E, hEE, hFam.1, hFam.2.1, fun i hi => ?_⟩ (by rw [h2, b2h hm]) ⟨_, fun j hj => ?_, fun i hi hid => h3 i (b3E hB hi) hid⟩ (fun B2 hs2 hF2 hB2 hBB => ⟨hF2.1, hF2.2.1, fun i hi => ?_⟩)
    · rw [h1 _ (List.mem_map.2 ⟨i, by simpa using hi, rfl⟩)]; exact hFam.2.2 i hi
    · have := b3E (n := (stH s r m R E).length) hB hj; simp [this]
    · have h4 := hF2.2.1; have hH2 := List.all_eq_true.1 hF2.1 _ (gmm hi); rw [h3 _ (b7B hlen (by omega) hBB) (by omega), hF2.2.2 i hi, a2Z hH2, a1S hH2]
theorem c4L {σ : St} {d : Nat} {K : St → Prop} (B : Nat) (hB : 1000000 ≤ B) (hd : d < 1000000)
    (hk : ∀ s τ, StF τ B s [] → τ d = .d (.raw (va s)) → Oth σ τ d → a7h σ τ B → K τ) : a3i prog 11 [] σ d K := by
  refine ⟨[], B, _, by simp, by simp, c0t, fun x hs' hp => ?_⟩; obtain ⟨s, r, m, rfl, hh⟩ := hp; have hh2 : hs' = [.hb (va s) 65 (.agg [.raw (.map (some r)), .raw (.map (some m))]), .hm (.map (some r)) 35 (R9 []) none, .hm (.map (some m)) 9 (S9 []) none] := hh; have hH : ∀ x ∈ hs', isH x = true := fun x hx => by rw [hh] at hx; exact List.all_eq_true.1 (a8w s r m [] []) x hx
  have hlen : hs'.length = 3 := by rw [hh2]; rfl
  have hput : ∀ i, i ∉ a0h [] B 3 → D1 (put (C0 σ []) d (.d (.raw (va s)))) [] B hs' i = F3 (a0h [] B 3) (put σ d (.d (.raw (va s))) i) := fun i hi => by
    have := Z3 hs' [] (put (C0 σ []) d (.d (.raw (va s)))) B i (by rw [hlen]; exact hi); rw [hlen] at this; exact this
  have hL : ∀ k ∈ a0h [] B 3, B ≤ k ∧ k < B + 3 := fun k hk => by
    rcases a2B _ _ _ _ hk with h | h
    · simp at h
    · exact h
  refine hk s _ ⟨a9P, r, m, [], rfl, a8w _ _ _ _ _, by simp [a8m], fun i hi => ?_⟩ ?_ ⟨a0h [] B 3, fun j hj => ?_, fun i hi hid => ?_⟩ (fun B2 hs2 hF2 hB2 hBB => ⟨hF2.1, hF2.2.1, fun i hi => ?_⟩)
  · have := a8u hs' (put (C0 σ []) d (.d (.raw (va s)))) B hH i (by rw [hh]; exact hi); rw [this]; simp only [hh]
  · rw [hput d (fun hm => by have := hL d hm; omega)]; simp only [put, if_true]; rfl
  · rw [Bool.eq_false_iff]; intro hc; have := hL j (by simpa using hc); omega
  · rw [hput i (fun hm => by have := hL i hm; omega)]; simp only [put, if_neg hid]
  · have h4 := hF2.2.1; have hH2 := List.all_eq_true.1 hF2.1 _ (gmm hi); rw [hput _ (fun hm => by have := hL _ hm; omega)]; simp only [put, if_neg (show ¬ B2 + i = d by omega)]; rw [hF2.2.2 i hi, a2Z hH2, a1S hH2]
def idS (n : UInt8) : Str := [48, 48, 48, 48, 48, 48, 48, 48, 48, 48, n, 45, 48, 48, 48, 48, 48, 48, 48, 48, 45, 48]
def nxS : Str := [99, 110, 61, 120, 44, 111, 61, 97, 99, 109, 101]
def nyS : Str := [99, 110, 61, 121, 44, 111, 117, 61, 115, 44, 111, 61, 97, 99, 109, 101]
def alL : List Chg := [atC 2 1 (idS 50) nxS [], atC 1 1 (idS 49) nxS [], atC 5 4 (idS 49) [] [109], atC 4 5 (idS 49) [] [109], atC 6 1 (idS 54) nyS []]
theorem c5q : Q8 (1, 0, 0) = idS 49 := by kernel_rfl
theorem c5v : Q8 (2, 0, 0) = idS 50 := by kernel_rfl
theorem c5b : Q8 (6, 0, 0) = idS 54 := by kernel_rfl
theorem c7Z : ofE [] alL = 0 := by kernel_rfl
theorem d0A : ofR [] alL = alL := by kernel_rfl
def al2 : List Chg := alL ++ [atC 3 2 (idS 49) [] []]
theorem d0C : W1 alL (atC 3 2 (idS 49) [] []) = 0 := by kernel_rfl
theorem c7M : Y1 alL (atC 3 2 (idS 49) [] []) = al2 := by kernel_rfl
theorem c4D : a2z alL = [idS 50, idS 49, idS 54] := by kernel_rfl
theorem b4l {l m : List Str} (hm : SS m) (hp : m.Perm l) : I4 l = m := by
  have h1 : (I4 l).Pairwise fun x y => ¬ y < x := a7T l
  have h2 : m.Pairwise fun x y => ¬ y < x := hm.imp fun h h' => List.lt_irrefl _ (List.lt_trans h h')
  have h3 : (I4 l).Perm m := (List.mergeSort_perm _ _).trans hp.symm; exact h3.eq_of_pairwise (fun a b _ _ h4 h5 => a2L h5 h4) h1 h2
theorem a3G : A8 alL = [idS 49, idS 50, idS 54] := by
  unfold A8; rw [c4D]; exact b4l (by unfold SS; decide) (List.Perm.swap _ _ _)
theorem c3J : N8 alL [idS 49, idS 50, idS 54] = [(nxS, idS 49), (nyS, idS 54)] := by kernel_rfl
theorem b4o (id : Str) : W9 alL id = decide (I1 [(nxS, idS 49), (nyS, idS 54)] (K4 alL id) = some id) := by unfold W9; rw [a3G, c3J]
theorem c3E : U6 alL = [idS 50] := by
  unfold U6; rw [a3G]; simp only [b4o]
  kernel_rfl
theorem c3z : a1d alL (idS 49) = [(a2O, [[109]])] := by
  kernel_rfl
def nx2 : Str := [99, 110, 61, 120, 35] ++ idS 50 ++ [44, 111, 61, 97, 99, 109, 101]
theorem b7R (id : Str) : D9 alL id = if decide (I1 [(nxS, idS 49), (nyS, idS 54)] (K4 alL id) = some id) then K4 alL id else a9K (K4 alL id) id := by unfold D9; rw [b4o]
theorem b3n : D9 alL (idS 49) = nxS := by rw [b7R]; kernel_rfl
theorem b3s : D9 alL (idS 50) = nx2 := by rw [b7R]; kernel_rfl
theorem b7c : D9 alL (idS 54) = nyS := by rw [b7R]; kernel_rfl
theorem c7t : O7 alL (idS 49) = ((nxS, [(a2O, [[109]])]), true) := by
  unfold O7; rw [if_pos (by rw [a3G]; simp), b3n, c3z]
theorem c1I : a1d alL (idS 50) = [] := by kernel_rfl
theorem c6U : O7 alL (idS 50) = ((nx2, []), true) := by
  unfold O7; rw [if_pos (by rw [a3G]; simp), b3s, c1I]
theorem c4Y : I3 alL = [idS 49, idS 50, idS 54] := by
  unfold I3; rw [a3G]; have hn : [idS 49, idS 50, idS 54].Nodup := (by decide); refine b8G (key := D9 alL) (a6j hn) ?_ (W8 (a8i _) _).1; unfold KS; have h1 : cfK (D9 alL) (idS 49) (idS 50) = -1 := by
    unfold cfK; rw [b3n, b3s]; kernel_rfl
  have h2 : cfK (D9 alL) (idS 49) (idS 54) = -1 := by
    unfold cfK; rw [b3n, b7c]; kernel_rfl
  have h3 : cfK (D9 alL) (idS 50) (idS 54) = -1 := by
    unfold cfK; rw [b3s, b7c]; kernel_rfl
  simp [h1, h2, h3]
theorem c2i : (H7 alL [idS 49, idS 50, idS 54]).2 = [idS 54] := by
  simp only [H7, List.foldl_cons, List.foldl_nil, a0T, a6w, U8, b3n, b3s, b7c]
  kernel_rfl
theorem c3T : (P0 alL).length = 1 := by
  unfold P0 I4; rw [List.length_mergeSort, c4Y, c2i]; rfl
theorem c3t : a2z al2 = [idS 50, idS 54] := by kernel_rfl
theorem a6a : A8 al2 = [idS 50, idS 54] := by
  unfold A8; rw [c3t]; exact b4l (by unfold SS; decide) (List.Perm.refl _)
theorem c3w : N8 al2 [idS 50, idS 54] = [(nxS, idS 50), (nyS, idS 54)] := by kernel_rfl
theorem b2y (id : Str) : W9 al2 id = decide (I1 [(nxS, idS 50), (nyS, idS 54)] (K4 al2 id) = some id) := by unfold W9; rw [a6a, c3w]
theorem c0Z : U6 al2 = [] := by
  unfold U6; rw [a6a]; simp only [b2y]
  kernel_rfl
theorem c5d : D9 al2 (idS 50) = nxS := by unfold D9; rw [b2y]; kernel_rfl
theorem c2s : R6 al2 nxS = (idS 50, true) := by
  unfold R6; rw [a6a, List.find?_cons_of_pos (by rw [c5d]; simp)]
theorem c1l : (a0C al2).length = 2 := by
  unfold a0C; rw [List.length_map, a4j, a6a]; rfl
theorem a8W {a b : Chg} (ha : opC a = 0 ∨ G3 (opC a) = true) (hb : G3 (opC b) = true) : G3 (opC (S2 a b)) = true := by
  unfold S2; split
  · exact hb
  · rename_i h
    rcases ha with h1 | h1
    · exact absurd (.inl h1) h
    · exact h1
theorem c0v (R : List Chg) (id : Str) : (opC (abF R id).nm = 0 ∨ G3 (opC (abF R id).nm) = true) ∧ ((abF R id).cr = true → G3 (opC (abF R id).nm) = true) := by
  refine V8 (P := fun R => (opC (abF R id).nm = 0 ∨ G3 (opC (abF R id).nm) = true) ∧ ((abF R id).cr = true → G3 (opC (abF R id).nm) = true)) ⟨.inl rfl, by simp [abF, R5]⟩ (fun R c ih => ?_) R; rw [a3U]; split
  · unfold Q7; split
    · rename_i h
      have := a8W (b := c) ih.1 (by simp [G3, h]); exact ⟨.inr this, fun _ => this⟩
    · split
      · rename_i h
        have := a8W (b := c) ih.1 (by simp [G3, h]); exact ⟨.inr this, fun _ => this⟩
      · split
        · exact ih
        · exact ih
  · exact ih
theorem c1z (R : List Chg) (id : Str) : (abF R id).vs.length ≤ R.length ∧ ∀ p ∈ (abF R id).vs, ∃ c ∈ R, p.1 = a1t c := by
  refine V8 (P := fun R => (abF R id).vs.length ≤ R.length ∧ ∀ p ∈ (abF R id).vs, ∃ c ∈ R, p.1 = a1t c) ⟨by simp [abF, R5], by simp [abF, R5]⟩ (fun R c ih => ?_) R; have h0 : (abF R id).vs.length ≤ (R ++ [c]).length ∧ ∀ p ∈ (abF R id).vs, ∃ x ∈ R ++ [c], p.1 = a1t x := by
    refine ⟨by have := ih.1; simp; omega, fun p hp => ?_⟩; obtain ⟨x, hx, e⟩ := ih.2 p hp; exact ⟨x, by simp [hx], e⟩
  rw [a3U]; split
  · unfold Q7; split
    · exact h0
    · split
      · exact h0
      · split
        · exact h0
        · simp only; unfold a4S; split
          · refine ⟨by simpa using h0.1, fun p hp => ?_⟩; obtain ⟨q, hq, e⟩ := List.mem_map.1 hp; obtain ⟨x, hx, e2⟩ := h0.2 q hq; refine ⟨x, hx, ?_⟩; rw [← e, ← e2]; split <;> rfl
          · refine ⟨by have := ih.1; simp; omega, fun p hp => ?_⟩; rcases List.mem_append.1 hp with hp | hp
            · exact h0.2 p hp
            · rw [List.mem_singleton.1 hp]; exact ⟨c, by simp, rfl⟩
  · exact h0
theorem a9k {R : List Chg} (h : a6L R) : a1H R := by
  refine ⟨by have := b4H R; have := h.few; omega, fun id hid => ?_, fun id => ?_⟩
  · obtain ⟨⟨c, hc, rfl⟩, hl⟩ := b2A.1 hid; have hcr : (abF R (idC c)).cr = true := by
      simp only [a2K, Bool.and_eq_true] at hl; exact hl.1
    have hn := (c0v R (idC c)).2 hcr; obtain ⟨h1, _⟩ := b5h R (idC c); have hm : (abF R (idC c)).nm ∈ R := by
      rcases h1 with h1 | h1
      · exact h1
      · rw [h1] at hn; exact absurd hn (by decide)
    have ho := a7z.1 (h.ok _ hc); have hon := a7z.1 (h.ok _ hm); obtain ⟨h3, h4⟩ := b3N (c := (a0J (idC c)).1) (s := idC c) (by rw [← ho.id]); have hidl : List.length (idC c) = 22 := by rw [← h3, a8F h4]
    have hb := hon.name; unfold I9 at hb; have hn' : G3 (abF R (idC c)).nm.2.1 = true := hn; simp only [hn', Bool.true_and, Bool.or_eq_false_iff, decide_eq_false_iff_not, Bool.not_eq_false'] at hb; obtain ⟨l, hl2⟩ := a5Q.1 hb.1.2; have hpl : (C8 (K4 R (idC c))).1 = l := by
      have h6 := hl2; unfold K1 at h6; split at h6
      · exact Option.some.inj h6
      · cases h6
    refine ⟨?_, (h.fit _ hm).name, by omega, fun e => by rw [e] at hidl; simp at hidl⟩; rw [hpl]; intro e; exact hb.1.1 ((c3X hl2).2 e)
  · obtain ⟨h1, h2⟩ := c1z R id; refine ⟨by have := h.few; omega, fun p hp => ?_⟩; obtain ⟨c, hc, e⟩ := h2 p hp; rw [e]; exact ⟨(h.fit c hc).attr, (h.fit c hc).value⟩
structure AbE (a b : Abt) : Prop where
  cr : a.cr = b.cr
  rm : a.rm = b.rm
  nm : a.nm = b.nm
  vs : List.Perm a.vs b.vs
theorem b9p {σ : St} {d B : Nat} {r : AV} {hs : List AV} (hB : 1000000 ≤ B) (hd : d < 1000000) (hH : hs.all isH = true) (hl : hs.length ≤ 500000) (hm : U4 r = true) {τ : St} (hτ : τ = D1 (put (C0 σ []) d r) [] B hs) :
    Fam τ B hs ∧ τ d = r ∧ Oth σ τ d ∧ a7h σ τ B := by
  have hH' : ∀ x ∈ hs, isH x = true := fun x hx => List.all_eq_true.1 hH x hx
  have hput : ∀ i, i ∉ a0h [] B hs.length → τ i = F3 (a0h [] B hs.length) (put σ d r i) := fun i hi => by
    rw [hτ]; exact Z3 hs [] (put (C0 σ []) d r) B i hi
  have hL : ∀ k ∈ a0h [] B hs.length, B ≤ k ∧ k < B + hs.length := fun k hk => by
    rcases a2B _ _ _ _ hk with h | h
    · simp at h
    · exact h
  refine ⟨⟨hH, hl, fun i hi => ?_⟩, ?_, ⟨a0h [] B hs.length, fun j hj => ?_, fun i hi hid => ?_⟩, (fun B2 hs2 hF2 hB2 hBB => ⟨hF2.1, hF2.2.1, fun i hi => ?_⟩)⟩
  · rw [hτ]; exact a8u hs (put (C0 σ []) d r) B hH' i hi
  · rw [hput d (fun hm => by have := hL d hm; omega)]; simp only [put, if_true]; exact b2h hm d _
  · rw [Bool.eq_false_iff]; intro hc; have := hL j (by simpa using hc); omega
  · rw [hput i (fun hm => by have := hL i hm; omega)]; simp only [put, if_neg hid]
  · have h4 := hF2.2.1; have hH2 := List.all_eq_true.1 hF2.1 _ (gmm hi); rw [hput _ (fun hm => by have := hL _ hm; omega)]; simp only [put, if_neg (show ¬ B2 + i = d by omega)]; rw [hF2.2.2 i hi, a2Z hH2, a1S hH2]
theorem c3H {l : List Chg} (hf : ∀ c ∈ l, S4 c) : ∀ {R : List Chg}, a6L R → a6L (ofR R l) := by
  induction l with
  | nil => intro R h; exact h
  | cons c l ih =>
    intro R h; exact ih (fun x hx => hf x (by simp [hx])) (a5F h (hf c (by simp)))
theorem c6u {σ : St} {d : Nat} {K : St → Prop} (B : Nat) (hB : 1000000 ≤ B) (hd : d < 1000000) {l : List Chg} (hl : l.length < 100000) (hf : ∀ c ∈ l, S4 c) (h0 : ofE [] l = 0)
    (hk : ∀ s τ, StF τ B s (ofR [] l) → τ d = .tup [.d (.raw (va s)), .d (.int .i64 0)] → Oth σ τ d → a7h σ τ B → K τ) : a3i prog 17 [.d (O6 l)] σ d K := by
  refine ⟨[], B, _, by simp, by simp, c7Y l hl hf, fun x hs' hp => ?_⟩; rcases hp with ⟨h1, _⟩ | ⟨_, s, r, m, E, rfl, hE, rfl⟩
  · exact absurd h0 h1
  · have hR := c3H hf a9P; obtain ⟨f1, f2, f3, f4⟩ := b9p (σ := σ) (d := d) (r := .tup [.d (.raw (va s)), .d (.int .i64 0)]) hB hd (a8w s r m (ofR [] l) E) (b3M hR hE) rfl rfl; exact hk s _ ⟨hR, r, m, E, hE, f1⟩ f2 f3 f4
theorem b9k {σ : St} {d : Nat} {K : St → Prop} (B s : Nat) (hB : 1000000 ≤ B) (hd : d < 1000000) {R : List Chg} {c : Chg} (hF : StF σ B s R) (hc : S4 c)
    (hk : ∀ τ, StF τ B s (Y1 R c) → τ d = .d (.int .i64 (W1 R c)) → Oth σ τ d → a7h σ τ B → K τ) : a3i prog 13 [.d (.raw (va s)), .d (B0 c)] σ d K :=
  b5k B s hB hd hF hc fun τ ks h1 h2 h3 h4 h5 => hk τ h1 h2 ⟨ks, h3, h4⟩ h5
theorem a9c (l : List Str) : a0Q (l.map .str) = true := by
  induction l with
  | nil => rfl
  | cons s l ih => simp [a0Q, a2b, ih]
theorem c1V (l : List Att) : a0Q (l.map att) = true := by
  induction l with
  | nil => rfl
  | cons s l ih =>
    simp only [List.map_cons, a0Q, ih, Bool.and_true]; simp [att, a2b, a0Q, B6, a9c]
theorem b6t (s : Str) (a : List Att) : a2b (a1R s a) = true := by simp [a1R, a2b, a0Q, a5W, c1V]
theorem b4q (l : List (Str × List Att)) : a0Q (l.map a1w) = true := by
  induction l with
  | nil => rfl
  | cons s l ih => simp [a0Q, ih, a1w, b6t]
theorem a8g (s : Str) (a : List Att) (b : Bool) : U4 (.tup [.d (a1R s a), .d (.bool b)]) = true := by simp [U4, a7N, b6t, a2b]
theorem c4B : ∀ c ∈ alL, S4 c := by
  have h : (alL.all fun c => decide (List.length c.2.2.1 < 900000) && (decide (List.length c.2.2.2.1 < 900000) && (decide (List.length c.2.2.2.2.1 < 900000) && decide (List.length c.2.2.2.2.2 < 900000)))) = true := by kernel_rfl
  intro c hc; have := List.all_eq_true.1 h c hc; simp only [Bool.and_eq_true, decide_eq_true_eq] at this; exact ⟨this.1, this.2.1, this.2.2.1, this.2.2.2⟩
theorem c0U : Ctr prog 10 [] (.d (.bool true)) := by
  have g1 := a4M (1, 0, 0); have g2 := a4M (2, 0, 0); have g6 := a4M (6, 0, 0); rw [c5q] at g1; rw [c5v] at g2; rw [c5b] at g6; have k1 := a8x 2 1 (idS 50) nxS []; have k2 := a8x 1 1 (idS 49) nxS []; have k3 := a8x 5 4 (idS 49) [] [109]; have k4 := a8x 4 5 (idS 49) [] [109]; have k5 := a8x 6 1 (idS 54) nyS []; have k6 := a8x 3 2 (idS 49) [] []; have hal : O6 alL = .sl [B0 (atC 2 1 (idS 50) nxS []), B0 (atC 1 1 (idS 49) nxS []), B0 (atC 5 4 (idS 49) [] [109]), B0 (atC 4 5 (idS 49) [] [109]), B0 (atC 6 1 (idS 54) nyS [])] := rfl; have hw : ∀ c, B3 (B0 c) = 8 := fun _ => rfl
  have hcs : ∀ t : Int, B8 (t, 0, 0) = .agg [.int .i64 t, .int .i64 0, .int .i64 0] := fun _ => rfl
  simp only [hcs] at g1 g2 g6; refine fv (fun i => i == 5000031 || i == 5000043 || i == 5000049 || i == 5000087 || i == 5000093 || i == 5000104 || i == 5000113 || i == 5000116 || i == 5000131 || i == 5000137) func10 (by kernel_rfl) rfl rfl rfl rfl rfl ?_; generalize atC 2 1 (idS 50) nxS [] = C1 at *; generalize atC 1 1 (idS 49) nxS [] = C2 at *; generalize atC 5 4 (idS 49) [] [109] = C3 at *; generalize atC 4 5 (idS 49) [] [109] = C4 at *; generalize atC 6 1 (idS 54) nyS [] = C5 at *; generalize hi1 : idS 49 = i1 at *; generalize hi2 : idS 50 = i2 at *; generalize hi6 : idS 54 = i6 at *; simp only [nxS, nyS] at k1 k2 k3 k4 k5 k6; simp -implicitDefEqProofs; refine A1 g1 ?_; simp -implicitDefEqProofs; refine A1 g2 ?_; simp -implicitDefEqProofs; refine A1 k1 ?_; simp -implicitDefEqProofs; refine A1 k2 ?_; simp -implicitDefEqProofs; refine A1 k3 ?_; simp -implicitDefEqProofs; refine A1 k4 ?_; simp -implicitDefEqProofs; refine A1 g6 ?_; simp -implicitDefEqProofs; refine A1 k5 ?_; simp -implicitDefEqProofs [hw]; refine ⟨by decide, ?_⟩; rw [← hal]; refine c6u 1000000 (Nat.le_refl _) (by omega) (by decide) c4B c7Z (fun s τ1 hF1 f1 o1 _ => ?_); rw [d0A] at hF1; have t11 : τ1 1 = .d (.str i1) := o1.dd (by omega) (by omega) (by simp); have t12 : τ1 2 = .d (.str i2) := o1.dd (by omega) (by omega) (by simp); have hG := a9k hF1.1; have nxe : nxS = [99, 110, 61, 120, 44, 111, 61, 97, 99, 109, 101] := rfl; have me : a2O = [109, 97, 105, 108] := rfl; have n2e : nx2 = 99 :: 110 :: 61 :: 120 :: 35 :: (i2 ++ [44, 111, 61, 97, 99, 109, 101]) := by rw [← hi2]; rfl
  have hl2 : List.length i2 = 22 := by rw [← hi2]; rfl
  have hE1 := c7t; have hE2 := c6U; rw [hi1] at hE1; rw [hi2] at hE2; have en : ∀ id x, StD alL x → _ := fun id x hx => b3y alL x id hx hG
  have enE := enters_of func21 (by kernel_rfl) rfl; simp -implicitDefEqProofs [f1, t11, t12]; refine Q2 (ds := [.str i1]) 1000000 s (Nat.le_refl _) (by omega) (by (repeat (first | exact hF1 | refine StF.put ?_ (by omega) | refine StF.setv ?_ (by omega) | refine StF.clean ?_ _))) enE (fun x hx => en i1 x hx) (a8g _ _ _) (fun τ2 hF2 f2 o2 _ => ?_); rw [hE1] at f2; have hd2 : a1R (nxS, [(a2O, [[109]])]).1 (nxS, [(a2O, [[109]])]).2 = .agg [.str nxS, .sl [.agg [.str a2O, .sl [.str [109]]]]] := rfl; simp only [hd2] at f2; simp only [nxe, me] at f2; have t21 : τ2 1 = .d (.str i1) := o2.dd (by omega) (by omega) (by simp [t11]); have t22 : τ2 2 = .d (.str i2) := o2.dd (by omega) (by omega) (by simp [t12]); have t24 : τ2 4 = .d (.raw (va s)) := o2.dd (by omega) (by omega) (by simp); simp -implicitDefEqProofs [f2, t21, t22, t24]; refine Q2 (ds := [.str i2]) 1000000 s (Nat.le_refl _) (by omega) (by (repeat (first | exact hF2 | refine StF.put ?_ (by omega) | refine StF.setv ?_ (by omega) | refine StF.clean ?_ _))) enE (fun x hx => en i2 x hx) (a8g _ _ _) (fun τ3 hF3 f3 o3 _ => ?_); rw [hE2] at f3; have hd3 : a1R nx2 [] = .agg [.str nx2, .sl []] := rfl; simp only [hd3] at f3; simp only [n2e] at f3; have t31 : τ3 1 = .d (.str i1) := o3.dd (by omega) (by omega) (by simp [t21]); have t32 : τ3 2 = .d (.str i2) := o3.dd (by omega) (by omega) (by simp [t22]); have t34 : τ3 4 = .d (.raw (va s)) := o3.dd (by omega) (by omega) (by simp [t24]); have t36 : τ3 6 = .box (.agg [.str [99, 110, 61, 120, 44, 111, 61, 97, 99, 109, 101], .sl [.agg [.str [109, 97, 105, 108], .sl [.str [109]]]]]) := o3.bx (by omega) (by omega) (by simp); have t37 : τ3 7 = .d (.bool true) := o3.dd (by omega) (by omega) (by simp); simp -implicitDefEqProofs [f3, t31, t32, t34, t36, t37, hl2]; have orp : ∀ x, StD alL x → Ctr prog 29 [.d x] (.d (.sl ((P0 alL).map .str))) := fun x hx => a1m (a9X alL x hx hG)
  have liv : ∀ x, StD alL x → Ctr prog 27 [.d x] (.d (.sl ((A8 alL).map .str))) := fun x hx => a1m (a3J alL x hx hG.lt)
  have con : ∀ x, StD alL x → Ctr prog 28 [.d x] (.d (.sl ((U6 alL).map .str))) := fun x hx => a1m (a3M alL x hx hG)
  have hol : ((P0 alL).map D.str).length = 1 := (by simp [c3T]); have hmO := a9c (P0 alL); generalize (P0 alL).map D.str = OL at *; rw [a3G, hi1, hi2, hi6] at liv; rw [c3E, hi2] at con; refine Q2 (ds := []) (res := .d (.sl OL)) 1000000 s (Nat.le_refl _) (by omega) (by (repeat (first | exact hF3 | refine StF.put ?_ (by omega) | refine StF.setv ?_ (by omega) | refine StF.clean ?_ _))) (enters_of func29 (by kernel_rfl) rfl) orp hmO (fun τ4 hF4 f4 o4 _ => ?_); have t41 : τ4 1 = .d (.str i1) := o4.dd (by omega) (by omega) (by simp [t31]); have t42 : τ4 2 = .d (.str i2) := o4.dd (by omega) (by omega) (by simp [t32]); have t44 : τ4 4 = .d (.raw (va s)) := o4.dd (by omega) (by omega) (by simp [t34]); have t485 : τ4 85 = .d (.bool false) := o4.dd (by omega) (by omega) (by simp); simp -implicitDefEqProofs [f4, t41, t42, t44, t485, hol]; refine Q2 (ds := []) (res := .d (B6 [i1, i2, i6])) 1000000 s (Nat.le_refl _) (by omega) (by (repeat (first | exact hF4 | refine StF.put ?_ (by omega) | refine StF.setv ?_ (by omega) | refine StF.clean ?_ _))) (enters_of func27 (by kernel_rfl) rfl) liv rfl (fun τ5 hF5 f5 o5 _ => ?_); have t51 : τ5 1 = .d (.str i1) := o5.dd (by omega) (by omega) (by simp [t41]); have t52 : τ5 2 = .d (.str i2) := o5.dd (by omega) (by omega) (by simp [t42]); have t54 : τ5 4 = .d (.raw (va s)) := o5.dd (by omega) (by omega) (by simp [t44]); have t591 : τ5 91 = .d (.bool false) := o5.dd (by omega) (by omega) (by simp); simp -implicitDefEqProofs [f5, t51, t52, t54, t591, B6]; have l1 := b0X [i1, i2, i6] [i1, i2, i6] (by simp) (by simp); have l2 := b0X [i2] [i2] (by simp) (by simp); simp only [B6, List.map_cons, List.map_nil, decide_true] at l1 l2; refine A1 g6 ?_; simp -implicitDefEqProofs [f5, t51, t52, t54, t591, B6]; refine ⟨by decide, A1 l1 ?_⟩; simp -implicitDefEqProofs [f5, t51, t52, t54, t591, B6]; refine Q2 (ds := []) (res := .d (B6 [i2])) 1000000 s (Nat.le_refl _) (by omega) (by (repeat (first | exact hF5 | refine StF.put ?_ (by omega) | refine StF.setv ?_ (by omega) | refine StF.clean ?_ _))) (enters_of func28 (by kernel_rfl) rfl) con rfl (fun τ6 hF6 f6 o6 _ => ?_); have t61 : τ6 1 = .d (.str i1) := o6.dd (by omega) (by omega) (by simp [t51]); have t62 : τ6 2 = .d (.str i2) := o6.dd (by omega) (by omega) (by simp [t52]); have t64 : τ6 4 = .d (.raw (va s)) := o6.dd (by omega) (by omega) (by simp [t54]); have t602 : τ6 102 = .d (.bool false) := o6.dd (by omega) (by omega) (by simp); simp -implicitDefEqProofs [f6, t61, t62, t64, t602, B6]; refine A1 l2 ?_; simp -implicitDefEqProofs [f6, t61, t62, t64, t602, B6]; refine A1 k6 ?_; simp -implicitDefEqProofs [f6, t61, t62, t64, t602, B6]; have ha2 := d0C; have hr2 := c7M; have hfc : S4 (atC 3 2 (idS 49) [] []) := by
    rw [hi1]; have h5 : List.length i1 = 22 := by rw [← hi1]; rfl
    exact ⟨by simp [atC]; omega, by simp [atC], by simp [atC], by simp [atC]⟩
  rw [hi1] at ha2 hr2 hfc; refine b9k 1000000 s (Nat.le_refl _) (by omega) (R := alL) (by (repeat (first | exact hF6 | refine StF.put ?_ (by omega) | refine StF.setv ?_ (by omega) | refine StF.clean ?_ _))) hfc (fun τ7 hF7 f7 o7 _ => ?_); rw [ha2] at f7; rw [hr2] at hF7; have t72 : τ7 2 = .d (.str i2) := o7.dd (by omega) (by omega) (by simp [t62]); have t74 : τ7 4 = .d (.raw (va s)) := o7.dd (by omega) (by omega) (by simp [t64]); have hG2 := a9k hF7.1; have fnd : ∀ x, StD al2 x → _ := fun x hx => b1f al2 x nxS hx hG2
  rw [c2s, hi2] at fnd; simp only [nxe] at fnd; have hen : ∀ x, StD al2 x → Ctr prog 30 [.d x] (.d (.sl ((a0C al2).map a1w))) := fun x hx => a1m (b0i al2 x hx hG2)
  have con2 : ∀ x, StD al2 x → Ctr prog 28 [.d x] (.d (.sl ((U6 al2).map .str))) := fun x hx => a1m (a3M al2 x hx hG2)
  have hel : ((a0C al2).map a1w).length = 2 := (by simp [c1l]); have hme := b4q (a0C al2); generalize (a0C al2).map a1w = EL at *; rw [c0Z] at con2; simp -implicitDefEqProofs [f7, t72, t74]; refine Q2 (ds := [.str [99, 110, 61, 120, 44, 111, 61, 97, 99, 109, 101]]) 1000000 s (Nat.le_refl _) (by omega) (by (repeat (first | exact hF7 | refine StF.put ?_ (by omega) | refine StF.setv ?_ (by omega) | refine StF.clean ?_ _))) (enters_of func15 (by kernel_rfl) rfl) fnd rfl (fun τ8 hF8 f8 o8 _ => ?_); have t82 : τ8 2 = .d (.str i2) := o8.dd (by omega) (by omega) (by simp [t72]); have t84 : τ8 4 = .d (.raw (va s)) := o8.dd (by omega) (by omega) (by simp [t74]); have t810 : τ8 10 = .d (.int .i64 0) := o8.dd (by omega) (by omega) (by simp); simp -implicitDefEqProofs [f8, t82, t84, t810]; refine Q2 (ds := []) (res := .d (.sl EL)) 1000000 s (Nat.le_refl _) (by omega) (by (repeat (first | exact hF8 | refine StF.put ?_ (by omega) | refine StF.setv ?_ (by omega) | refine StF.clean ?_ _))) (enters_of func30 (by kernel_rfl) rfl) hen hme (fun τ9 hF9 f9 o9 _ => ?_); have t94 : τ9 4 = .d (.raw (va s)) := o9.dd (by omega) (by omega) (by simp [t84]); have t929 : τ9 129 = .d (.bool true) := o9.dd (by omega) (by omega) (by simp); simp -implicitDefEqProofs [f9, t94, t929, hel]; refine Q2 (ds := []) (res := .d (.sl [])) 1000000 s (Nat.le_refl _) (by omega) (by (repeat (first | exact hF9 | refine StF.put ?_ (by omega) | refine StF.setv ?_ (by omega) | refine StF.clean ?_ _))) (enters_of func28 (by kernel_rfl) rfl) con2 rfl (fun τ10 hF10 f10 o10 _ => ?_); have tA : τ10 135 = .d (.bool true) := o10.dd (by omega) (by omega) (by simp); simp -implicitDefEqProofs [f10, tA]
theorem c3C {c : Chg} (h : smC c = true) : S4 c := by
  simp only [smC, Bool.and_eq_true, decide_eq_true_eq] at h; exact ⟨by omega, by omega, by omega, by omega⟩
theorem b9n {l : List Chg} (h : a3R l = true) : l.length ≤ 14 ∧ ∀ c ∈ l, S4 c := by
  simp only [a3R, Bool.and_eq_true, decide_eq_true_eq, List.all_eq_true] at h; exact ⟨h.2, fun c hc => c3C (h.1 c hc)⟩
theorem b8Y (m : SM) (k v n : Str) : I1 (m ++ [(k, v)]) n = (I1 m n).or (if k = n then some v else none) := by
  unfold I1; rw [List.find?_append]; cases h : List.find? (fun p => decide (p.1 = n)) m with
  | some x => simp
  | none => by_cases hk : k = n <;> simp [hk]
theorem c1y (R : List Chg) (n : Str) (l : List Str) : I1 (N8 R l) n = l.find? fun id => decide (K4 R id = n) := by
  refine V8 (P := fun l => I1 (N8 R l) n = l.find? fun id => decide (K4 R id = n)) rfl (fun l id ih => ?_) l; rw [a8e, List.find?_append, ← ih]; split
  · rename_i h
    by_cases hn : K4 R id = n
    · rw [hn] at h; obtain ⟨x, hx⟩ := Option.isSome_iff_exists.1 h; rw [hx]; rfl
    · cases I1 (N8 R l) n <;> simp [hn]
  · rw [b8Y]; by_cases hn : K4 R id = n <;> simp [hn]
theorem b3L {R : List Chg} {id : Str} : W9 R id = true ↔ (A8 R).find? (fun x => decide (K4 R x = K4 R id)) = some id := by
  unfold W9; rw [c1y, decide_eq_true_eq]
theorem a9C {R : List Chg} {id n : Str} (h : id ∈ A8 R) (hs : D9 R id = n) : ∃ x ∈ A8 R, D9 R x = n ∧ R6 R n = (x, true) := by
  unfold R6; cases hf : (A8 R).find? (fun x => decide (D9 R x = n)) with
  | none => exact absurd (by simpa using hs) (List.find?_eq_none.1 hf id h)
  | some x => exact ⟨x, List.mem_of_find?_eq_some hf, by simpa using List.find?_some hf, rfl⟩
theorem b8c {R : List Chg} {id : Str} (h : id ∈ A8 R) : O7 R id = ((D9 R id, a1d R id), true) := by unfold O7; rw [if_pos h]
structure d2v (R : List Chg) (c : Chg) : Prop where
  rm : opC c = 2 → O7 (R ++ [c]) (idC c) = (([], []), false)
  put : opC c = 4 → ∃ a, O7 (R ++ [c]) (idC c) = (((O7 R (idC c)).1.1, a), true) ∧ c.2.2.2.2.2 ∈ c5p a c.2.2.2.2.1
  drop : opC c = 5 → ∃ a, O7 (R ++ [c]) (idC c) = (((O7 R (idC c)).1.1, a), true) ∧ c.2.2.2.2.2 ∉ c5p a c.2.2.2.2.1
  name : opC c = 1 ∨ opC c = 3 → ∃ s, O7 (R ++ [c]) (idC c) = ((s, (O7 R (idC c)).1.2), true) ∧ (s = nmC c ∨ ∃ x, R6 (R ++ [c]) (nmC c) = (x, true) ∧ x ≠ idC c)
end Go.Proofs.Tz