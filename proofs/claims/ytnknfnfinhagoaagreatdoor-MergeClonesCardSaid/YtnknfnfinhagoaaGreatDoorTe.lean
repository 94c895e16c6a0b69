/-
  What the functions that the statements about merged states reach compute, part 5 of 6, for data of bounded size (each theorem states its bound).
-/import Derived.Test.YtnknfnfinhagoaaGreatDoorTd
import Derived.Test.YtnknfnfinhagoaaGreatDoorWc
import Derived.Test.YtnknfnfinhagoaaGreatDoorTa
import Derived.Test.YtnknfnfinhagoaaGreatDoorWd
import Derived.Shelf.SlSortCmp.NoneTotal
import Derived.Test.YtnknfnfinhagoaaGreatDoorTc
open List
open Go.Proofs.Tryz
set_option linter.unusedSimpArgs false
set_option linter.unusedVariables false
set_option maxRecDepth 100000
set_option maxHeartbeats 8000000
namespace Go.Proofs.Tz
open Go.Vw Go.RowKit Go.Proofs Go.Sort
def Z8 (R : List Chg) (id : Str) : Bool := decide (K8 (P2 R (C0 R)) (N1 R id) = some id)
def G6 (R : List Chg) (id : Str) : Str := if Z8 R id then N1 R id else b0W (N1 R id) id
def a2n (R : List Chg) : SM := (C0 R).map fun id => (id, G6 R id)
def smD (g : Nat) (N : SM) (bs : List Nat) (clk : Nat) : D := .map (.map (some g)) (N.map fun p => .str p.1) (N.map fun p => .str p.2) bs clk
theorem b5V (m : SM) : (P1 m).map (·.1) = m.map fun p => D.str p.1 := by simp [P1, Function.comp_def]
theorem c4o (m : SM) : (P1 m).map (·.2) = m.map fun p => D.str p.2 := by simp [P1, Function.comp_def]
theorem c4t (m : SM) : (m.map fun p => D.str p.1).zip (m.map fun p => D.str p.2) = P1 m := by
 induction m with
 | nil => rfl
 | cons p m ih => simp only [map_cons, zip_cons_cons, ih, P1]
theorem c7v {f : FuncId} {args : List AV} {m : SM} (h : F5 prog f args [] (fun r hs' => ∃ g, r = .d (.raw (.map (some g))) ∧ hs' = [.hm (.map (some g)) 9 (P1 m) none])) :
   F5 prog f args [] (fun r hs' => hs' = [] ∧ ∃ g N bs clk, Perm N m ∧ r = .d (smD g N bs clk)) := by
 refine h.frzMap ?_; rintro r hs' ⟨g, rfl, rfl⟩; refine ⟨g, 9, P1 m, rfl, rfl, fun m' bs clk hp => ?_⟩; obtain ⟨N, n1, n2⟩ := a1I hp rfl; refine ⟨rfl, g, N, bs, clk, n1, ?_⟩; have e : m' = P1 N := n2.symm; rw [e, b5V, c4o]; rfl
theorem b2l {m N : SM} (h : Perm N m) (hn : (m.map (·.1)).Nodup) (k : Str) : K8 N k = K8 m k := by
 have e1 : M8 (P1 N) (.str k) = M8 (P1 m) (.str k) := b3L (P := prog) (kt := 9) (h.map _) (by
   show ((P1 m).map (·.1)).Nodup
   rw [b5V]; have : (m.map fun p => D.str p.1) = (m.map (·.1)).map .str := by simp [Function.comp_def]
   rw [this]; exact (pairwise_map).2 (hn.imp fun hab e => hab (by simpa using e))) (F8 k)
 rw [a4c, a4c] at e1; cases h1 : K8 N k <;> cases h2 : K8 m k <;> rw [h1, h2] at e1 <;> simp at e1 <;> simp [e1]
theorem c0J {m : SM} {k v v' : Str} (h : K8 m k = none) : S5 (P1 (m ++ [(k, v)])) (.str k) (.str v') = P1 (m ++ [(k, v')]) := by
 have hne : ∀ p ∈ m, ¬ p.1 = k := by
   simp only [K8, Option.map_eq_none_iff, find?_eq_none] at h; intro p hp; simpa using h p hp
 unfold S5; rw [if_pos (by simp [P1, L5])]; simp only [P1, map_append, map_map, map_cons, map_nil]; congr 1
 · refine map_congr_left fun p hp => ?_
   simp [L5, hne p hp]
 · simp [L5]
theorem a6Q {m : SM} {k : Str} : K8 m k = none ↔ ∀ p ∈ m, p.1 ≠ k := by
 simp [K8, find?_eq_none]
theorem b1e (R : List Chg) : SS (C0 R) := by
 have h1 : (C0 R).Pairwise fun x y => ¬ y < x := a8B (a3o R)
 have h2 : (C0 R).Nodup := (mergeSort_perm _ _).nodup_iff.2 (Nodup.sublist (filter_sublist.map _) (a4m R)); exact (Pairwise.and h1 h2).imp fun {a b} h => (Classical.byContradiction fun hn => h.2 (a2U hn h.1))
theorem a2e (R : List Chg) : (C0 R).Nodup := (b1e R).nodup
structure d6U (R : List Chg) : Prop where
 ok : ∀ c ∈ R, I1 c = 0
 few : R.length ≤ 4096
structure b5f (own id : Str) : Prop where
 parse : (E7 own).1 ≠ []
 own : length own < 900000
 short : length id < 200
 ne : id ≠ []
def a3M (R : List Chg) (l : List Str) : SM := l.map fun id => (id, G6 R id)
theorem b8P (R : List Chg) (l : List Str) (id : Str) : a3M R (l ++ [id]) = a3M R l ++ [(id, G6 R id)] := by simp [a3M]
theorem b8s {R : List Chg} {l : List Str} {id : Str} (h : id ∉ l) : K8 (a3M R l) id = none := by
 rw [a6Q]; intro p hp; obtain ⟨x, hx, rfl⟩ := mem_map.1 hp; rintro rfl; exact h hx
def DiI (R : List Chg) (sd : D) (g g2 : Nat) (k : Nat) (τ : St) : Prop := τ 0 = .d sd ∧ τ 3 = .d (.raw (.map (some g))) ∧ τ 4 = .d (.raw (.map (some g2))) ∧ τ 12 = .own false 9 ((C0 R).map .str) ∧ τ 13 = .d (.int .i64 (C0 R).length) ∧ τ 14 = .d (.int .i64 k) ∧
 τ 1000000 = .hm (.map (some g)) 9 (P1 (P2 R (C0 R))) none ∧ τ 1000001 = .hm (.map (some g2)) 9 (P1 (a3M R ((C0 R).take k))) none
theorem b5C (R : List Chg) (d : D) (hd : StD R d) (hl : (N9 R).length < 100000) (hN : ∀ id ∈ C0 R, b5f (N1 R id) id) : F5 prog 42 [.d d] [] (fun r hs' => ∃ g, r = .d (.raw (.map (some g))) ∧ hs' = [.hm (.map (some g)) 9 (P1 (a2n R)) none]) := by
 obtain ⟨u1, R1, bs1, c1, u2, M, bs2, c2, rfl, hR1, hM⟩ := hd.open; have hll := a0L R; have hlv := a3A R _ hd hl; have how := b3T R _ hd hl; refine a1a (fun i => i == 5000009) (by kernel_rfl) func42 (by kernel_rfl) rfl rfl (nbl rfl) (by kernel_rfl) rfl ?_; simp -implicitDefEqProofs [A5]; refine K4 [] 1000000 how rfl rfl (by simp) ?_; rintro r hs' ⟨g, rfl, rfl⟩; simp -implicitDefEqProofs [A5, C6, B9]; refine a9R 9 1000001 (by simp [A5]) (fun g2 => ?_); simp -implicitDefEqProofs [A5]; refine A3 hlv ?_; simp -implicitDefEqProofs [A5]; obtain ⟨sd, hsd⟩ : ∃ sd, T9 u1 R1 bs1 c1 u2 M bs2 c2 = sd := ⟨_, rfl⟩; refine H4 (C0 R).length (DiI R sd g g2) ⟨by simp [A5, ← hsd], by simp [A5], by simp [A5], by simp [A5], by simp [A5], by simp [A5], by simp [A5], by simp [A5, a3M, P1]⟩ ?_; rintro k τ hk ⟨g0, g3, g4, g12, g13, g14, gA, gB⟩; by_cases hlt : k < (C0 R).length
 · have hlt' : (k : Int) < (C0 R).length := (by omega); obtain ⟨id, hid⟩ : ∃ id, (C0 R)[k] = id := ⟨_, rfl⟩; have hin : id ∈ C0 R := by rw [← hid]; exact gmm _
   obtain ⟨d, hg1, hab⟩ := hM.live hin; obtain ⟨u, V, bs, clk, hd1, hV⟩ := hab; have htk : (C0 R).take (k + 1) = (C0 R).take k ++ [id] := by rw [G9 hlt, hid]
   have hsn := b8P R ((C0 R).take k) id; rw [← htk] at hsn; have hnew : K8 (a3M R ((C0 R).take k)) id = none := b8s fun hm => by
     have := a2e R; rw [← take_append_drop k (C0 R), nodup_append] at this; exact this.2.2 id hm id (by rw [drop_eq_getElem_cons hlt, hid]; simp) rfl
   have chg_eq : A7 (abF R id).nm = .agg [B8 (abF R id).nm.1, .int .i64 (abF R id).nm.2.1, .str (abF R id).nm.2.2.1, .str (N1 R id), .str (abF R id).nm.2.2.2.2.1, .str (abF R id).nm.2.2.2.2.2] := rfl; have hmg := a4c (P2 R (C0 R)) (N1 R id); have hsh : G6 R id = if Z8 R id then N1 R id else b0W (N1 R id) id := rfl
   have hob : Z8 R id = decide (K8 (P2 R (C0 R)) (N1 R id) = some id) := rfl; have hn := hN id hin; have hot := c3I (N1 R id) id hn.own hn.short hn.parse; have hlk : ∃ r w, M8 (P1 (P2 R (C0 R))) (.str (N1 R id)) = r ∧ a0y false (.str []) r = .d (.str w) ∧ (decide (w = id) = Z8 R id) := by
     rw [hmg, hob]; cases h : K8 (P2 R (C0 R)) (N1 R id) with
     | none => exact ⟨none, [], rfl, rfl, by simp [Ne.symm hn.ne]⟩
     | some v => exact ⟨some (.str v), v, rfl, rfl, by simp⟩
   obtain ⟨r, w, hr1, hr2, hr3⟩ := hlk; rw [← a3D] at hg1; rw [hd1] at hg1; generalize b0W (N1 R id) id = OT at *; rcases Classical.em (w = id) with hw | hw
   all_goals
     simp -implicitDefEqProofs [g0, g3, g4, g12, g13, g14, ← hsd, T9, hlt, hlt', hid]; refine a0f a3F (F8 _) (a5C M) Tryz.zd_75 hg1 ?_; simp -implicitDefEqProofs [g0, g3, g4, g12, g13, g14, M9, chg_eq, A1]; refine a6a (m := P1 (a3M R ((C0 R).take k))) (E := none) 1000001 Y0 (by simp [gB]) (F8 _) _ (Perm.refl _) ?_; rw [a7P hnew]; simp -implicitDefEqProofs [g0, g3, g4, g12, g13, g14]; refine a1t (m := P1 (P2 R (C0 R))) (E := none) 1000000 (by omega) Y0 (by simp [gA]) (F8 _) Tryz.zd_9 hr1 ?_; rw [hr2]
   · have hb : Z8 R id = true := by rw [← hr3]; simpa using hw
     rw [hb, if_pos rfl] at hsh; simp -implicitDefEqProofs [g0, g3, g4, g12, g13, g14, hw]; (repeat refine ai (by omega) ?_); exact F0 hlt ⟨by simp [g0, ← hsd, T9], by simp [g3], by simp [g4], by simp [g12], by simp [g13], by simp, by simp [gA], by simp [hsn, hsh]⟩
   · have hb : Z8 R id = false := by rw [← hr3]; simpa using hw
     rw [hb] at hsh; simp only [Bool.false_eq_true, if_false] at hsh; simp -implicitDefEqProofs [g0, g3, g4, g12, g13, g14, hw]; refine A3 hot ?_; simp -implicitDefEqProofs [g0, g3, g4, g12, g13, g14, hw]; refine a6a (m := P1 (a3M R ((C0 R).take k) ++ [(id, N1 R id)])) (E := none) 1000001 Y0 (by simp) (F8 _) _ (Perm.refl _) ?_; rw [c0J hnew]; simp -implicitDefEqProofs [g0, g3, g4, g12, g13, g14]; (repeat refine ai (by omega) ?_); exact F0 hlt ⟨by simp [g0, ← hsd, T9], by simp [g3], by simp [g4], by simp [g12], by simp [g13], by simp, by simp [gA], by simp [hsn, hsh]⟩
 · have hlt' : ¬ (k : Int) < (C0 R).length := (by omega); rw [ttl (by omega)] at gB; simp -implicitDefEqProofs [g0, g3, g4, g12, g13, g14, hlt, hlt']; exact ⟨_, [1000001], by simp, by simp [gB, isH], by simp [a1u], g2, rfl, by simp [gB, a2n, a3M]⟩
structure a0z (R : List Chg) : Prop where
 few : (N9 R).length < 5000
 name : ∀ id ∈ C0 R, b5f (N1 R id) id
 vals : ∀ id, (abF R id).vs.length < 5000 ∧ ∀ p ∈ (abF R id).vs, length p.1.1 < 900000 ∧ length p.1.2 < 900000
theorem a0z.lt {R : List Chg} (h : a0z R) : (N9 R).length < 100000 := by have := h.few; omega
theorem b9s (R : List Chg) (d : D) (hd : StD R d) (hG : a0z R) : F5 prog 63 [.d d] [] (fun r hs' => hs' = [] ∧ ∃ g N bs clk, Perm N (P2 R (C0 R)) ∧ r = .d (smD g N bs clk)) := c7v (b3T R d hd hG.lt)
theorem a2m (R : List Chg) (d : D) (hd : StD R d) (hG : a0z R) : F5 prog 42 [.d d] [] (fun r hs' => hs' = [] ∧ ∃ g N bs clk, Perm N (a2n R) ∧ r = .d (smD g N bs clk)) := c7v (b5C R d hd hG.lt hG.name)
theorem a5x (R : List Chg) : (a2n R).map (·.1) = C0 R := by simp [a2n, Function.comp_def]
theorem a3l {R : List Chg} {N : SM} (hN : Perm N (a2n R)) (id : Str) : K8 N id = if id ∈ C0 R then some (G6 R id) else none := by
 rw [b2l hN (by rw [a5x]; exact a2e R)]; by_cases h : id ∈ C0 R
 · rw [if_pos h]; have hn := a2e R; unfold a2n K8; generalize C0 R = l at *
   induction l with
   | nil => simp at h
   | cons x l ih =>
     rw [nodup_cons] at hn; by_cases hx : x = id
     · subst hx; simp
     · rcases mem_cons.1 h with e | h
       · exact absurd e.symm hx
       · have := ih h hn.2; simp only [map_cons, find?_cons, decide_eq_false hx] at this ⊢; exact this
 · rw [if_neg h, a6Q]; intro p hp e; exact h (by rw [← a5x, ← e]; exact mem_map.2 ⟨p, hp, rfl⟩)
theorem S0 (N : SM) : ∀ k ∈ N.map (fun p => D.str p.1), D8 prog 9 k = true := by
 intro k hk; obtain ⟨x, _, rfl⟩ := mem_map.1 hk; exact F8 _
theorem a2w (N : SM) (k : Str) : M8 ((N.map fun p => D.str p.1).zip (N.map fun p => D.str p.2)) (.str k) = (K8 N k).map .str := by rw [c4t, a4c]
def a3H (R : List Chg) (n : Str) : Str × Bool := match (C0 R).find? fun id => decide (G6 R id = n) with
 | some id => (id, true)
 | none => ([], false)
def noF (R : List Chg) (n : Str) (k : Nat) : Prop := a3H R n = match ((C0 R).drop k).find? fun id => decide (G6 R id = n) with
 | some id => (id, true)
 | none => ([], false)
theorem c3y (R : List Chg) (n : Str) : noF R n 0 := by simp [noF, a3H]
theorem c6B {R : List Chg} {n : Str} {k : Nat} (h : noF R n k) (hk : k < (C0 R).length) (he : G6 R (C0 R)[k] = n) : a3H R n = ((C0 R)[k], true) := by
 rw [noF, drop_eq_getElem_cons hk, find?_cons_of_pos (by simpa using he)] at h; exact h
theorem c3N {R : List Chg} {n : Str} {k : Nat} (h : noF R n k) (hk : k < (C0 R).length) (he : ¬ G6 R (C0 R)[k] = n) : noF R n (k + 1) := by
 rw [noF, drop_eq_getElem_cons hk, find?_cons_of_neg (by simpa using he)] at h; exact h
theorem c5Z {R : List Chg} {n : Str} {k : Nat} (h : noF R n k) (hk : (C0 R).length ≤ k) : a3H R n = ([], false) := by
 rw [noF, drop_eq_nil_of_le hk] at h; exact h
def FnI (R : List Chg) (n : Str) (g : Nat) (N : SM) (bs : List Nat) (clk : Nat) (k : Nat) (τ : St) : Prop := τ 1 = .d (.str n) ∧ τ 6 = .d (smD g N bs clk) ∧ τ 15 = .own false 9 ((C0 R).map .str) ∧ τ 16 = .d (.int .i64 (C0 R).length) ∧ τ 17 = .d (.int .i64 k) ∧ noF R n k
theorem c5T (R : List Chg) (d : D) (n : Str) (hd : StD R d) (hG : a0z R) : Ctr prog 15 [.d d, .d (.str n)] (.tup [.d (.str (a3H R n).1), .d (.bool (a3H R n).2)]) := by
 have hdi := a2m R d hd hG; have hlv := a3A R d hd hG.lt; obtain ⟨u1, R1, bs1, c1, u2, M, bs2, c2, rfl, hR1, hM⟩ := hd.open; have hll := a0L R; have hlt := hG.lt; have hre := a2u u1 R1 bs1 c1 u2 M bs2 c2; obtain ⟨sd, hsd⟩ : ∃ sd, T9 u1 R1 bs1 c1 u2 M bs2 c2 = sd := ⟨_, rfl⟩; rw [hsd] at hdi hlv hre ⊢; refine L9 (rv := .tmp 4) (rs := [.tmp 5]) (r := .d (.str (a3H R n).1)) (ys := [.d (.bool (a3H R n).2)]) (fun i => i == 5000013) (by kernel_rfl) func15 (by kernel_rfl) rfl rfl (by simp) (nbl rfl) (by kernel_rfl) rfl rfl ?_; simp -implicitDefEqProofs; refine A3 hre ?_; simp -implicitDefEqProofs; refine b2Z hdi ?_; rintro r hs' ⟨rfl, g, N, bs, clk, hN, rfl⟩; refine ⟨rfl, ?_⟩; simp -implicitDefEqProofs; refine A3 hlv ?_; simp -implicitDefEqProofs; refine H4 (C0 R).length (FnI R n g N bs clk) ⟨by simp, by simp, by simp, by simp, by simp, c3y R n⟩ ?_; rintro k τ hk ⟨g1, g6, g15, g16, g17, gN⟩; rcases Nat.lt_or_ge k (C0 R).length with hlt | hlt
 · have hlt' : (k : Int) < (C0 R).length := (by omega); have hin : (C0 R)[k] ∈ C0 R := gmm _; have hge := a2w N (C0 R)[k]; rw [a3l hN, if_pos hin] at hge; rcases Classical.em (G6 R (C0 R)[k] = n) with he | he
   · rw [c6B gN hlt he]; simp -implicitDefEqProofs [g1, g6, g15, g16, g17, hlt, hlt', smD]; refine a0f Y0 (F8 _) (S0 N) Tryz.zd_9 hge ?_; simp -implicitDefEqProofs [g1, g6, g15, g16, g17, hlt, hlt', smD, he]
   · have hnx := c3N gN hlt he; simp -implicitDefEqProofs [g1, g6, g15, g16, g17, hlt, hlt', smD]; refine a0f Y0 (F8 _) (S0 N) Tryz.zd_9 hge ?_; simp -implicitDefEqProofs [g1, g6, g15, g16, g17, hlt, hlt', smD, he]; exact ⟨by omega, F0 hlt ⟨by simp [g1], by simp [g6, smD], by simp [g15], by simp [g16], by simp, hnx⟩⟩
 · rw [c5Z gN hlt]; have hlt' : ¬ (k : Int) < (C0 R).length := (by omega); have hlt'' : ¬ k < (C0 R).length := (by omega); simp -implicitDefEqProofs [g1, g6, g15, g16, g17, hlt', hlt'']
def b8n (p : VK × Chg) : Option Att := if opC p.2 = 4 then some (p.1.1, [p.1.2]) else none
def a0u (vs : List (VK × Chg)) : List Att := vs.filterMap b8n
def a2d (R : List Chg) (id : Str) : List Att := G2 (a0u (abF R id).vs)
def W5 (s : Str) (a : List Att) : D := .agg [.str s, G5 a]
theorem a8z {V W : List (VK × Chg)} (h : Perm V W) : G2 (a0u V) = G2 (a0u W) := by
 refine b1I fun n v => ?_
 have : ∀ a, a ∈ a0u V ↔ a ∈ a0u W := fun a => (h.filterMap b8n).mem_iff
 simp only [b3e, this]
theorem b6x {V : List (VK × Chg)} (h : V.length < 5000) (hs : ∀ p ∈ V, length p.1.1 < 900000 ∧ length p.1.2 < 900000) : a5R (a0u V) := by
 have hlen : (a0u V).length ≤ V.length := length_filterMap_le _ _; have hm : ∀ a ∈ a0u V, length a.1 < 900000 ∧ a.2.length = 1 := fun a ha => by
   obtain ⟨p, hp, e⟩ := mem_filterMap.1 ha; unfold b8n at e; split at e
   · simp only [Option.some.injEq] at e; subst e; exact ⟨(hs p hp).1, rfl⟩
   · cases e
 refine ⟨⟨by omega, fun a ha => ⟨by have := (hm a ha).1; omega, by have := (hm a ha).2; omega⟩⟩, ?_⟩; have : ∀ l : List Att, (∀ a ∈ l, a.2.length = 1) → I0 l = l.length := by
   intro l
   induction l with
   | nil => intro _; rfl
   | cons a l ih =>
     intro h; have := ih fun b hb => h b (by simp [hb])
     simp only [I0, map_cons, sum_cons, length_cons] at this ⊢; rw [this, h a (by simp)]; omega
 rw [this _ fun a ha => (hm a ha).2]; omega
theorem c1a (vs : List (VK × Chg)) (k : VK) (c : Chg) : (a4j vs k c).map (·.1) = if vs.any (fun p => decide (p.1 = k)) then vs.map (·.1) else vs.map (·.1) ++ [k] := by
 unfold a4j; split
 · rw [map_map]; refine map_congr_left fun p _ => ?_
   simp only [Function.comp_apply]; split <;> rfl
 · simp
theorem b8U {vs : List (VK × Chg)} (hn : (vs.map (·.1)).Nodup) (k : VK) (c : Chg) : ((a4j vs k c).map (·.1)).Nodup := by
 rw [c1a]; split
 · exact hn
 · rename_i h
   refine nodup_append.2 ⟨hn, by simp, fun x hx z hz => ?_⟩; simp only [mem_singleton] at hz; subst hz; rintro rfl; obtain ⟨p, hp, e⟩ := mem_map.1 hx; exact h (any_eq_true.2 ⟨p, hp, by simpa using e⟩)
theorem a3W (R : List Chg) (id : Str) : ((abF R id).vs.map (·.1)).Nodup := by
 refine V0 (P := fun R => ((abF R id).vs.map (·.1)).Nodup) (by simp [abF, S3]) (fun R c ih => ?_) R; rw [a0T]; split
 · unfold O9; split
   · exact ih
   · split
     · exact ih
     · split
       · exact ih
       · exact b8U ih _ _
 · exact ih
theorem c5x {a b : VK} (h : vkD a = vkD b) : a = b := by
 obtain ⟨a1, a2⟩ := a; obtain ⟨b1, b2⟩ := b; simp only [vkD, D.agg.injEq, List.cons.injEq, D.str.injEq, and_true] at h; rw [h.1, h.2]
structure a5A (V W : List (VK × Chg)) (seen : List D) : Prop where
 eq : seen = W.map fun p => vkD p.1
 nd : W.Nodup
 sub : ∀ p ∈ W, p ∈ V
theorem c7b {V : List (VK × Chg)} (hn : (V.map (·.1)).Nodup) {p q : VK × Chg} (hp : p ∈ V) (hq : q ∈ V) (e : p.1 = q.1) : p = q := by
 obtain ⟨i, hi, e1⟩ := getElem_of_mem hp; obtain ⟨j, hj, e2⟩ := getElem_of_mem hq; have := a9g hn (i := i) (j := j) (by simpa using hi) (by simpa using hj) (by simp [e1, e2, e]); subst this; rw [← e1, ← e2]
theorem a5A.next {V W : List (VK × Chg)} {seen : List D} (h : a5A V W seen) {p : VK × Chg} (hp : p ∈ V) (hn : vkD p.1 ∉ seen) : a5A V (W ++ [p]) (seen ++ [vkD p.1]) := by
 refine ⟨by rw [h.eq]; simp, ?_, fun q hq => ?_⟩
 · refine nodup_append.2 ⟨h.nd, by simp, fun a ha b hb => ?_⟩; simp only [mem_singleton] at hb; subst hb; rintro rfl; exact hn (by rw [h.eq]; exact mem_map.2 ⟨a, ha, rfl⟩)
 · rcases mem_append.1 hq with hq | hq
   · exact h.sub q hq
   · rw [mem_singleton.1 hq]; exact hp
theorem a9G {V : List (VK × Chg)} (hn : (V.map (·.1)).Nodup) : V.Nodup := (pairwise_map.1 hn).imp fun h e => h (by rw [e])
theorem a5A.le {V W : List (VK × Chg)} {seen : List D} (h : a5A V W seen) (hn : (V.map (·.1)).Nodup) : W.length ≤ V.length := by
 have hp : W.Perm (V.filter fun p => decide (p ∈ W)) := (perm_ext_iff_of_nodup h.nd ((a9G hn).filter _)).2 fun p => by
   simp only [mem_filter, decide_eq_true_eq]; exact ⟨fun hs => ⟨h.sub p hs, hs⟩, fun hs => hs.2⟩
 rw [hp.length_eq]; exact length_filter_le _ _
theorem a5A.all {V W : List (VK × Chg)} {seen : List D} (h : a5A V W seen) (hn : (V.map (·.1)).Nodup) (ha : ∀ p ∈ V, vkD p.1 ∈ seen) : Perm W V := by
 have hnv : V.Nodup := a9G hn; refine (perm_ext_iff_of_nodup h.nd hnv).2 fun p => ⟨h.sub p, fun hp => ?_⟩
 have := ha p hp; rw [h.eq] at this; obtain ⟨q, hq, e⟩ := mem_map.1 this; rw [← c7b hn (h.sub q hq) hp (c5x e)]; exact hq
theorem b9u (V : List (VK × Chg)) : (V.map fun p => vkD p.1).zip (V.map fun p => A7 p.2) = V.map fun p => (vkD p.1, A7 p.2) := by
 induction V with
 | nil => rfl
 | cons x V ih => simp only [map_cons, zip_cons_cons, ih]
theorem c3C (a : VK) : G8 (vkD a) (vkD a) = true := by simp [vkD, G8, W7, Y9]
theorem b1s (V : List (VK × Chg)) : ∀ k ∈ V.map (fun p => vkD p.1), G8 k k = true := by
 intro k hk; obtain ⟨x, _, rfl⟩ := mem_map.1 hk; exact c3C _
theorem c0g (c : Chg) : A9 (A7 c) = 8 := rfl
theorem c1f (W : List (VK × Chg)) (p : VK × Chg) : a0u (W ++ [p]) = a0u W ++ (if opC p.2 = 4 then [(p.1.1, [p.1.2])] else []) := by
 simp only [a0u, filterMap_append, filterMap_cons, filterMap_nil, b8n]; split <;> simp_all
def EnI (s : Str) (u : Value) (V : List (VK × Chg)) (bs : List Nat) (clk : Nat) (k : Nat) (τ : St) : Prop := ∃ W seen, a5A V W seen ∧ W.length = k ∧ τ 2 = .d (.str s) ∧ τ 6 = .box (.agg [.str [], .sl []]) ∧ τ 7 = .own false 72 ((a0u W).map att) ∧
 τ 18 = .d (.map u (V.map fun p => vkD p.1) (V.map fun p => A7 p.2) bs clk) ∧ τ 19 = .mit u ((V.map fun p => vkD p.1).zip bs, clk) seen
theorem b6B (R : List Chg) (d : D) (id s : Str) (hd : StD R d) (hG : a0z R) (hin : id ∈ C0 R) : Ctr prog 50 [.d d, .d (.str id), .d (.str s)] (.d (W5 s (a2d R id))) := by
 obtain ⟨u1, R1, bs1, c1, u2, M, bs2, c2, rfl, hR1, hM⟩ := hd.open; obtain ⟨d, hg1, hab⟩ := hM.live hin; obtain ⟨u, V, bs, clk, hd1, hV⟩ := hab; have hvl : V.length < 5000 := by rw [hV.length_eq]; exact (hG.vals id).1
 have hvs : ∀ p ∈ V, length p.1.1 < 900000 ∧ length p.1.2 < 900000 := fun p hp => (hG.vals id).2 p (hV.mem_iff.1 hp)
 rw [← a3D] at hg1; rw [hd1] at hg1; have hat : a2d R id = G2 (a0u V) := (a8z hV).symm; rw [hat]; refine L9 (rv := .cell 6 48) (rs := []) (r := .d (W5 s (G2 (a0u V)))) (ys := []) (fun i => false) (by kernel_rfl) func50 (by kernel_rfl) rfl rfl (by simp) (nbl rfl) (by kernel_rfl) rfl rfl ?_; simp -implicitDefEqProofs [T9]; refine a0f a3F (F8 _) (a5C M) Tryz.zd_75 hg1 ?_; simp -implicitDefEqProofs [M9, c0g]; have hVn : (V.map (·.1)).Nodup := (hV.map _).nodup_iff.2 (a3W R id); refine H4 V.length (EnI s u V bs clk) ⟨[], [], ⟨rfl, nodup_nil, by simp⟩, rfl, by simp, by simp, by simp [a0u], by simp, by simp⟩ ?_; rintro k τ hk ⟨W, seen, hS, hsl, g2, g6, g7, g18, g19⟩; have hle := hS.le hVn; simp -implicitDefEqProofs [g2, g6, g7, g18, g19]; refine c4b (vs := V.map fun p => A7 p.2) 18 (by simp [g18]) (b1s V) (fun x v hm hn => ?_) (fun hall => ?_)
 · have hm2 := hm; rw [b9u] at hm2; obtain ⟨p, hp, e⟩ := mem_map.1 hm2; simp only [Prod.mk.injEq] at e; obtain ⟨rfl, rfl⟩ := e; have hS2 := hS.next hp hn; have hlt : k < V.length := by have := hS2.le hVn; simp at this; omega
   have hsn := c1f W p; have chg_eq : A7 p.2 = .agg [B8 p.2.1, .int .i64 (opC p.2), .str p.2.2.2.1, .str p.2.2.2.2.1, .str p.2.2.2.2.2.1, .str p.2.2.2.2.2.2] := rfl; have vk_eq : vkD p.1 = .agg [.str p.1.1, .str p.1.2] := rfl; have hpl : (a0u W).length ≤ W.length := length_filterMap_le _ _; generalize hT2 : a0u (W ++ [p]) = T2 at *; generalize hT : a0u W = T at *; rcases Classical.em (opC p.2 = 4) with h4 | h4
   all_goals
     simp only [h4, if_true, if_false] at hsn; simp -implicitDefEqProofs [g2, g6, g7, g18, g19]; refine c3W (vs := V.map fun p => A7 p.2) 18 (by simp [g18]) (b1s V) hm ?_; simp -implicitDefEqProofs [g2, g6, g7, g18, g19, chg_eq, vk_eq, A1, h4]
   · refine ⟨by omega, by omega, F0 hlt ⟨W ++ [p], seen ++ [vkD p.1], hS2, by simp [hsl], by simp [g2], by simp [g6], by simp [hT2, hsn, att, C7], by simp [g18], by simp [vk_eq]⟩⟩
   · exact F0 hlt ⟨W ++ [p], seen ++ [vkD p.1], hS2, by simp [hsl], by simp [g2], by simp [g6], by simp [g7, hT2, hsn], by simp [g18], by simp [vk_eq]⟩
 · have hp : Perm W V := hS.all hVn fun p hp => hall (vkD p.1, A7 p.2) (by rw [b9u]; exact mem_map.2 ⟨p, hp, rfl⟩)
   have hsort := (c1A (a0u W) (b6x (by omega) fun p hp => hvs p (hS.sub p hp))); rw [a8z hp] at hsort; simp only [G5] at hsort; generalize G2 (a0u V) = A at *; generalize a0u W = T at *; simp -implicitDefEqProofs [g2, g6, g7, g18, g19]; refine A3 hsort ?_; simp -implicitDefEqProofs [g2, g6, g7, g18, g19, W5, G5]
def S1 (R : List Chg) (id : Str) : (Str × List Att) × Bool := if id ∈ C0 R then ((G6 R id, a2d R id), true) else (([], []), false)
theorem b0V (R : List Chg) (d : D) (id : Str) (hd : StD R d) (hG : a0z R) : Ctr prog 21 [.d d, .d (.str id)] (.tup [.d (W5 (S1 R id).1.1 (S1 R id).1.2), .d (.bool (S1 R id).2)]) := by
 have hdi := a2m R d hd hG; have hen : ∀ s, id ∈ C0 R → _ := fun s h => b6B R d id s hd hG h
 obtain ⟨u1, R1, bs1, c1, u2, M, bs2, c2, rfl, hR1, hM⟩ := hd.open; have hre := a2u u1 R1 bs1 c1 u2 M bs2 c2; obtain ⟨sd, hsd⟩ : ∃ sd, T9 u1 R1 bs1 c1 u2 M bs2 c2 = sd := ⟨_, rfl⟩; rw [hsd] at hdi hre hen ⊢; rcases Classical.em (id ∈ C0 R) with hin | hin
 · have he : S1 R id = ((G6 R id, a2d R id), true) := (by simp [S1, hin]); rw [he]; have hen := hen (G6 R id) hin; refine L9 (rv := .cell 4 48) (rs := [.tmp 5]) (r := .d (W5 (G6 R id) (a2d R id))) (ys := [.d (.bool true)]) (fun i => i == 5000014) (by kernel_rfl) func21 (by kernel_rfl) rfl rfl (by simp) (nbl rfl) (by kernel_rfl) rfl rfl ?_; simp -implicitDefEqProofs; refine A3 hre ?_; simp -implicitDefEqProofs; refine b2Z hdi ?_; rintro r hs' ⟨rfl, g, N, bs, clk, hN, rfl⟩; have hge := a2w N id; rw [a3l hN, if_pos hin] at hge; refine ⟨rfl, ?_⟩; simp -implicitDefEqProofs [smD]; refine a0f Y0 (F8 _) (S0 N) Tryz.zd_9 hge ?_; simp -implicitDefEqProofs; refine A3 hen ?_; simp -implicitDefEqProofs [W5, G5]
 · have he : S1 R id = (([], []), false) := (by simp [S1, hin]); rw [he]; refine L9 (rv := .cell 4 48) (rs := [.tmp 5]) (r := .d (W5 [] [])) (ys := [.d (.bool false)]) (fun i => i == 5000014) (by kernel_rfl) func21 (by kernel_rfl) rfl rfl (by simp) (nbl rfl) (by kernel_rfl) rfl rfl ?_; simp -implicitDefEqProofs; refine A3 hre ?_; simp -implicitDefEqProofs; refine b2Z hdi ?_; rintro r hs' ⟨rfl, g, N, bs, clk, hN, rfl⟩; have hge := a2w N id; rw [a3l hN, if_neg hin] at hge; refine ⟨rfl, ?_⟩; simp -implicitDefEqProofs [smD]; refine a0f Y0 (F8 _) (S0 N) Tryz.zd_9 hge ?_; simp -implicitDefEqProofs [W5, G5]
theorem b9G (g : FuncId) (cs : List D) (hcs : (cs.all fun c => !c.isAgg) = true) (p : Str → Bool) (l : List Str) (hl : l.length < 1000000) (hp : ∀ a ∈ l, Ctr prog g ([.d (.str a)] ++ cs.map .d) (.d (.bool (p a)))) :
   Ctr prog 64 [.own true 9 (l.map .str), .d (.clo g cs)] (.own true 9 ((l.filter fun x => !p x).map .str)) := by
 refine fv (fun i => i == 2000010) func64 (by kernel_rfl) rfl rfl rfl rfl rfl ?_; simp -implicitDefEqProofs; refine c5h (c1h g cs hcs p l hl hp) rfl ?_; by_cases hn : a3e p 0 l = -1
 · simp -implicitDefEqProofs [hn, b6E p l 0 hn]
 · obtain ⟨i, h1, h2, h3, h4⟩ := b6F p l 0 hn; simp only [Nat.zero_add] at h1; have e1 : ¬ ((i : Int) = -1) := (by omega); simp -implicitDefEqProofs [h1, e1]; refine ⟨by omega, ?_⟩; refine b2s (fun n τ => ∃ (j q : Nat) (m : List Str), n = l.length - j ∧ j ≤ l.length ∧ τ 0 = .own true 9 (m.map .str) ∧ τ 1 = .d (.clo g cs) ∧ τ 5 = .d (.int .i64 q) ∧ τ 6 = .d (.int .i64 j) ∧ m.length = l.length ∧ q < j ∧ m.take q = (l.take j).filter (fun x => !p x) ∧ m.drop j = l.drop j)
     (l.length - (i + 1)) ⟨i + 1, i, l, rfl, by omega, by simp, by simp, by simp, by simp, rfl, by omega, h4.symm, rfl⟩ ?_
   rintro n τ ⟨j, q, m, rfl, hj, g0, g1, g5, g6, hm, hq, ht, hd⟩; by_cases hlt : j < l.length
   · have hmj : m[j]'(by omega) = l[j] := by
       have := congrArg (fun x : List Str => x[0]?) hd; simpa [hlt, hm] using this
     have hf := hp _ (gmm hlt); simp only [cons_append, nil_append] at hf; have hlt' : (j : Int) < l.length := (by omega); simp -implicitDefEqProofs [g0, g1, g5, g6, hm, hlt', hlt, hmj]; refine ⟨by simpa using hcs, A3 hf ?_⟩; by_cases he : p l[j] = true
     · simp -implicitDefEqProofs [g0, g1, g5, g6, hm, hlt', hlt, hmj, he]; refine ⟨by omega, _, ?_, j + 1, rfl, by omega, q, m, rfl, rfl, by omega, hm, by omega, ?_, ?_⟩
       · omega
       · rw [G9 hlt, filter_append, ht]; simp [he]
       · rw [← drop_drop, hd, drop_drop]
     · have hq2 : q < m.length := (by omega); have hqq : m[q]? = some m[q] := getElem?_eq_getElem hq2; simp -implicitDefEqProofs [g0, g1, g5, g6, hm, hlt', hlt, hmj, he, hqq]; refine ⟨by omega, by omega, by omega, _, ?_, j + 1, rfl, by omega, q + 1, m.set q l[j], ?_, by simp, by simp, by simpa using hm, by omega, ?_, ?_⟩
       · omega
       · rw [map_set]
       · rw [take_set, G9 hq2, set_append_right _ _ (by simp; omega)]; simp only [length_take, Nat.min_eq_left (Nat.le_of_lt hq2), Nat.sub_self, set_cons_zero]; rw [G9 hlt, filter_append, ht]; simp [he]
       · rw [drop_set_of_lt (by omega), ← drop_drop, hd, drop_drop]
   · simp -implicitDefEqProofs [g0, g1, g5, g6, hm, hlt]; have hjl : j = l.length := (by omega); subst hjl; refine ⟨by omega, by omega, ?_⟩; rw [take_append_of_le_length (by simp; omega), take_take, Nat.min_self, ← map_take, ht, take_length]
def a0B (R : List Chg) : List Str := (C0 R).filter fun id => !Z8 R id
theorem c6u {R : List Chg} {N : SM} (hN : Perm N (P2 R (C0 R))) (k : Str) : K8 N k = K8 (P2 R (C0 R)) k := by
 refine b2l hN ?_ k; have : ∀ l : List Str, ((P2 R l).map (·.1)).Nodup := fun l => V0 (P := fun l => ((P2 R l).map (·.1)).Nodup) (by simp [P2]) (fun l id ih => by
   rw [b3U]; cases h : K8 (P2 R l) (N1 R id) with
   | some v => simpa using ih
   | none =>
     simp only [Option.isSome_none, Bool.false_eq_true, if_false, map_append, map_cons, map_nil]; refine nodup_append.2 ⟨ih, by simp, fun a ha b hb => ?_⟩; simp only [mem_singleton] at hb; subst hb; rintro rfl; obtain ⟨p, hp, e⟩ := mem_map.1 ha; exact a6Q.1 h p hp e) l
 exact this _
theorem c4I (R : List Chg) (sd : D) (hd : StD R sd) (id : Str) (hin : id ∈ C0 R) (hne : id ≠ []) (g : Nat) (N : SM) (bs : List Nat) (clk : Nat) (hN : Perm N (P2 R (C0 R))) :
   Ctr prog 65 ([.d (.str id)] ++ [D.ref (smD g N bs clk), D.ref sd].map .d) (.d (.bool (Z8 R id))) := by
 obtain ⟨u1, R1, bs1, c1, u2, M, bs2, c2, rfl, hR1, hM⟩ := hd.open; obtain ⟨d, hg1, hab⟩ := hM.live hin; obtain ⟨u, V, bs', clk', hd1, hV⟩ := hab; have chg_eq : A7 (abF R id).nm = .agg [B8 (abF R id).nm.1, .int .i64 (abF R id).nm.2.1, .str (abF R id).nm.2.2.1, .str (N1 R id), .str (abF R id).nm.2.2.2.2.1, .str (abF R id).nm.2.2.2.2.2] := rfl; rw [← a3D] at hg1; rw [hd1] at hg1; have hmg := a2w N (N1 R id); rw [c6u hN] at hmg; have hob : Z8 R id = decide (K8 (P2 R (C0 R)) (N1 R id) = some id) := rfl; have hlk : ∃ r w, M8 ((N.map fun p => D.str p.1).zip (N.map fun p => D.str p.2)) (.str (N1 R id)) = r ∧ a0y false (.str []) r = .d (.str w) ∧ (decide (w = id) = Z8 R id) := by
   rw [hmg, hob]; cases h : K8 (P2 R (C0 R)) (N1 R id) with
   | none => exact ⟨none, [], rfl, rfl, by simp [Ne.symm hne]⟩
   | some v => exact ⟨some (.str v), v, rfl, rfl, by simp⟩
 obtain ⟨r, w, hr1, hr2, hr3⟩ := hlk; rw [← hr3]; refine fv (fun _ => false) func65 (by kernel_rfl) rfl rfl rfl rfl rfl ?_; simp -implicitDefEqProofs [smD, T9]; refine a0f a3F (F8 _) (a5C M) Tryz.zd_75 hg1 ?_; simp -implicitDefEqProofs [M9, chg_eq, A1]; refine a0f Y0 (F8 _) (S0 N) Tryz.zd_9 hr1 ?_; rw [hr2]; simp -implicitDefEqProofs
theorem a2X (R : List Chg) (d : D) (hd : StD R d) (hG : a0z R) : Ctr prog 28 [.d d] (.own true 9 ((a0B R).map .str)) := by
 have how := b9s R d hd hG; have hlv := a3A R d hd hG.lt; have hq : ∀ id ∈ C0 R, ∀ g N bs clk, Perm N (P2 R (C0 R)) → _ := fun id hin g N bs clk hN => c4I R d hd id hin (hG.name id hin).ne g N bs clk hN
 have hll := a0L R; have hlt := hG.lt; obtain ⟨u1, R1, bs1, c1, u2, M, bs2, c2, rfl, hR1, hM⟩ := hd.open; have hre := a2u u1 R1 bs1 c1 u2 M bs2 c2; obtain ⟨sd, hsd⟩ : ∃ sd, T9 u1 R1 bs1 c1 u2 M bs2 c2 = .ref sd := ⟨_, rfl⟩; rw [hsd] at how hlv hre hq ⊢; refine fv (fun i => i == 5000008 || i == 10 || i == 12 || i == 2) func28 (by kernel_rfl) rfl rfl rfl rfl rfl ?_; simp -implicitDefEqProofs; refine A3 hre ?_; simp -implicitDefEqProofs; refine b2Z how ?_; rintro r hs' ⟨rfl, g, N, bs, clk, hN, rfl⟩; refine ⟨rfl, ?_⟩; have hdl := b9G 65 [D.ref (smD g N bs clk), D.ref (.ref sd)] rfl (Z8 R) (C0 R) (by omega) (fun id hid => hq id hid g N bs clk hN); simp -implicitDefEqProofs [smD]; refine A3 hlv ?_; simp -implicitDefEqProofs [smD]; simp only [smD] at hdl; refine A3 hdl ?_; simp -implicitDefEqProofs [a0B]
theorem a7A {s : Str} : K9 s = true ↔ ∃ l, M7 s = some l := by
 unfold K9; rw [Option.isSome_iff_exists]
theorem b6n : M7 [] = some [] := by decide
theorem c6s {s : Str} {l : List G1} (h : M7 s = some l) : s = [] ↔ l = [] := by
 constructor
 · rintro rfl; rw [b6n] at h; simpa using h.symm
 · rintro rfl; exact b4x h b6n
theorem c4k {p : G1} (h : NP p) : (W6 p).length ≤ 577 := by
 obtain ⟨h1, h2⟩ := a7v h; simp only [U0, S9, Bool.and_eq_true, decide_eq_true_eq] at h1 h2; have e1 : (S7 (Y5 p.2)).length ≤ 2 * (Y5 p.2).length := by
   unfold S7; generalize Y5 p.2 = s
   induction s with
   | nil => simp
   | cons c s ih =>
     rw [flatMap_cons, length_append, length_cons]; have : (if W9 c = true then [92, c] else [c]).length ≤ 2 := by split <;> simp
     omega
 have e2 : (Y5 p.2).length ≤ p.2.length := by
   have hq : ∀ (s : Str) (c : UInt8), (sqz c s).length ≤ s.length := by
     intro s
     induction s with
     | nil => intro c; simp [sqz]
     | cons x s ih =>
       intro c; simp only [sqz]; have := ih x; split <;> simp <;> omega
   unfold Y5; have h3 := hq (D7 (J0 p.2)) 0; have h4 : (D7 (J0 p.2)).length = (J0 p.2).length := (by simp [D7]); have h5 : (J0 p.2).length ≤ p.2.length := a2C p.2; omega
 have e3 : (D7 p.1).length = p.1.length := (by simp [D7]); simp only [W6, length_append, length_cons]; omega
theorem c1t {s : Str} (h : K9 s = true) : s.length ≤ 5000 := by
 obtain ⟨l, hl⟩ := a7A.1 h; obtain ⟨h1, h8, hs, _⟩ := a2F hl; have key : ∀ l : List G1, (∀ p ∈ l, NP p) → (D6 44 (l.map W6)).length ≤ l.length * 578 := by
   intro l
   induction l with
   | nil => intro _; simp [D6]
   | cons p l ih =>
     intro h; have hp := c4k (h p (by simp)); have ih := ih (fun q hq => h q (by simp [hq])); cases l with
     | nil => simp [D6]; omega
     | cons q l =>
       simp only [map_cons, D6, length_append, length_cons] at ih ⊢; omega
 have := key l h1; rw [← hs] at this; omega
theorem b7v {s : Str} {p : G1} {l : List G1} (h : M7 s = some (p :: l)) : ∃ t, X0 s = (t, true) ∧ M7 t = some l := by
 have h8 := (a2F h).2.1; have ha := c0u h h (n := l) (fun q hq => .inl (by simp [hq])) (by simp at h8; omega); refine ⟨_, ?_, ha.2⟩; unfold X0; rw [h]; simp only [ha.1]
theorem c2b {p : G1} (h : V9 p = 0) : (W6 p).length ≤ 577 := by
 unfold V9 at h; split at h
 · cases h
 · split at h
   · cases h
   · rename_i h1 h2
     simp only [Bool.not_eq_false] at h1 h2; simp only [U0, S9, Bool.and_eq_true, decide_eq_true_eq] at h1 h2; have e1 : (S7 (Y5 p.2)).length ≤ 2 * (Y5 p.2).length := by
       unfold S7; generalize Y5 p.2 = s
       induction s with
       | nil => simp
       | cons c s ih =>
         rw [flatMap_cons, length_append, length_cons]; have : (if W9 c = true then [92, c] else [c]).length ≤ 2 := by split <;> simp
         omega
     have e2 : (Y5 p.2).length ≤ p.2.length := by
       have hq : ∀ (s : Str) (c : UInt8), (sqz c s).length ≤ s.length := by
         intro s
         induction s with
         | nil => intro c; simp [sqz]
         | cons x s ih =>
           intro c; simp only [sqz]; have := ih x; split <;> simp <;> omega
       unfold Y5; have h3 := hq (D7 (J0 p.2)) 0; have h4 : (D7 (J0 p.2)).length = (J0 p.2).length := (by simp [D7]); have h5 : (J0 p.2).length ≤ p.2.length := a2C p.2; omega
     have e3 : (D7 p.1).length = p.1.length := (by simp [D7]); simp only [W6, length_append, length_cons]; omega
theorem b7d (l : List G1) : (H7 l).1.length ≤ 5000 := by
 unfold H7; split
 · rename_i h
   unfold a0p at h; split at h
   · rename_i h1
     split at h
     · cases h
     · have h1 := a3K.1 h1; have key : ∀ l : List G1, (∀ p ∈ l, V9 p = 0) → (D6 44 (l.map W6)).length ≤ l.length * 578 := by
         intro l
         induction l with
         | nil => intro _; simp [D6]
         | cons p l ih =>
           intro h; have hp := c2b (h p (by simp)); have ih := ih (fun q hq => h q (by simp [hq])); cases l with
           | nil => simp [D6]; omega
           | cons q l =>
             simp only [map_cons, D6, length_append, length_cons] at ih ⊢; omega
       have := key l h1; simp only; omega
   · rename_i h1; exact absurd h h1
 · simp
def cfK (key : Str → Str) (a b : Str) : Int := orI [a1p (key a) (key b), a0H a b]
theorem b2P {key : Str → Str} {a b : Str} : cfK key a b < 0 ↔ a1p (key a) (key b) < 0 ∨ (key a = key b ∧ a < b) := by
 unfold cfK orI orI orI; by_cases h : a1p (key a) (key b) = 0
 · rw [if_neg (by simpa using h)]; by_cases h2 : a0H a b = 0
   · rw [if_neg (by simpa using h2)]; have := b4r.1 h2; subst this; simp [h]
   · rw [if_pos h2, b6l]; have := a5J.1 h; simp [this, b4h]
 · rw [if_pos h]; have : key a ≠ key b := fun e => h (a5J.2 e)
   simp [this]
theorem b8e (key : Str → Str) (a : Str) : ¬ cfK key a a < 0 := by
 rw [b2P, b4h]; simp
theorem a8K {key : Str → Str} {a b c : Str} (h1 : cfK key a b < 0) (h2 : cfK key b c < 0) : cfK key a c < 0 := by
 rw [b2P] at *; rcases h1 with h1 | ⟨h1, h3⟩ <;> rcases h2 with h2 | ⟨h2, h4⟩
 · exact .inl (b9e h1 h2)
 · rw [h2] at h1; exact .inl h1
 · rw [← h1] at h2; exact .inl h2
 · exact .inr ⟨h1.trans h2, a1U h3 h4⟩
theorem b8f {key : Str → Str} {a b : Str} (h1 : ¬ cfK key a b < 0) (h2 : ¬ cfK key b a < 0) : a = b := by
 rw [b2P] at *; have h3 := c1I (key a) (key b); have h4 : a1p (key a) (key b) = 0 := (by omega); have h5 := a5J.1 h4; exact a2U (fun h => h1 (.inr ⟨h5, h⟩)) (fun h => h2 (.inr ⟨h5.symm, h⟩))
theorem b0u (key : Str → Str) : SWO (ltOf (cfK key)) where
 irrefl x := by simpa [ltOf] using b8e key x
 trans x y z h1 h2 := by
   simp only [ltOf, decide_eq_true_eq] at *; exact a8K h1 h2
 ntrans x y z h1 h2 := by
   simp only [ltOf, decide_eq_false_iff_not] at *; intro h3; by_cases h4 : cfK key y x < 0
   · exact h2 (a8K h4 h3)
   · have := b8f h1 h4; subst this; exact h2 h3
def KS (key : Str → Str) (l : List Str) : Prop := l.Pairwise fun a b => cfK key a b < 0
theorem b0T {key : Str → Str} {l : List Str} (hn : l.Nodup) : KS key (N7 (cfK key) l) := by
 obtain ⟨h1, h2⟩ := a0m (b0u key) l; have hn' : (N7 (cfK key) l).Nodup := h1.nodup_iff.2 hn; refine pairwise_iff_getElem.2 fun i j hi hj hij => ?_
 have h3 := h2 i j hij hj; simp only [ltOf, decide_eq_false_iff_not] at h3; refine Classical.byContradiction fun h4 => ?_
 have := b8f h4 h3; exact (pairwise_iff_getElem.1 hn') i j hi hj hij this
theorem c1l {key : Str → Str} {A B : List Str} (ha : KS key A) (hb : KS key B) (h : A.Perm B) : A = B :=
 h.eq_of_pairwise (fun a b _ _ h1 h2 => absurd (a8K h1 h2) (b8e key a)) ha hb
theorem b3A {key key' : Str → Str} {l m : List Str} (hn : l.Nodup) (hp : l.Perm m) (hk : ∀ a ∈ l, key a = key' a) : N7 (cfK key) l = N7 (cfK key') m := by
 have h1 := (a0m (b0u key) l).1; have h2 := (a0m (b0u key') m).1; have h3 : (N7 (cfK key) l).Perm (N7 (cfK key') m) := h1.trans (hp.trans h2.symm); refine c1l (key := key) (b0T hn) ?_ h3; have h4 : KS key' (N7 (cfK key') m) := b0T (hp.nodup_iff.1 hn); refine Pairwise.imp_of_mem (fun {a b} ha hb h => ?_) h4; have ha' : a ∈ l := hp.mem_iff.2 (h2.mem_iff.1 ha); have hb' : b ∈ l := hp.mem_iff.2 (h2.mem_iff.1 hb); simp only [cfK, hk a ha', hk b hb'] at h ⊢; exact h
def a0i (N : SM) (id : Str) : Str := (K8 N id).getD []
theorem c2F (g : Nat) (N : SM) (bs : List Nat) (clk : Nat) (hN : ∀ p ∈ N, length p.2 < 900000) (a b : Str) :
   Ctr prog 118 ([.d (.str a), .d (.str b)] ++ [D.ref (smD g N bs clk)].map .d) (.d (.int .i64 (cfK (a0i N) a b))) := by
 have hk : ∀ a, length (a0i N a) < 900000 := fun a => by
   unfold a0i K8; cases h : N.find? fun p => decide (p.1 = a) with
   | none => simp
   | some p => simpa using hN p (mem_of_find?_eq_some h)
 have hg : ∀ a, ∃ r, M8 ((N.map fun p => D.str p.1).zip (N.map fun p => D.str p.2)) (.str a) = r ∧ a0y false (.str []) r = .d (.str (a0i N a)) := fun a => by
   rw [a2w]; unfold a0i; cases K8 N a <;> exact ⟨_, rfl, rfl⟩
 obtain ⟨r1, h1, h2⟩ := hg a; obtain ⟨r2, h3, h4⟩ := hg b; have c1 := b6W (a0i N a) (a0i N b) (hk a) (hk b); have c2 := a7M a b; have c3 := a7r [a1p (a0i N a) (a0i N b), a0H a b] (by simp); simp only [a2M, map_cons, map_nil] at c3; refine fv (fun i => false) func118 (by kernel_rfl) rfl rfl rfl rfl rfl ?_; simp -implicitDefEqProofs [smD]; refine a0f Y0 (F8 _) (S0 N) Tryz.zd_9 h1 ?_; rw [h2]; simp -implicitDefEqProofs; refine a0f Y0 (F8 _) (S0 N) Tryz.zd_9 h3 ?_; rw [h4]; simp -implicitDefEqProofs; refine A3 c1 ?_; simp -implicitDefEqProofs; refine A3 c2 ?_; simp -implicitDefEqProofs; refine ⟨by decide, A3 c3 ?_⟩; simp -implicitDefEqProofs [cfK]
theorem c3Y (g : Nat) (N : SM) (bs : List Nat) (clk : Nat) (hN : ∀ p ∈ N, length p.2 < 900000) (l : List Str) (hl : l.length < 1000000) : a7u prog 162 9 (l.map .str) [.d (.clo 118 [D.ref (smD g N bs clk)])] ((N7 (cfK (a0i N)) l).map .str) := by
 refine b8L Tryz.layT 9 (by kernel_rfl) (enters_of func162 (by kernel_rfl) rfl) D.str (fun s => Value.string ⟨s.toArray⟩) c0H (cfK (a0i N)) (b0u _) 118 [D.ref (smD g N bs clk)] (by simp [D.isAgg]) (fun x y => c2F g N bs clk hN x y) (fun w cb => ?_) l hl; exact AnyF.slices_SortFunc_none Tryz.layU none 0 _ w
theorem b9M (g q T : Nat) (N : SM) (bs : List Nat) (clk : Nat) (hl : N.length < 1000000) (hk : ∀ p ∈ N, length p.1 ≤ maxLen) (hN : ∀ p ∈ N, length p.2 < 900000) (hnd : (N.map (·.1)).Nodup) :
   F5 prog 116 [.d (.raw (a9E 163 q)), .d (.clo 118 [D.ref (smD g N bs clk)])] [.hb (.pointer (some ⟨q, 0, none⟩)) T (smD g N bs clk)]
     (fun r hs' => r = .own true 9 ((N7 (cfK (a0i N)) (N.map (·.1))).map .str) ∧ hs' = [.hb (.pointer (some ⟨q, 0, none⟩)) T (smD g N bs clk)]) := by
 have c1 := c3t (P := prog) (ρ := Tryz.coll_ren) (ρk := Tryz.keysA_ren) Tryz.coll { Tryz.keysA with } (enters_of func161 (by kernel_rfl) rfl) (enters_of func163 (by kernel_rfl) rfl) rfl (by decide) (by kernel_rfl) (by kernel_rfl) g q T (N.map (·.1)) (N.map fun p => .str p.2) bs clk (by simp) (by simp; omega) (by simpa using hk); have e : (D.map (.map (some g)) ((N.map (·.1)).map .str) (N.map fun p => .str p.2) bs clk) = smD g N bs clk := by simp [smD, Function.comp_def]
 rw [e] at c1; have hfix : ∀ ss, Perm ss (N.map (·.1)) → N7 (cfK (a0i N)) ss = N7 (cfK (a0i N)) (N.map (·.1)) := fun ss h => b3A (h.nodup_iff.2 hnd) h (fun _ _ => rfl)
 obtain ⟨sd, hsd⟩ : ∃ sd, smD g N bs clk = sd := ⟨_, rfl⟩; have hsI := c3Y g N bs clk hN; rw [hsd] at c1 hsI ⊢; refine a1a (fun i => i == 5000007 || i == 3000010 || i == 5 || i == 8 || i == 4) (by kernel_rfl) func116 (by kernel_rfl) rfl rfl (nbl rfl) (by kernel_rfl) rfl ?_; simp -implicitDefEqProofs [A5]; refine K4 [1000000] 1000000 c1 (by simp [A5]) rfl (by simp) ?_; rintro r hs' ⟨⟨ss, hss, rfl⟩, rfl⟩; have hsl : ss.length < 1000000 := by rw [hss.length_eq]; simpa using hl
 have hI := hsI ss hsl; rw [hfix ss hss] at hI; generalize N7 (cfK (a0i N)) (N.map (·.1)) = K at *; simp -implicitDefEqProofs [A5, C6, B9]; refine b8u hI ?_; simp -implicitDefEqProofs [A5]; exact ⟨.own true 9 (K.map .str), [1000000], by simp, by simp [isH], by simp [a1u, Tryz.coll_ren], rfl, by simp⟩
def I8 (R : List Chg) : List Str := N7 (cfK (G6 R)) (C0 R)
theorem b4D {R : List Chg} {id : Str} (h : b5f (N1 R id) id) : length (G6 R id) < 900000 := by
 unfold G6; split
 · exact h.own
 · have := b7d (b3q (N1 R id) id); unfold b0W; omega
theorem c5l {R : List Chg} {N : SM} (h : Perm N (a2n R)) : N7 (cfK (a0i N)) (N.map (·.1)) = I8 R := by
 have hp : (N.map (·.1)).Perm (C0 R) := by rw [← a5x]; exact h.map _
 refine b3A (hp.nodup_iff.2 (a2e R)) hp (fun a ha => ?_); unfold a0i; rw [a3l h, if_pos (hp.mem_iff.1 ha)]; rfl
theorem b1R (R : List Chg) (d : D) (hG : a0z R) (g : Nat) (N : SM) (bs : List Nat) (clk : Nat) (hN : Perm N (a2n R)) :
   Ctr prog 66 [.d d, .d (smD g N bs clk)] (.own true 9 ((I8 R).map .str)) := by
 have hmx : (1000000 : Nat) ≤ maxLen := (by decide); have hmem : ∀ p ∈ N, p.1 ∈ C0 R ∧ p.2 = G6 R p.1 := fun p hp => by
   have := hN.mem_iff.1 hp; obtain ⟨x, hx, rfl⟩ := mem_map.1 this; exact ⟨hx, rfl⟩
 have hll := a0L R; have hlt := hG.lt; have hNl : N.length < 1000000 := by rw [hN.length_eq]; simp [a2n]; omega
 have hv : ∀ p ∈ N, length p.2 < 900000 := fun p hp => by
   rw [(hmem p hp).2]; exact b4D (hG.name _ (hmem p hp).1)
 have hk : ∀ p ∈ N, length p.1 ≤ maxLen := fun p hp => by
   have := (hG.name _ (hmem p hp).1).short; omega
 have hnd : (N.map (·.1)).Nodup := by
   have hp : (N.map (·.1)).Perm (C0 R) := by rw [← a5x]; exact hN.map _
   exact hp.nodup_iff.2 (a2e R)
 have c1 := c9Q (P := prog) (ρk := Tryz.keysA_ren) Tryz.keysA (enters_of func117 (by kernel_rfl) rfl) g (N.map fun p => .str p.1) (N.map fun p => .str p.2) bs clk; have c2 : ∀ q, _ := fun q => b9M g q 80 N bs clk hNl hk hv hnd
 have he := c5l hN; rw [he] at c2; have e : D.map (.map (some g)) (N.map fun p => .str p.1) (N.map fun p => .str p.2) bs clk = smD g N bs clk := rfl; rw [e] at c1; obtain ⟨sd, hsd⟩ : ∃ sd, smD g N bs clk = sd := ⟨_, rfl⟩; rw [hsd] at c1 c2 ⊢; refine fv (fun i => i == 5000006 || i == 5000008 || i == 4) func66 (by kernel_rfl) rfl rfl rfl rfl rfl ?_; simp -implicitDefEqProofs; refine ⟨⟨by rw [← hsd]; rfl, by rw [← hsd]; rfl⟩, ?_⟩; refine K4 [] 1000000 c1 rfl rfl (by simp) ?_; rintro r hs' ⟨q, rfl, rfl⟩; simp -implicitDefEqProofs [C6, B9]; refine K4 [1000000] 1000000 (c2 q) (by simp; rfl) rfl (by simp) ?_; rintro r hs' ⟨rfl, rfl⟩; generalize I8 R = K at *; simp -implicitDefEqProofs [C6, B9]
def a1X (e : Str × List Att) : D := W5 e.1 e.2
def a2i (R : List Chg) (id : Str) : Str × List Att := (G6 R id, a2d R id)
def a0k (R : List Chg) : List (Str × List Att) := (I8 R).map (a2i R)
theorem b5x {R : List Chg} {id : Str} : id ∈ I8 R ↔ id ∈ C0 R := (a0m (b0u (G6 R)) (C0 R)).1.mem_iff
theorem a4M {R : List Chg} : (I8 R).length = (C0 R).length := (a0m (b0u (G6 R)) (C0 R)).1.length_eq
def EsI (R : List Chg) (sd : D) (g : Nat) (N : SM) (bs : List Nat) (clk : Nat) (k : Nat) (τ : St) : Prop := τ 0 = .d sd ∧ τ 3 = .d (smD g N bs clk) ∧ τ 4 = .own true 48 (((I8 R).take k).map fun id => a1X (a2i R id)) ∧ τ 14 = .own false 9 ((I8 R).map .str) ∧ τ 15 = .d (.int .i64 (I8 R).length) ∧ τ 16 = .d (.int .i64 k)
theorem a7t (R : List Chg) (d : D) (hd : StD R d) (hG : a0z R) : Ctr prog 30 [.d d] (.own true 48 ((a0k R).map a1X)) := by
 have hdi := a2m R d hd hG; have hor : ∀ g N bs clk, Perm N (a2n R) → _ := fun g N bs clk hN => b1R R d hG g N bs clk hN
 have hen : ∀ id s, id ∈ C0 R → _ := fun id s h => b6B R d id s hd hG h
 have hll := a0L R; have hlt := hG.lt; have hol := a4M (R := R); obtain ⟨u1, R1, bs1, c1, u2, M, bs2, c2, rfl, hR1, hM⟩ := hd.open; have hre := a2u u1 R1 bs1 c1 u2 M bs2 c2; obtain ⟨sd, hsd⟩ : ∃ sd, T9 u1 R1 bs1 c1 u2 M bs2 c2 = .ref sd := ⟨_, rfl⟩; rw [hsd] at hdi hor hre hen ⊢; refine fv (fun i => i == 5000011 || i == 2 || i == 4) func30 (by kernel_rfl) rfl rfl rfl rfl rfl ?_; simp -implicitDefEqProofs; refine A3 hre ?_; simp -implicitDefEqProofs; refine b2Z hdi ?_; rintro r hs' ⟨rfl, g, N, bs, clk, hN, rfl⟩; refine ⟨rfl, ?_⟩; have hor := hor g N bs clk hN; simp only [smD] at hor; simp -implicitDefEqProofs [smD]; refine A3 hor ?_; simp -implicitDefEqProofs [smD]; refine H4 (I8 R).length (EsI R (.ref sd) g N bs clk) ⟨by simp, by simp [smD], by simp, by simp, by simp, by simp⟩ ?_; rintro k τ hk ⟨g0, g3, g4, g14, g15, g16⟩; rcases Nat.lt_or_ge k (I8 R).length with hlt | hlt
 · have hlt' : (k : Int) < (I8 R).length := (by omega); have hin : (I8 R)[k] ∈ C0 R := b5x.1 (gmm _); have hge := a2w N (I8 R)[k]; rw [a3l hN, if_pos hin] at hge; have he := hen (I8 R)[k] (G6 R (I8 R)[k]) hin; have htk : ((I8 R).take (k + 1)).map (fun id => a1X (a2i R id)) = ((I8 R).take k).map (fun id => a1X (a2i R id)) ++ [a1X (a2i R (I8 R)[k])] := by rw [G9 hlt, map_append]; rfl
   have htl : (((I8 R).take k).map (fun id => a1X (a2i R id))).length ≤ 100000 := by simp; omega
   generalize ((I8 R).take k).map (fun id => a1X (a2i R id)) = T at *; simp -implicitDefEqProofs [g0, g3, g4, g14, g15, g16, hlt, hlt', smD]; refine a0f Y0 (F8 _) (S0 N) Tryz.zd_9 hge ?_; simp -implicitDefEqProofs [g0, g3, g4, g14, g15, g16, hlt, hlt', smD]; refine A3 he ?_; simp -implicitDefEqProofs [g0, g3, g4, g14, g15, g16, hlt, hlt', smD]; exact ⟨rfl, by omega, by omega, by omega, F0 hlt ⟨by simp [g0], by simp [g3, smD], by rw [htk]; simp [a1X, a2i], by simp [g14], by simp [g15], by simp⟩⟩
 · have hlt' : ¬ (k : Int) < (I8 R).length := (by omega); have hlt'' : ¬ k < (I8 R).length := (by omega); simp -implicitDefEqProofs [g0, g3, g4, g14, g15, g16, hlt', hlt'', a0k]; rw [ttl (by simpa using hlt)]; simp [Function.comp_def]
theorem b9B (s : Str) : length (X0 s).1 ≤ 5000 := by
 cases h : M7 s with
 | none => simp [X0, h]
 | some l =>
   cases l with
   | nil => simp [X0, h]
   | cons p l =>
     obtain ⟨t, h1, h2⟩ := b7v h; rw [h1]; exact c1t (a7A.2 ⟨_, h2⟩)
def a1V (R : List Chg) (id : Str) : Str := (X0 (G6 R id)).1
def a9Q (R : List Chg) (X : List Str) (id : Str) : Bool := decide (1 < a3V (a1V R id)) && !decide (a1V R id ∈ X)
def c3Z (X : List Str) (s : Str) : List Str := if s ∈ X then X else X ++ [s]
def a1L (R : List Chg) (p : List Str × List Str) (id : Str) : List Str × List Str := if a9Q R p.1 id then (p.1, p.2 ++ [id]) else (c3Z p.1 (G6 R id), p.2)
def V6 (R : List Chg) (l : List Str) : List Str × List Str := l.foldl (a1L R) ([], [])
def a0x (R : List Chg) : List Str := I5 (V6 R (I8 R)).2
theorem b2q (R : List Chg) (l : List Str) (id : Str) : V6 R (l ++ [id]) = a1L R (V6 R l) id := by simp [V6]
theorem a8l (R : List Chg) (l : List Str) : (V6 R l).2.length ≤ l.length := by
 refine V0 (P := fun l => (V6 R l).2.length ≤ l.length) (by simp [V6]) (fun l id ih => ?_) l; rw [b2q]; unfold a1L; split
 · simp; omega
 · simp; omega
def a1s (X : List Str) : List (D × D) := X.map fun s => (D.str s, D.bool true)
theorem b9h (X : List Str) (k : Str) : M8 (a1s X) (.str k) = if k ∈ X then some (.bool true) else none := by
 induction X with
 | nil => rfl
 | cons x X ih =>
   simp only [M8, a1s, map_cons, find?_cons, L5] at ih ⊢; by_cases h : x = k
   · simp [h]
   · simp only [decide_eq_false h]; rw [ih]; have : ¬ k = x := fun e => h e.symm
     simp [this]
theorem b8I (X : List Str) (k : Str) : S5 (a1s X) (.str k) (.bool true) = a1s (c3Z X k) := by
 unfold S5 c3Z; by_cases h : k ∈ X
 · rw [if_pos h, if_pos (by simp [a1s, L5, h])]; unfold a1s; rw [map_map]; refine map_congr_left fun x _ => ?_
   simp only [Function.comp_apply, L5]; exact ite_self _
 · rw [if_neg h, if_neg (by
     simp only [a1s, any_map, any_eq_true, Function.comp_apply, L5, decide_eq_true_eq, not_exists, not_and]; rintro x hx rfl; exact h hx)]
   simp [a1s]
theorem b4K : Program.underlying prog 95 = some (.map 9 4) := by kernel_rfl
def OrI (R : List Chg) (sd : D) (g : Nat) (N : SM) (bs : List Nat) (clk : Nat) (g2 : Nat) (k : Nat) (τ : St) : Prop := τ 3 = .d (smD g N bs clk) ∧ τ 4 = .d (.raw (.map (some g2))) ∧ τ 5 = .own true 9 ((V6 R ((I8 R).take k)).2.map .str) ∧ τ 18 = .own false 9 ((I8 R).map .str) ∧ τ 19 = .d (.int .i64 (I8 R).length) ∧ τ 20 = .d (.int .i64 k) ∧
 τ 1000000 = .hm (.map (some g2)) 9 (a1s (V6 R ((I8 R).take k)).1) none
theorem a7l (R : List Chg) (d : D) (hd : StD R d) (hG : a0z R) : Ctr prog 29 [.d d] (.own true 9 ((a0x R).map .str)) := by
 have hdi := a2m R d hd hG; have hor : ∀ g N bs clk, Perm N (a2n R) → _ := fun g N bs clk hN => b1R R d hG g N bs clk hN
 have hll := a0L R; have hlt := hG.lt; have hol := a4M (R := R); obtain ⟨u1, R1, bs1, c1, u2, M, bs2, c2, rfl, hR1, hM⟩ := hd.open; have hre := a2u u1 R1 bs1 c1 u2 M bs2 c2; obtain ⟨sd, hsd⟩ : ∃ sd, T9 u1 R1 bs1 c1 u2 M bs2 c2 = .ref sd := ⟨_, rfl⟩; rw [hsd] at hdi hor hre ⊢; refine fv (fun i => i == 5000014 || i == 2 || i == 5 || i == 49 || i == 3000050) func29 (by kernel_rfl) rfl rfl rfl rfl rfl ?_; simp -implicitDefEqProofs; refine A3 hre ?_; simp -implicitDefEqProofs; refine b2Z hdi ?_; rintro r hs' ⟨rfl, g, N, bs, clk, hN, rfl⟩; refine ⟨rfl, ?_⟩; have hor := hor g N bs clk hN; simp only [smD] at hor; simp -implicitDefEqProofs [smD]; refine a9R 9 1000000 (by simp) (fun g2 => ?_); simp -implicitDefEqProofs [smD]; refine A3 hor ?_; simp -implicitDefEqProofs [smD]; refine H4 (I8 R).length (OrI R (.ref sd) g N bs clk g2) ⟨by simp [smD], by simp, by simp [V6], by simp, by simp, by simp, by simp [V6, a1s]⟩ ?_; rintro k τ hk ⟨g3, g4, g5, g18, g19, g20, gB⟩; rcases Nat.lt_or_ge k (I8 R).length with hlt | hlt
 · have hlt' : (k : Int) < (I8 R).length := (by omega); obtain ⟨id, hid⟩ : ∃ id, (I8 R)[k] = id := ⟨_, rfl⟩; have hin : id ∈ C0 R := by rw [← hid]; exact b5x.1 (gmm _)
   have hge := a2w N id; rw [a3l hN, if_pos hin] at hge; have hsn := b2q R ((I8 R).take k) id; rw [← hid, ← G9 hlt, hid] at hsn; have hol := a8l R ((I8 R).take k); rw [length_take] at hol; have c1 := b8k (G6 R id) (b4D (hG.name id hin)); obtain ⟨b, hb⟩ : ∃ b, (X0 (G6 R id)).2 = b := ⟨_, rfl⟩; have hpl := b9B (G6 R id); have c2 := c0O (a1V R id) (by unfold a1V; omega); have hpp : (X0 (G6 R id)).1 = a1V R id := rfl; rw [hpp, hb] at c1; have hmg := b9h (V6 R ((I8 R).take k)).1 (a1V R id); have hms := b8I (V6 R ((I8 R).take k)).1 (G6 R id); have hq : a9Q R (V6 R ((I8 R).take k)).1 id = (decide (1 < a3V (a1V R id)) && !decide (a1V R id ∈ (V6 R ((I8 R).take k)).1)) := rfl; unfold a1L at hsn; generalize V6 R ((I8 R).take k) = T at *; rcases Classical.em (1 < a3V (a1V R id)) with h1 | h1
   · have h1' : (1 : Int) < a3V (a1V R id) := (by omega); rcases Classical.em (a1V R id ∈ T.1) with h2 | h2
     · rw [if_pos h2] at hmg; simp only [h1, h2, decide_true, Bool.not_true, Bool.and_false] at hq; simp only [hq, Bool.false_eq_true, if_false] at hsn; simp -implicitDefEqProofs [g3, g4, g5, g18, g19, g20, hlt, hlt', smD, hid]; refine a0f Y0 (F8 _) (S0 N) Tryz.zd_9 hge ?_; simp -implicitDefEqProofs [g3, g4, g5, g18, g19, g20, hlt, hlt', smD, hid]; refine A3 c1 ?_; simp -implicitDefEqProofs [g3, g4, g5, g18, g19, g20, hlt, hlt', smD, hid]; refine A3 c2 ?_; simp -implicitDefEqProofs [g3, g4, g5, g18, g19, g20, hlt, hlt', smD, h1, h1']; refine a1t (m := a1s T.1) (E := none) 1000000 (by omega) b4K (by simp [gB]) (F8 _) Tryz.zd_4 hmg ?_; simp -implicitDefEqProofs [g3, g4, g5, g18, g19, g20, hlt, hlt', smD, h1, h1']; refine a0f Y0 (F8 _) (S0 N) Tryz.zd_9 hge ?_; simp -implicitDefEqProofs [g3, g4, g5, g18, g19, g20, hlt, hlt', smD, h1, h1']; refine a6a (m := a1s T.1) (E := none) 1000000 b4K (by simp [gB]) (F8 _) _ (Perm.refl _) ?_; rw [hms]; simp -implicitDefEqProofs [g3, g4, g5, g18, g19, g20, hlt, hlt', smD, h1, h1']; exact ⟨by omega, F0 hlt ⟨by simp [g3, smD], by simp [g4], by simp [g5, hsn], by simp [g18], by simp [g19], by simp, by simp [hsn]⟩⟩
     · rw [if_neg h2] at hmg; simp only [h1, h2, decide_true, decide_false, Bool.not_false, Bool.and_true] at hq; simp only [hq, if_true] at hsn; simp -implicitDefEqProofs [g3, g4, g5, g18, g19, g20, hlt, hlt', smD, hid]; refine a0f Y0 (F8 _) (S0 N) Tryz.zd_9 hge ?_; simp -implicitDefEqProofs [g3, g4, g5, g18, g19, g20, hlt, hlt', smD, hid]; refine A3 c1 ?_; simp -implicitDefEqProofs [g3, g4, g5, g18, g19, g20, hlt, hlt', smD, hid]; refine A3 c2 ?_; simp -implicitDefEqProofs [g3, g4, g5, g18, g19, g20, hlt, hlt', smD, h1, h1']; refine a1t (m := a1s T.1) (E := none) 1000000 (by omega) b4K (by simp [gB]) (F8 _) Tryz.zd_4 hmg ?_; simp -implicitDefEqProofs [g3, g4, g5, g18, g19, g20, hlt, hlt', smD, h1, h1']; exact ⟨by omega, by omega, by omega, F0 hlt ⟨by simp [g3, smD], by simp [g4], by simp [hsn], by simp [g18], by simp [g19], by simp, by simp [gB, hsn]⟩⟩
   · have h1' : ¬ (1 : Int) < a3V (a1V R id) := (by omega); simp only [h1, decide_false, Bool.false_and] at hq; simp only [hq, Bool.false_eq_true, if_false] at hsn; simp -implicitDefEqProofs [g3, g4, g5, g18, g19, g20, hlt, hlt', smD, hid]; refine a0f Y0 (F8 _) (S0 N) Tryz.zd_9 hge ?_; simp -implicitDefEqProofs [g3, g4, g5, g18, g19, g20, hlt, hlt', smD, hid]; refine A3 c1 ?_; simp -implicitDefEqProofs [g3, g4, g5, g18, g19, g20, hlt, hlt', smD, hid]; refine A3 c2 ?_; simp -implicitDefEqProofs [g3, g4, g5, g18, g19, g20, hlt, hlt', smD, h1, h1']; refine a0f Y0 (F8 _) (S0 N) Tryz.zd_9 hge ?_; simp -implicitDefEqProofs [g3, g4, g5, g18, g19, g20, hlt, hlt', smD, h1, h1']; refine a6a (m := a1s T.1) (E := none) 1000000 b4K (by simp [gB]) (F8 _) _ (Perm.refl _) ?_; rw [hms]; simp -implicitDefEqProofs [g3, g4, g5, g18, g19, g20, hlt, hlt', smD, h1, h1']; exact ⟨by omega, F0 hlt ⟨by simp [g3, smD], by simp [g4], by simp [g5, hsn], by simp [g18], by simp [g19], by simp, by simp [hsn]⟩⟩
 · have hlt' : ¬ (k : Int) < (I8 R).length := (by omega); have hlt'' : ¬ k < (I8 R).length := (by omega); rw [ttl (by simpa using hlt)] at g5 gB; have c1 := b2T (V6 R (I8 R)).2 (by have := a8l R (I8 R); omega); have e : I5 (V6 R (I8 R)).2 = a0x R := rfl; rw [e] at c1; simp -implicitDefEqProofs [g3, g4, g5, g18, g19, g20, hlt', hlt'']; refine b8u c1 ?_; simp -implicitDefEqProofs [g3, g4, g5, g18, g19, g20, hlt', hlt'']
theorem a2S (l m : List Str) (hl : l.length < 1000000) (hm : m.length < 1000000) : Ctr prog 38 [.d (C7 l), .d (C7 m)] (.d (.bool (decide (l = m)))) := by
 refine fv (fun _ => false) func38 (by kernel_rfl) rfl rfl rfl rfl rfl ?_; by_cases hlm : l.length = m.length
 · simp -implicitDefEqProofs [C7, hlm]; refine H4 m.length (fun k τ => τ 0 = .d (C7 l) ∧ τ 1 = .d (C7 m) ∧ τ 5 = .d (.int .i64 k) ∧ l.take k = m.take k) (by simp [C7, hlm]) ?_; rintro k τ hk ⟨h0, h1, h5, ht⟩; by_cases hlt : k < m.length
   · have hlt' : k < l.length := (by omega); by_cases he : l[k] = m[k]
     · simp -implicitDefEqProofs [h0, h1, h5, C7, hlm, hlt, hlt', he]; refine ⟨by omega, F0 hlt ⟨by simp [h0, C7], by simp [h1, C7], by simp, ?_⟩⟩; rw [G9 hlt, G9 hlt', ht, he]
     · simp -implicitDefEqProofs [h0, h1, h5, C7, hlm, hlt, hlt', he]; rintro rfl; exact he rfl
   · rw [ttl (by omega), ttl (by omega)] at ht; simp -implicitDefEqProofs [h0, h1, h5, C7, hlm, hlt, ht]; try omega
 · have hlm' : ¬ (l.length : Int) = m.length := (by omega); simp -implicitDefEqProofs [C7, hlm']; rintro rfl; exact hlm rfl
theorem c6T (l : List Chg) (hl : l.length < 1000000) : Ctr prog 20 [.d (F9 l)] (.own true 9 ((l.map idC).map .str)) := by
 refine fv (fun i => i == 3 || i == 2) func20 (by kernel_rfl) rfl rfl rfl rfl rfl ?_; simp -implicitDefEqProofs; refine H4 l.length (fun k τ => τ 0 = .d (F9 l) ∧ τ 3 = .own true 9 (((l.take k).map idC).map .str) ∧ τ 4 = .d (.int .i64 k)) ⟨by simp, by simp, by simp⟩ ?_; rintro k τ hk ⟨h0, h3, h4⟩; by_cases hlt : k < l.length
 · have hlt' : (k : Int) < l.length := (by omega); obtain ⟨c, hx⟩ : ∃ c, l[k] = c := ⟨_, rfl⟩; have htk : ((l.take (k + 1)).map idC).map D.str = ((l.take k).map idC).map .str ++ [.str (idC c)] := by rw [G9 hlt, hx, map_append, map_append]; rfl
   have htl : (((l.take k).map idC).map D.str).length ≤ 1000000 := by simp only [length_map, length_take]; omega
   have ec : A7 c = .agg [B8 c.1, .int .i64 (opC c), .str (idC c), .str c.2.2.2.1, .str c.2.2.2.2.1, .str c.2.2.2.2.2] := rfl; generalize ((l.take k).map idC).map D.str = T at *; simp -implicitDefEqProofs [h0, h3, h4, F9, hlt, hlt', hx, ec, A1]; refine ⟨by omega, by omega, by omega, F0 hlt ⟨by simp [h0, F9], by simp; simpa using htk.symm, by simp⟩⟩
 · rw [ttl (by omega)] at h3; simp -implicitDefEqProofs [h0, h3, h4, F9, hlt]
def smC (c : Chg) : Bool := decide (length c.2.2.1 ≤ 100) && (decide (length c.2.2.2.1 ≤ 300) && (decide (length c.2.2.2.2.1 ≤ 100) && decide (length c.2.2.2.2.2 ≤ 300)))
def a2O (l : List Chg) : Bool := l.all smC && decide (l.length ≤ 14)
theorem b5c (l : List Chg) (hl : l.length ≤ 140737488351232) : Ctr prog 9 [.d (F9 l)] (.d (.bool (a2O l))) := by
 refine fv (fun i => false) func9 (by kernel_rfl) rfl rfl rfl rfl rfl ?_; obtain ⟨R, hR⟩ : ∃ R, a2O l = R := ⟨_, rfl⟩; rw [hR]; simp -implicitDefEqProofs; refine H4 l.length (fun k τ => τ 0 = .d (F9 l) ∧ τ 3 = .d (.int .i64 k) ∧ ((l.drop k).all smC && decide (l.length ≤ 14)) = R) ⟨by simp, by simp, by simpa [a2O] using hR⟩ ?_; rintro k τ hk ⟨h0, h3, hn⟩; by_cases hlt : k < l.length
 · have hlt' : (k : Int) < l.length := (by omega); obtain ⟨x, hx⟩ : ∃ x, l[k] = x := ⟨_, rfl⟩; rw [drop_eq_getElem_cons hlt, all_cons, hx] at hn; obtain ⟨n, op, id, nm, at_, va_⟩ := x; have ec : A7 (n, op, id, nm, at_, va_) = .agg [B8 n, .int .i64 op, .str id, .str nm, .str at_, .str va_] := rfl; simp only [smC] at hn; have hF : ∀ (s : Str) (m : Nat), (m : Int) < (length s : Nat) → decide (length s ≤ m) = false := fun s m h => by simp only [decide_eq_false_iff_not]; omega
   have hT : ∀ (s : Str) (m : Nat), ¬ (m : Int) < (length s : Nat) → decide (length s ≤ m) = true := fun s m h => by simp only [decide_eq_true_eq]; omega
   rcases Classical.em (((100 : Nat) : Int) < (length id : Nat)) with q0 | q0
   · rw [hF id 100 q0] at hn; simp only [Bool.and_false, Bool.false_and, Bool.true_and] at hn; have hR0 : R = false := hn.symm; subst hR0; have q0' : (100 : Int) < (length id : Nat) := q0; simp -implicitDefEqProofs [h0, h3, F9, hlt, hlt', hx, ec, A1, q0']
   · rw [hT id 100 q0] at hn; have q0' : ¬ (100 : Int) < (length id : Nat) := q0; simp only [Bool.true_and] at hn; rcases Classical.em (((300 : Nat) : Int) < (length nm : Nat)) with q1 | q1
     · rw [hF nm 300 q1] at hn; simp only [Bool.and_false, Bool.false_and, Bool.true_and] at hn; have hR0 : R = false := hn.symm; subst hR0; have q1' : (300 : Int) < (length nm : Nat) := q1; simp -implicitDefEqProofs [h0, h3, F9, hlt, hlt', hx, ec, A1, q0', q1']
     · rw [hT nm 300 q1] at hn; have q1' : ¬ (300 : Int) < (length nm : Nat) := q1; simp only [Bool.true_and] at hn; rcases Classical.em (((100 : Nat) : Int) < (length at_ : Nat)) with q2 | q2
       · rw [hF at_ 100 q2] at hn; simp only [Bool.and_false, Bool.false_and, Bool.true_and] at hn; have hR0 : R = false := hn.symm; subst hR0; have q2' : (100 : Int) < (length at_ : Nat) := q2; simp -implicitDefEqProofs [h0, h3, F9, hlt, hlt', hx, ec, A1, q0', q1', q2']
       · rw [hT at_ 100 q2] at hn; have q2' : ¬ (100 : Int) < (length at_ : Nat) := q2; simp only [Bool.true_and] at hn; rcases Classical.em (((300 : Nat) : Int) < (length va_ : Nat)) with q3 | q3
         · rw [hF va_ 300 q3] at hn; simp only [Bool.and_false, Bool.false_and, Bool.true_and] at hn; have hR0 : R = false := hn.symm; subst hR0; have q3' : (300 : Int) < (length va_ : Nat) := q3; simp -implicitDefEqProofs [h0, h3, F9, hlt, hlt', hx, ec, A1, q0', q1', q2', q3']
         · rw [hT va_ 300 q3] at hn; have q3' : ¬ (300 : Int) < (length va_ : Nat) := q3; simp only [Bool.true_and] at hn; simp -implicitDefEqProofs [h0, h3, F9, hlt, hlt', hx, ec, A1, q0', q1', q2', q3']; exact ⟨by omega, F0 hlt ⟨by simp [h0, F9], by simp, hn⟩⟩
 · rw [drop_eq_nil_of_le (by omega), all_nil, Bool.true_and] at hn; have hlt' : ¬ (k : Int) < l.length := (by omega); simp -implicitDefEqProofs [h0, h3, F9, hlt, hlt']; rw [← hn]; rw [Bool.eq_iff_iff, decide_eq_true_eq, decide_eq_true_eq]; omega
def a3E : Str := [109, 97, 105, 108]
def atC (t op : Int) (id nm v : Str) : Chg := if op = 4 ∨ op = 5 then ((t, 0, 0), op, id, nm, a3E, v) else ((t, 0, 0), op, id, nm, [], [])
theorem a9K (t op : Int) (id nm v : Str) : Ctr prog 37 [.d (.int .i64 t), .d (.int .i64 op), .d (.str id), .d (.str nm), .d (.str v)] (.d (A7 (atC t op id nm v))) := by
 have hE : ∀ a b : Str, A7 ((t, 0, 0), op, id, nm, a, b) = .agg [.agg [.int .i64 t, .int .i64 0, .int .i64 0], .int .i64 op, .str id, .str nm, .str a, .str b] := fun _ _ => rfl
 have hA : atC t op id nm v = if op = 4 ∨ op = 5 then ((t, 0, 0), op, id, nm, a3E, v) else ((t, 0, 0), op, id, nm, [], []) := rfl
 generalize atC t op id nm v = X at *; refine L9 (rv := .cell 10 35) (rs := []) (r := .d (A7 X)) (ys := []) (fun i => false) (by kernel_rfl) func37 (by kernel_rfl) rfl rfl (by simp) (nbl rfl) (by kernel_rfl) rfl rfl ?_; rcases Classical.em (op = 4) with h4 | h4
 · rw [if_pos (.inl h4)] at hA; subst hA; rw [hE]; simp -implicitDefEqProofs [h4, a3E]
 · rcases Classical.em (op = 5) with h5 | h5
   · rw [if_pos (.inr h5)] at hA; subst hA; rw [hE]; simp -implicitDefEqProofs [h5, a3E]
   · rw [if_neg (by simp [h4, h5])] at hA; subst hA; rw [hE]; simp -implicitDefEqProofs [h4, h5]
abbrev b8q := Str × List Att
structure b1m (e : b8q) : Prop where
 normal : G2 e.2 = e.2
 fit : a5R e.2
def a0o (l : List b8q) : D := .sl (l.map a1X)
def SmI (a b : List b8q) (k : Nat) (τ : St) : Prop := τ 0 = .d (a0o a) ∧ τ 1 = .d (a0o b) ∧ τ 5 = .d (.int .i64 k) ∧ a.take k = b.take k
theorem b3O (a b : List b8q) (ha : ∀ x ∈ a, b1m x) (hb : ∀ x ∈ b, b1m x) (hal : a.length < 1000000) (hbl : b.length < 1000000) : Ctr prog 47 [.d (a0o a), .d (a0o b)] (.d (.bool (decide (a = b)))) := by
 refine fv (fun _ => false) func47 (by kernel_rfl) rfl rfl rfl rfl rfl ?_; by_cases hlm : a.length = b.length
 · simp -implicitDefEqProofs [a0o, hlm]; refine H4 b.length (SmI a b) ⟨by simp [a0o, hlm], by simp [a0o], by simp, by simp⟩ ?_; rintro k τ hk ⟨h0, h1, h5, ht⟩; by_cases hlt : k < b.length
   · have hlt' : k < a.length := (by omega); have hB1 := ha _ (gmm hlt'); have hB2 := hb _ (gmm hlt); have hN : ∀ {l : List Att}, G2 l = l → a5R l → b3a (G2 l) := fun h1 h2 => by rw [h1]; exact h2.1
     have c1 := c2c (a[k]).2 (b[k]).2 hB1.fit hB2.fit (hN hB1.normal hB1.fit) (hN hB2.normal hB2.fit); rw [hB1.normal, hB2.normal] at c1; have hne : a[k] ≠ b[k] → a ≠ b := fun h e => h (by subst e; rfl)
     have ht2 : a[k] = b[k] → a.take (k + 1) = b.take (k + 1) := fun h => by rw [G9 hlt, G9 hlt', ht, h]
     generalize hx : a[k] = x at *; generalize hy : b[k] = y at *; obtain ⟨xi, xl⟩ := x; obtain ⟨yi, yl⟩ := y; have hA : ∀ (i : Str) (l : List Att), a1X (i, l) = .agg [.str i, .sl (l.map att)] := fun _ _ => rfl
     simp only [G5] at c1; by_cases q1 : xi = yi
     · subst q1; by_cases q3 : xl = yl
       · subst q3; simp only [decide_true] at c1; simp -implicitDefEqProofs [h0, h1, h5, a0o, hlm, hlt, hlt', hx, hy, hA]; refine E4 c1 ?_; simp -implicitDefEqProofs [h0, h1, h5, a0o, hlm, hlt, hlt', hx, hy, hA]; refine ⟨by omega, F0 hlt ⟨by simp [h0, a0o], by simp [h1, a0o], by simp, ht2 rfl⟩⟩
       · have hab : a ≠ b := hne (fun e => q3 (by simpa using e)); simp only [q3, decide_false] at c1; simp -implicitDefEqProofs [h0, h1, h5, a0o, hlm, hlt, hlt', hx, hy, hA]; refine E4 c1 ?_; simp -implicitDefEqProofs [h0, h1, h5, a0o, hlm, hlt, hlt', hx, hy, hA, hab]
     · have hab : a ≠ b := hne (fun e => q1 (by simp at e; exact e.1)); simp -implicitDefEqProofs [h0, h1, h5, a0o, hlm, hlt, hlt', hx, hy, hA, q1]; exact hab
   · rw [ttl (by omega), ttl (by omega)] at ht; simp -implicitDefEqProofs [h0, h1, h5, a0o, hlm, hlt, ht]; try omega
 · have hlm' : ¬ (a.length : Int) = b.length := (by omega); simp -implicitDefEqProofs [a0o, hlm']; rintro rfl; exact hlm rfl
theorem Y7 {P : Program} {f : FuncId} {args : List AV} {e : TypeId} {l : List D} (h : Ctr P f args (.own true e l)) : Ctr P f args (.d (.sl l)) := by
 refine ⟨h.1, fun w L og vals hlok hgl hog hv => (h.2 w L og vals hlok hgl hog hv).mono ?_⟩; rintro x w' ⟨v, L', og', rfl, hgr, hlok', hold', hog', hrc⟩; obtain ⟨L2, hrc2, hlok2, hold2, hext2⟩ := hrc.demote false hlok' (fun g hg => (hog' g hg).1); refine ⟨v, L2, none, rfl, hgr, hlok2, fun c q hc hne => ?_, (fun g hg => by cases hg), D9.at_ (P := P) hrc2⟩; refine (hold2 c q (fun e => ?_)).trans (hold' c q hc hne); rcases (hog' c e.symm).2 with h1 | h1
 · omega
 · exact hne h1
structure b4M (R1 R2 : List Chg) : Prop where
 live : C0 R1 = C0 R2
 conf : a0B R1 = a0B R2
 orph : a0x R1 = a0x R2
 ents : a0k R1 = a0k R2
 entry : ∀ id, S1 R1 id = S1 R2 id
theorem c4g : b1m ([], []) := ⟨by decide, ⟨⟨by simp, by simp⟩, by simp [I0]⟩⟩
theorem b5h {R : List Chg} (hG : a0z R) (id : Str) : b1m (a2i R id) := by
 refine ⟨b6P _, b6R (b6x (hG.vals id).1 (hG.vals id).2)⟩
theorem c3m {R : List Chg} (hG : a0z R) (id : Str) : b1m (S1 R id).1 := by
 unfold S1; split
 · exact b5h hG id
 · exact c4g
theorem b0B (R1 R2 : List Chg) (d1 d2 : D) (h1 : StD R1 d1) (h2 : StD R2 d2) (hG1 : a0z R1) (hG2 : a0z R2) (hS : b4M R1 R2) (l : List Str) (hl : l.length < 1000000) :
   Ctr prog 22 [.d d1, .d d2, .d (C7 l)] (.d (.bool true)) := by
 have hl1 := hG1.lt; have hl2 := hG2.lt; have hll := a0L R1; have a1 := Y7 (a3A R1 d1 h1 hG1.lt); have a2 := Y7 (a3A R2 d2 h2 hG2.lt); have b1 := Y7 (a2X R1 d1 h1 hG1); have b2 := Y7 (a2X R2 d2 h2 hG2); have o1 := Y7 (a7l R1 d1 h1 hG1); have o2 := Y7 (a7l R2 d2 h2 hG2); have e1 := Y7 (a7t R1 d1 h1 hG1); have e2 := Y7 (a7t R2 d2 h2 hG2); have n1 : ∀ id, _ := fun id => b0V R1 d1 id h1 hG1
 have n2 : ∀ id, _ := fun id => b0V R2 d2 id h2 hG2
 have hcl : (a0B R1).length < 1000000 := by
   have : (a0B R1).length ≤ (C0 R1).length := length_filter_le _ _; omega
 have hol : (a0x R1).length < 1000000 := by
   have h3 := a8l R1 (I8 R1); have h4 := a4M (R := R1); unfold a0x I5; rw [length_mergeSort]; omega
 have hel : (a0k R1).length < 1000000 := by
   have h4 := a4M (R := R1); unfold a0k; rw [length_map]; omega
 have hnS : ∀ id, b1m (S1 R1 id).1 := c3m hG1; have heB : ∀ x ∈ a0k R1, b1m x := fun x hx => by
   obtain ⟨id, _, rfl⟩ := mem_map.1 hx; exact b5h hG1 id
 rw [← hS.live] at a2; rw [← hS.conf] at b2; rw [← hS.orph] at o2; rw [← hS.ents] at e2; simp only [← hS.entry] at n2; have c1 := a2S (C0 R1) (C0 R1) (by omega) (by omega); have c2 := a2S (a0B R1) (a0B R1) hcl hcl; have c3 := a2S (a0x R1) (a0x R1) hol hol; have c4 := b3O (a0k R1) (a0k R1) heB heB hel hel; have c5 : ∀ id, _ := fun id => b3O [(S1 R1 id).1] [(S1 R1 id).1] (by simpa using hnS id) (by simpa using hnS id) (by simp) (by simp)
 simp only [decide_true, C7, a0o] at c1 c2 c3 c4 c5; obtain ⟨x1, hx1, hy1⟩ : ∃ x, d1 = x ∧ StD R1 x := ⟨_, rfl, h1⟩; obtain ⟨x2, hx2, hy2⟩ : ∃ x, d2 = x ∧ StD R2 x := ⟨_, rfl, h2⟩; obtain ⟨y1, rfl⟩ : ∃ y, d1 = .ref y := by
   obtain ⟨u1, R1', bs1, c1, u2, M, bs2, c2, rfl, _⟩ := h1.open; exact ⟨_, rfl⟩
 obtain ⟨y2, rfl⟩ : ∃ y, d2 = .ref y := by
   obtain ⟨u1, R1', bs1, c1, u2, M, bs2, c2, rfl, _⟩ := h2.open; exact ⟨_, rfl⟩
 clear h1 h2 hx1 hy1 hx2 hy2 hnS heB; generalize C0 R1 = V1 at *; generalize a0B R1 = V2 at *; generalize a0x R1 = V3 at *; generalize a0k R1 = V4 at *; refine fv (fun i => false) func22 (by kernel_rfl) rfl rfl rfl rfl rfl ?_; simp -implicitDefEqProofs; refine A3 a1 ?_; simp -implicitDefEqProofs; refine A3 a2 ?_; simp -implicitDefEqProofs; refine A3 c1 ?_; simp -implicitDefEqProofs; refine A3 b1 ?_; simp -implicitDefEqProofs; refine A3 b2 ?_; simp -implicitDefEqProofs; refine A3 c2 ?_; simp -implicitDefEqProofs; refine A3 o1 ?_; simp -implicitDefEqProofs; refine A3 o2 ?_; simp -implicitDefEqProofs; refine A3 c3 ?_; simp -implicitDefEqProofs; refine A3 e1 ?_; simp -implicitDefEqProofs; refine A3 e2 ?_; simp -implicitDefEqProofs; refine A3 c4 ?_; simp -implicitDefEqProofs; refine H4 l.length (fun k τ => τ 0 = .d (.ref y1) ∧ τ 1 = .d (.ref y2) ∧ τ 2 = .d (C7 l) ∧ τ 7 = .d (.int .i64 k)) ⟨by simp, by simp, by simp, by simp⟩ ?_; rintro k τ hk ⟨h0, h1, h2, h7⟩; rcases Nat.lt_or_ge k l.length with hlt | hlt
 · have hlt' : (k : Int) < l.length := (by omega); obtain ⟨id, hx⟩ : ∃ x, l[k] = x := ⟨_, rfl⟩; have n1 := n1 id; have n2 := n2 id; have c5 := c5 id; generalize S1 R1 id = p at *; obtain ⟨⟨s, a⟩, ok⟩ := p; have hE : a1X (s, a) = .agg [.str s, .sl (a.map att)] := rfl; have hE2 : W5 s a = .agg [.str s, .sl (a.map att)] := rfl; simp only [map_cons, map_nil, hE, hE2] at n1 n2 c5; simp -implicitDefEqProofs [h0, h1, h2, h7, C7, hlt, hlt', hx]; refine A3 n1 ?_; simp -implicitDefEqProofs [h0, h1, h2, h7, C7, hlt, hlt', hx]; refine A3 n2 ?_; simp -implicitDefEqProofs [h0, h1, h2, h7, C7, hlt, hlt', hx]; refine A3 c5 ?_; simp -implicitDefEqProofs [h0, h1, h2, h7, C7, hlt, hlt', hx]; exact ⟨by omega, F0 hlt ⟨by simp [h0], by simp [h1], by simp [h2, C7], by simp⟩⟩
 · have hlt' : ¬ (k : Int) < l.length := (by omega); have hlt'' : ¬ k < l.length := (by omega); simp -implicitDefEqProofs [h0, h1, h2, h7, C7, hlt', hlt'']
theorem a6q (s r m : Nat) (R : List Chg) (E : List Q3) : (stH s r m R E).all isH = true := by
 rw [all_eq_true]; intro x hx; simp only [stH, R8, mem_append, mem_flatMap, mem_cons, not_mem_nil, or_false] at hx; rcases hx with (rfl | rfl | rfl) | ⟨e, _, hx⟩
 · rfl
 · rfl
 · rfl
 · simp only [a1r, mem_cons, not_mem_nil, or_false] at hx; rcases hx with rfl | rfl <;> rfl
theorem a9O (s r m : Nat) (R : List Chg) (E : List Q3) : (stH s r m R E).length = 3 + 2 * E.length := by
 have : ∀ E : List Q3, (E.flatMap a1r).length = 2 * E.length := fun E => by
   induction E with
   | nil => rfl
   | cons e E ih => rw [flatMap_cons, length_append, ih]; simp [a1r]; omega
 simp [stH, R8, this]; omega
theorem b6g (R : List Chg) : (N9 R).length ≤ R.length := by
 refine V0 (P := fun R => (N9 R).length ≤ R.length) (Nat.le_refl _) (fun R c ih => ?_) R; rw [a5w]; unfold a4P; split
 · simp; omega
 · simp; omega
structure a7m (R : List Chg) : Prop where
 fit : ∀ c ∈ R, S6 c
 ok : ∀ c ∈ R, I1 c = 0
 nd : R.Nodup
 few : R.length ≤ 4096
theorem b0M : a7m [] := ⟨by simp, by simp, nodup_nil, by simp⟩
theorem a6A {R : List Chg} (h : a7m R) {c : Chg} (hc : S6 c) : a7m (N6 R c) := by
 unfold N6; split
 · rename_i hh
   refine ⟨fun x hx => ?_, fun x hx => ?_, ?_, ?_⟩
   · rcases mem_append.1 hx with hx | hx
     · exact h.fit x hx
     · rw [mem_singleton.1 hx]; exact hc
   · rcases mem_append.1 hx with hx | hx
     · exact h.ok x hx
     · rw [mem_singleton.1 hx]; exact hh.1
   · refine nodup_append.2 ⟨h.nd, by simp, fun a ha b hb => ?_⟩; rw [mem_singleton.1 hb]; rintro rfl; exact hh.2.1 ha
   · simp; omega
 · exact h
theorem b0Q {R : List Chg} (h : a7m R) {s r m : Nat} {E : List Q3} (hE : U5 E = N9 R) : (stH s r m R E).length ≤ 500000 := by
 rw [a9O]; have h1 : E.length = (N9 R).length := by rw [← hE]; simp [U5]
 have := b6g R; have := h.few; omega
def StF (σ : St) (B s : Nat) (R : List Chg) : Prop := a7m R ∧ ∃ r m E, U5 E = N9 R ∧ Fam σ B (stH s r m R E)
theorem StF.put {σ : St} {B s d : Nat} {R : List Chg} {x : AV} (h : StF σ B s R) (hd : d < B) : StF (Vw.put σ d x) B s R := by
 obtain ⟨hR, r, m, E, hE, hF⟩ := h; exact ⟨hR, r, m, E, hE, hF.put hd⟩
theorem StF.setv {σ : St} {B s d : Nat} {R : List Chg} {x : AV} (h : StF σ B s R) (hd : d < B) : StF (Vw.B0 σ d x) B s R := by
 obtain ⟨hR, r, m, E, hE, hF⟩ := h; exact ⟨hR, r, m, E, hE, hF.setv hd⟩
theorem StF.clean {σ : St} {B s : Nat} {R : List Chg} (h : StF σ B s R) (ds : List Nat) : StF (Vw.I3 ds σ) B s R := by
 obtain ⟨hR, r, m, E, hE, hF⟩ := h; exact ⟨hR, r, m, E, hE, hF.clean ds⟩
theorem b6c {σ : St} {d : Nat} {K : St → Prop} (B s : Nat) (hB : 1000000 ≤ B) (hd : d < 1000000) {R : List Chg} {c : Chg} (hF : StF σ B s R) (hc : S6 c)
   (hk : ∀ τ ks, StF τ B s (N6 R c) → τ d = .d (.int .i64 (X8 R c)) → (∀ j, j < 1000000 → ks.contains j = false) → (∀ i, i < 1000000 → i ≠ d → τ i = F3 ks (E0 d (σ i))) →
     (∀ B2 hs2, Fam σ B2 hs2 → 1000000 ≤ B2 → (B2 + 1000000 ≤ B ∨ B + 1000000 ≤ B2) → Fam τ B2 hs2) → K τ) : a2T prog 13 [.d (.raw (va s)), .d (A7 c)] σ d K := by
 obtain ⟨hR, r, m, E, hE, hFam⟩ := hF; refine c8e B hB hd hFam (c3T s r m R E hE hR.fit c hc) (fun x hs' hp => ?_) (fun x hs' τ ks ls hp hF' h1 h2 h3 h4 => ?_)
 · obtain ⟨_, E', hE', rfl⟩ := hp; exact ⟨a6q _ _ _ _ _, b0Q (a6A hR hc) hE'⟩
 · obtain ⟨rfl, E', hE', rfl⟩ := hp; refine hk τ ks ⟨a6A hR hc, r, m, E', hE', hF'⟩ ?_ h1 (fun i hi hne => ?_) h4
   · rw [h3 d hd, if_pos rfl]; rfl
   · rw [h3 i hi, if_neg hne]
def ofE : List Chg → List Chg → Int
 | _, [] => 0
 | R, c :: l => if X8 R c ≠ 0 then X8 R c else ofE (N6 R c) l
def ofR (R l : List Chg) : List Chg := l.foldl N6 R
def OfI (l : List Chg) (s : Nat) (e : Int) (k : Nat) (τ : St) : Prop := τ 4 = .d (.raw (va s)) ∧ τ 9 = .d (F9 l) ∧ τ 10 = .d (.int .i64 l.length) ∧ τ 11 = .d (.int .i64 k) ∧ ofE (ofR [] (l.take k)) (l.drop k) = e ∧ StF τ 1000000 s (ofR [] (l.take k))
theorem d0d (l : List Chg) (hl : l.length < 100000) (hf : ∀ c ∈ l, S6 c) : F5 prog 17 [.d (F9 l)] [] (fun x hs' => (ofE [] l ≠ 0 ∧ x = .tup [.d .nilp, .d (.int .i64 (ofE [] l))] ∧ hs' = []) ∨ (ofE [] l = 0 ∧ ∃ s r m E, x = .tup [.d (.raw (va s)), .d (.int .i64 0)] ∧ U5 E = N9 (ofR [] l) ∧ hs' = stH s r m (ofR [] l) E)) := by
 refine a3B (rs := [.tmp 2, .tmp 3]) (fun i => i == 5000008 || i == 5000017) (by kernel_rfl) func17 (by kernel_rfl) rfl rfl (by simp) (nbl rfl) (by kernel_rfl) rfl ?_; simp -implicitDefEqProofs [A5]; refine K4 [] 1000000 c0a rfl rfl (by simp) ?_; rintro x hs' ⟨s, r, m, rfl, hh⟩; have hh2 : hs' = [.hb (va s) 65 (.agg [.raw (.map (some r)), .raw (.map (some m))]), .hm (.map (some r)) 35 (P6 []) none, .hm (.map (some m)) 9 (P0 []) none] := hh; clear hh; subst hh2; simp -implicitDefEqProofs [A5, C6, B9]; refine H4 l.length (OfI l s (ofE [] l)) ⟨by simp, by simp [F9], by simp, by simp, by simp [ofR], ?_⟩ ?_
 · refine ⟨b0M, r, m, [], rfl, rfl, by simp [a9O], fun i hi => ?_⟩; simp only [a9O, length_nil] at hi
   match i, hi with
   | 0, _ => simp [stH, R8]
   | 1, _ => simp [stH, R8, ofR]
   | 2, _ => simp [stH, R8]
 rintro k τ hk ⟨h4, h9, h10, h11, hE, hF⟩; by_cases hlt : k < l.length
 · have hlt' : (k : Int) < l.length := (by omega); obtain ⟨c, hx⟩ : ∃ c, l[k] = c := ⟨_, rfl⟩; have hc : S6 c := by rw [← hx]; exact hf _ (gmm _)
   have ec : A7 c = .agg [B8 c.1, .int .i64 (opC c), .str (idC c), .str c.2.2.2.1, .str c.2.2.2.2.1, .str c.2.2.2.2.2] := rfl; rw [drop_eq_getElem_cons hlt, hx, ofE] at hE; have hR2 : ofR [] (l.take (k + 1)) = N6 (ofR [] (l.take k)) c := by rw [G9 hlt, hx]; simp [ofR]
   simp -implicitDefEqProofs [h4, h9, h10, h11, hlt, hlt', F9, hx, ec, A1]; rw [← ec]; refine b6c (R := ofR [] (l.take k)) 1000000 s (Nat.le_refl _) (by omega) (by repeat first | exact hF | apply StF.put | apply StF.setv | apply StF.clean | omega) hc (fun τ2 ks hF2 hd2 hks hτ hoth => ?_); have t4 : τ2 4 = .d (.raw (va s)) := by rw [hτ 4 (by omega) (by omega)]; simp [h4, F3]
   have t9 : τ2 9 = .d (F9 l) := by rw [hτ 9 (by omega) (by omega)]; simp [h9, F3]
   have t10 : τ2 10 = .d (.int .i64 l.length) := by rw [hτ 10 (by omega) (by omega)]; simp [h10, F3]
   have t11 : τ2 11 = .d (.int .i64 k) := by rw [hτ 11 (by omega) (by omega)]; simp [h11, F3]
   by_cases he : X8 (ofR [] (l.take k)) c = 0
   · rw [if_neg (by simpa using he)] at hE; rw [← hR2] at hE hF2; rw [he] at hd2; simp -implicitDefEqProofs [t4, t9, t10, t11, hd2]; exact ⟨by omega, F0 hlt ⟨by simp [t4], by simp [t9], by simp [t10], by simp, hE, by repeat first | exact hF2 | apply StF.put | apply StF.setv | apply StF.clean | omega⟩⟩
   · rw [if_pos he] at hE; rw [hE] at hd2 he; simp -implicitDefEqProofs [t4, t9, t10, t11, hd2, he]; exact ⟨[.d .nilp, .d (.int .i64 (ofE [] l))], [], by simp, by simp, by simp [X1, a2a], rfl, rfl⟩
 · have hlt' : ¬ (k : Int) < l.length := (by omega); rw [drop_eq_nil_of_le (by omega), ofE] at hE; rw [ttl (by omega)] at hF; obtain ⟨hB, r2, m2, E2, hE2, hF2⟩ := hF; simp -implicitDefEqProofs [h4, h9, h10, h11, hlt, hlt', F9]; have hP := (((hF2.put (x := .d (.bool false)) (d := 12) (by omega)).put (x := .d (.raw (va s))) (d := 22) (by omega)).put (x := .d (.raw (va s))) (d := 2) (by omega)).put (x := .d (.int .i64 0)) (d := 3) (by omega); exact ⟨[.d (.raw (va s)), .d (.int .i64 0)], K0 1000000 (stH s r2 m2 (ofR [] l) E2).length, a0Z _ _, fun k hk => hP.isH k hk, by simp [X1, a2a], .inr ⟨hE.symm, s, rfl, r2, m2, E2, hE2, hP.map⟩⟩
def Oth (σ τ : St) (d : Nat) : Prop := ∃ ks : List Nat, (∀ j, j < 1000000 → ks.contains j = false) ∧ ∀ i, i < 1000000 → i ≠ d → τ i = F3 ks (E0 d (σ i))
theorem Oth.dd {σ τ : St} {d i : Nat} {y : D} (h : Oth σ τ d) (hi : i < 1000000) (hid : i ≠ d) (hy : σ i = .d y) : τ i = .d y := by
 obtain ⟨ks, _, h2⟩ := h; rw [h2 i hi hid, hy]; rfl
theorem Oth.bx {σ τ : St} {d i : Nat} {y : D} (h : Oth σ τ d) (hi : i < 1000000) (hid : i ≠ d) (hy : σ i = .box y) : τ i = .box y := by
 obtain ⟨ks, _, h2⟩ := h; rw [h2 i hi hid, hy]; rfl
theorem a9m {x : AV} (h : T6 x = true) (d : Nat) (ks : List Nat) : F3 ks (E0 d x) = x := by
 cases x <;> simp [T6] at h <;> rfl
theorem a0t {B n i : Nat} (hB : 1000000 ≤ B) (hi : i < 1000000) : i ∉ K0 B n := fun hm => by
 obtain ⟨j, _, hj⟩ := mem_map.1 hm; omega
theorem a4r {B B2 n i : Nat} (hn : n ≤ 500000) (hi : i < 500000) (h : B2 + 1000000 ≤ B ∨ B + 1000000 ≤ B2) : B2 + i ∉ K0 B n := fun hm => by
 obtain ⟨j, hj, e⟩ := mem_map.1 hm; have : j < n := (by simpa using hj); omega
def a4Y (σ τ : St) (B : Nat) : Prop := ∀ B2 hs2, Fam σ B2 hs2 → 1000000 ≤ B2 → (B2 + 1000000 ≤ B ∨ B + 1000000 ≤ B2) → Fam τ B2 hs2
theorem a4Y.st {σ τ : St} {B B2 s : Nat} {R : List Chg} (h : a4Y σ τ B) (hF : StF σ B2 s R) (hB : 1000000 ≤ B2) (hBB : B2 + 1000000 ≤ B ∨ B + 1000000 ≤ B2) : StF τ B2 s R := by
 obtain ⟨hR, r, m, E, hE, hF⟩ := hF; exact ⟨hR, r, m, E, hE, h B2 _ hF hB hBB⟩
theorem a2E {f : FuncId} {σ : St} {d : Nat} {K : St → Prop} (B s : Nat) (hB : 1000000 ≤ B) (hd : d < 1000000) {R : List Chg} (hF : StF σ B s R) {ds : List D} {res : AV} (hE : Enters prog f) (h : ∀ x, StD R x → Ctr prog f (.d x :: ds.map .d) res) (hm : T6 res = true)
   (hk : ∀ τ, StF τ B s R → τ d = res → Oth σ τ d → a4Y σ τ B → K τ) : a2T prog f (.d (.raw (va s)) :: ds.map .d) σ d K := by
 obtain ⟨hR, r, m, E, hEE, hFam⟩ := hF; have hlen := hFam.2.1; refine b7E (K0 B (stH s r m R E).length) (fun k hk => by obtain ⟨j, _, rfl⟩ := mem_map.1 hk; omega) hd (a0Z _ _) hFam.isH (r := res) ?_ (fun τ h1 h2 h3 => ?_)
 · rw [hFam.map]; refine F5.lendL (ds := .raw (va s) :: ds) hE (fun w L hr => ?_) hm; obtain ⟨x, hx, hln⟩ := a6O (s := s) (r := r) (m := m) hr hEE (fun x hx => hx); exact ⟨x :: ds, .cons hln (a4I ds), h x hx⟩
 · refine hk τ ⟨hR, r, m, E, hEE, hFam.1, hFam.2.1, fun i hi => ?_⟩ (by rw [h2, a9m hm]) ⟨_, fun j hj => ?_, fun i hi hid => h3 i (a0t hB hi) hid⟩ (fun B2 hs2 hF2 hB2 hBB => ⟨hF2.1, hF2.2.1, fun i hi => ?_⟩)
   · rw [h1 _ (mem_map.2 ⟨i, by simpa using hi, rfl⟩)]; exact hFam.2.2 i hi
   · have := a0t (n := (stH s r m R E).length) hB hj; simp [this]
   · have h4 := hF2.2.1; have hH2 := all_eq_true.1 hF2.1 _ (gmm hi); rw [h3 _ (a4r hlen (by omega) hBB) (by omega), hF2.2.2 i hi, a2c hH2, a0G hH2]
theorem b1b {f : FuncId} {σ : St} {d : Nat} {K : St → Prop} (B1 s1 B2 s2 : Nat) (hB1 : 1000000 ≤ B1) (hB2 : 1000000 ≤ B2) (hBB : B1 + 1000000 ≤ B2) (hd : d < 1000000) {R1 R2 : List Chg} (hF1 : StF σ B1 s1 R1) (hF2 : StF σ B2 s2 R2) {ds : List D} {res : AV} (hE : Enters prog f)
   (h : ∀ x y, StD R1 x → StD R2 y → Ctr prog f (.d x :: .d y :: ds.map .d) res) (hm : T6 res = true)
   (hk : ∀ τ, StF τ B1 s1 R1 → StF τ B2 s2 R2 → τ d = res → Oth σ τ d → (∀ B3 s3 R3, StF σ B3 s3 R3 → 1000000 ≤ B3 → (B3 + 1000000 ≤ B1 ∨ B1 + 1000000 ≤ B3) → (B3 + 1000000 ≤ B2 ∨ B2 + 1000000 ≤ B3) → StF τ B3 s3 R3) → K τ) : a2T prog f (.d (.raw (va s1)) :: .d (.raw (va s2)) :: ds.map .d) σ d K := by
 obtain ⟨hR1, r1, m1, E1, hE1, hFam1⟩ := hF1; obtain ⟨hR2, r2, m2, E2, hE2, hFam2⟩ := hF2; have hl1 := hFam1.2.1; have hl2 := hFam2.2.1; refine b7E (K0 B1 (stH s1 r1 m1 R1 E1).length ++ K0 B2 (stH s2 r2 m2 R2 E2).length) (fun k hk => ?_) hd ?_ (fun k hk => ?_) (r := res) ?_ (fun τ h1 h2 h3 => ?_)
 · rcases mem_append.1 hk with hk | hk
   · obtain ⟨j, _, rfl⟩ := mem_map.1 hk; omega
   · obtain ⟨j, _, rfl⟩ := mem_map.1 hk; omega
 · refine nodup_append.2 ⟨a0Z _ _, a0Z _ _, fun a ha b hb e => ?_⟩; obtain ⟨i, hi, rfl⟩ := mem_map.1 ha; obtain ⟨j, hj, rfl⟩ := mem_map.1 hb; have : i < (stH s1 r1 m1 R1 E1).length := (by simpa using hi); omega
 · rcases mem_append.1 hk with hk | hk
   · exact hFam1.isH k hk
   · exact hFam2.isH k hk
 · rw [map_append, hFam1.map, hFam2.map]; refine F5.lendL (ds := .raw (va s1) :: .raw (va s2) :: ds) hE (fun w L hr => ?_) hm; obtain ⟨x, hx, hln⟩ := a6O (s := s1) (r := r1) (m := m1) hr hE1 (fun x hx => mem_append.2 (.inl hx)); obtain ⟨y, hy, hln2⟩ := a6O (s := s2) (r := r2) (m := m2) hr hE2 (fun x hx => mem_append.2 (.inr hx)); exact ⟨x :: y :: ds, .cons hln (.cons hln2 (a4I ds)), h x y hx hy⟩
 · refine hk τ ⟨hR1, r1, m1, E1, hE1, hFam1.1, hFam1.2.1, fun i hi => ?_⟩ ⟨hR2, r2, m2, E2, hE2, hFam2.1, hFam2.2.1, fun i hi => ?_⟩ (by rw [h2, a9m hm]) ⟨_, fun j hj => ?_, fun i hi hid => h3 i (fun hm => ?_) hid⟩ (fun B3 s3 R3 hF3 hB3 q1 q2 => ?_)
   · rw [h1 _ (mem_append.2 (.inl (mem_map.2 ⟨i, by simpa using hi, rfl⟩)))]; exact hFam1.2.2 i hi
   · rw [h1 _ (mem_append.2 (.inr (mem_map.2 ⟨i, by simpa using hi, rfl⟩)))]; exact hFam2.2.2 i hi
   · have e1 := a0t (n := (stH s1 r1 m1 R1 E1).length) hB1 hj; have e2 := a0t (n := (stH s2 r2 m2 R2 E2).length) hB2 hj; simp [e1, e2]
   · rcases mem_append.1 hm with hm | hm
     · exact a0t hB1 hi hm
     · exact a0t hB2 hi hm
   · obtain ⟨hR3, r3, m3, E3, hE3, hF3⟩ := hF3; refine ⟨hR3, r3, m3, E3, hE3, hF3.1, hF3.2.1, fun i hi => ?_⟩; have h4 := hF3.2.1; have hH3 := all_eq_true.1 hF3.1 _ (gmm hi); rw [h3 _ (fun hm => ?_) (by omega), hF3.2.2 i hi, a2c hH3, a0G hH3]; rcases mem_append.1 hm with hm | hm
     · exact a4r hl1 (by omega) q1 hm
     · exact a4r hl2 (by omega) q2 hm
theorem b9Z {σ : St} {d : Nat} {K : St → Prop} (B : Nat) (hB : 1000000 ≤ B) (hd : d < 1000000)
   (hk : ∀ s τ, StF τ B s [] → τ d = .d (.raw (va s)) → Oth σ τ d → a4Y σ τ B → K τ) : a2T prog 11 [] σ d K := by
 refine ⟨[], B, _, by simp, by simp, c0a, fun x hs' hp => ?_⟩; obtain ⟨s, r, m, rfl, hh⟩ := hp; have hh2 : hs' = [.hb (va s) 65 (.agg [.raw (.map (some r)), .raw (.map (some m))]), .hm (.map (some r)) 35 (P6 []) none, .hm (.map (some m)) 9 (P0 []) none] := hh; have hH : ∀ x ∈ hs', isH x = true := fun x hx => by rw [hh] at hx; exact all_eq_true.1 (a6q s r m [] []) x hx
 have hlen : hs'.length = 3 := by rw [hh2]; rfl
 have hput : ∀ i, i ∉ U7 [] B 3 → C6 (put (B9 σ []) d (.d (.raw (va s)))) [] B hs' i = F3 (U7 [] B 3) (put σ d (.d (.raw (va s))) i) := fun i hi => by
   have := W2 hs' [] (put (B9 σ []) d (.d (.raw (va s)))) B i (by rw [hlen]; exact hi); rw [hlen] at this; exact this
 have hL : ∀ k ∈ U7 [] B 3, B ≤ k ∧ k < B + 3 := fun k hk => by
   rcases a2t _ _ _ _ hk with h | h
   · simp at h
   · exact h
 refine hk s _ ⟨b0M, r, m, [], rfl, a6q _ _ _ _ _, by simp [a9O], fun i hi => ?_⟩ ?_ ⟨U7 [] B 3, fun j hj => ?_, fun i hi hid => ?_⟩ (fun B2 hs2 hF2 hB2 hBB => ⟨hF2.1, hF2.2.1, fun i hi => ?_⟩)
 · have := a6l hs' (put (B9 σ []) d (.d (.raw (va s)))) B hH i (by rw [hh]; exact hi); rw [this]; simp only [hh]
 · rw [hput d (fun hm => by have := hL d hm; omega)]; simp only [put, if_true]; rfl
 · rw [Bool.eq_false_iff]; intro hc; have := hL j (by simpa using hc); omega
 · rw [hput i (fun hm => by have := hL i hm; omega)]; simp only [put, if_neg hid]
 · have h4 := hF2.2.1; have hH2 := all_eq_true.1 hF2.1 _ (gmm hi); rw [hput _ (fun hm => by have := hL _ hm; omega)]; simp only [put, if_neg (show ¬ B2 + i = d by omega)]; rw [hF2.2.2 i hi, a2c hH2, a0G hH2]
def idS (n : UInt8) : Str := [48, 48, 48, 48, 48, 48, 48, 48, 48, 48, n, 45, 48, 48, 48, 48, 48, 48, 48, 48, 45, 48]
def nxS : Str := [99, 110, 61, 120, 44, 111, 61, 97, 99, 109, 101]
def nyS : Str := [99, 110, 61, 121, 44, 111, 117, 61, 115, 44, 111, 61, 97, 99, 109, 101]
def alL : List Chg := [atC 2 1 (idS 50) nxS [], atC 1 1 (idS 49) nxS [], atC 5 4 (idS 49) [] [109], atC 4 5 (idS 49) [] [109], atC 6 1 (idS 54) nyS []]
theorem c7T : H6 (1, 0, 0) = idS 49 := by kernel_rfl
theorem c7E : H6 (2, 0, 0) = idS 50 := by kernel_rfl
theorem c7m : H6 (6, 0, 0) = idS 54 := by kernel_rfl
theorem d0E : ofE [] alL = 0 := by kernel_rfl
theorem d4i : ofR [] alL = alL := by kernel_rfl
def al2 : List Chg := alL ++ [atC 3 2 (idS 49) [] []]
theorem d3g : X8 alL (atC 3 2 (idS 49) [] []) = 0 := by kernel_rfl
theorem d0o : N6 alL (atC 3 2 (idS 49) [] []) = al2 := by kernel_rfl
theorem c8f : a3o alL = [idS 50, idS 49, idS 54] := by kernel_rfl
theorem b6y {l m : List Str} (hm : SS m) (hp : m.Perm l) : I5 l = m := by
 have h1 : (I5 l).Pairwise fun x y => ¬ y < x := a8B l
 have h2 : m.Pairwise fun x y => ¬ y < x := hm.imp fun h h' => List.lt_irrefl _ (List.lt_trans h h')
 have h3 : (I5 l).Perm m := (mergeSort_perm _ _).trans hp.symm; exact h3.eq_of_pairwise (fun a b _ _ h4 h5 => a2U h5 h4) h1 h2
theorem a4E : C0 alL = [idS 49, idS 50, idS 54] := by
 unfold C0; rw [c8f]; exact b6y (by unfold SS; decide) (Perm.swap _ _ _)
theorem c6H : P2 alL [idS 49, idS 50, idS 54] = [(nxS, idS 49), (nyS, idS 54)] := by kernel_rfl
theorem b5j (id : Str) : Z8 alL id = decide (K8 [(nxS, idS 49), (nyS, idS 54)] (N1 alL id) = some id) := by unfold Z8; rw [a4E, c6H]
theorem c5P : a0B alL = [idS 50] := by
 unfold a0B; rw [a4E]; simp only [b5j]
 kernel_rfl
theorem c5q : a2d alL (idS 49) = [(a3E, [[109]])] := by
 kernel_rfl
def nx2 : Str := [99, 110, 61, 120, 35] ++ idS 50 ++ [44, 111, 61, 97, 99, 109, 101]
theorem b8A (id : Str) : G6 alL id = if decide (K8 [(nxS, idS 49), (nyS, idS 54)] (N1 alL id) = some id) then N1 alL id else b0W (N1 alL id) id := by unfold G6; rw [b5j]
theorem b4Y : G6 alL (idS 49) = nxS := by rw [b8A]; kernel_rfl
theorem b4L : G6 alL (idS 50) = nx2 := by rw [b8A]; kernel_rfl
theorem b9J : G6 alL (idS 54) = nyS := by rw [b8A]; kernel_rfl
theorem d0M : S1 alL (idS 49) = ((nxS, [(a3E, [[109]])]), true) := by
 unfold S1; rw [if_pos (by rw [a4E]; simp), b4Y, c5q]
theorem c3E : a2d alL (idS 50) = [] := by kernel_rfl
theorem c9w : S1 alL (idS 50) = ((nx2, []), true) := by
 unfold S1; rw [if_pos (by rw [a4E]; simp), b4L, c3E]
theorem c7Y : I8 alL = [idS 49, idS 50, idS 54] := by
 unfold I8; rw [a4E]; have hn : [idS 49, idS 50, idS 54].Nodup := (by decide); refine c1l (key := G6 alL) (b0T hn) ?_ (a0m (b0u _) _).1; unfold KS; have h1 : cfK (G6 alL) (idS 49) (idS 50) = -1 := by
   unfold cfK; rw [b4Y, b4L]; kernel_rfl
 have h2 : cfK (G6 alL) (idS 49) (idS 54) = -1 := by
   unfold cfK; rw [b4Y, b9J]; kernel_rfl
 have h3 : cfK (G6 alL) (idS 50) (idS 54) = -1 := by
   unfold cfK; rw [b4L, b9J]; kernel_rfl
 simp [h1, h2, h3]
theorem c2P : (V6 alL [idS 49, idS 50, idS 54]).2 = [idS 54] := by
 simp only [V6, foldl_cons, foldl_nil, a1L, a9Q, a1V, b4Y, b4L, b9J]
 kernel_rfl
theorem c6i : (a0x alL).length = 1 := by
 unfold a0x I5; rw [length_mergeSort, c7Y, c2P]; rfl
theorem c5w : a3o al2 = [idS 50, idS 54] := by kernel_rfl
theorem a7F : C0 al2 = [idS 50, idS 54] := by
 unfold C0; rw [c5w]; exact b6y (by unfold SS; decide) (Perm.refl _)
theorem c5n : P2 al2 [idS 50, idS 54] = [(nxS, idS 50), (nyS, idS 54)] := by kernel_rfl
theorem b3F (id : Str) : Z8 al2 id = decide (K8 [(nxS, idS 50), (nyS, idS 54)] (N1 al2 id) = some id) := by unfold Z8; rw [a7F, c5n]
theorem c3M : a0B al2 = [] := by
 unfold a0B; rw [a7F]; simp only [b3F]
 kernel_rfl
theorem c8c : G6 al2 (idS 50) = nxS := by unfold G6; rw [b3F]; kernel_rfl
theorem c4N : a3H al2 nxS = (idS 50, true) := by
 unfold a3H; rw [a7F, find?_cons_of_pos (by rw [c8c]; simp)]
theorem c3e : (a0k al2).length = 2 := by
 unfold a0k; rw [length_map, a4M, a7F]; rfl
theorem b0n {a b : Chg} (ha : opC a = 0 ∨ F6 (opC a) = true) (hb : F6 (opC b) = true) : F6 (opC (O6 a b)) = true := by
 unfold O6; split
 · exact hb
 · rename_i h
   rcases ha with h1 | h1
   · exact absurd (.inl h1) h
   · exact h1
theorem c1U (R : List Chg) (id : Str) : (opC (abF R id).nm = 0 ∨ F6 (opC (abF R id).nm) = true) ∧ ((abF R id).cr = true → F6 (opC (abF R id).nm) = true) := by
 refine V0 (P := fun R => (opC (abF R id).nm = 0 ∨ F6 (opC (abF R id).nm) = true) ∧ ((abF R id).cr = true → F6 (opC (abF R id).nm) = true)) ⟨.inl rfl, by simp [abF, S3]⟩ (fun R c ih => ?_) R; rw [a0T]; split
 · unfold O9; split
   · rename_i h
     have := b0n (b := c) ih.1 (by simp [F6, h]); exact ⟨.inr this, fun _ => this⟩
   · split
     · rename_i h
       have := b0n (b := c) ih.1 (by simp [F6, h]); exact ⟨.inr this, fun _ => this⟩
     · split
       · exact ih
       · exact ih
 · exact ih
theorem c4y (R : List Chg) (id : Str) : (abF R id).vs.length ≤ R.length ∧ ∀ p ∈ (abF R id).vs, ∃ c ∈ R, p.1 = a0C c := by
 refine V0 (P := fun R => (abF R id).vs.length ≤ R.length ∧ ∀ p ∈ (abF R id).vs, ∃ c ∈ R, p.1 = a0C c) ⟨by simp [abF, S3], by simp [abF, S3]⟩ (fun R c ih => ?_) R; have h0 : (abF R id).vs.length ≤ (R ++ [c]).length ∧ ∀ p ∈ (abF R id).vs, ∃ x ∈ R ++ [c], p.1 = a0C x := by
   refine ⟨by have := ih.1; simp; omega, fun p hp => ?_⟩; obtain ⟨x, hx, e⟩ := ih.2 p hp; exact ⟨x, by simp [hx], e⟩
 rw [a0T]; split
 · unfold O9; split
   · exact h0
   · split
     · exact h0
     · split
       · exact h0
       · simp only; unfold a4j; split
         · refine ⟨by simpa using h0.1, fun p hp => ?_⟩; obtain ⟨q, hq, e⟩ := mem_map.1 hp; obtain ⟨x, hx, e2⟩ := h0.2 q hq; refine ⟨x, hx, ?_⟩; rw [← e, ← e2]; split <;> rfl
         · refine ⟨by have := ih.1; simp; omega, fun p hp => ?_⟩; rcases mem_append.1 hp with hp | hp
           · exact h0.2 p hp
           · rw [mem_singleton.1 hp]; exact ⟨c, by simp, rfl⟩
 · exact h0
theorem a5p {R : List Chg} (h : a7m R) : a0z R := by
 refine ⟨by have := b6g R; have := h.few; omega, fun id hid => ?_, fun id => ?_⟩
 · obtain ⟨⟨c, hc, rfl⟩, hl⟩ := a5u.1 hid; have hcr : (abF R (idC c)).cr = true := by
     simp only [a2W, Bool.and_eq_true] at hl; exact hl.1
   have hn := (c1U R (idC c)).2 hcr; obtain ⟨h1, _⟩ := b5A R (idC c); have hm : (abF R (idC c)).nm ∈ R := by
     rcases h1 with h1 | h1
     · exact h1
     · rw [h1] at hn; exact absurd hn (by decide)
   have ho := a1K.1 (h.ok _ hc); have hon := a1K.1 (h.ok _ hm); obtain ⟨h3, h4⟩ := a7R (c := (P5 (idC c)).1) (s := idC c) (by rw [← ho.id]); have hidl : length (idC c) = 22 := by rw [← h3, a5T h4]
   have hb := hon.name; unfold J6 at hb; have hn' : F6 (abF R (idC c)).nm.2.1 = true := hn; simp only [hn', Bool.true_and, Bool.or_eq_false_iff, decide_eq_false_iff_not, Bool.not_eq_false'] at hb; obtain ⟨l, hl2⟩ := a7A.1 hb.1.2; have hpl : (E7 (N1 R (idC c))).1 = l := by
     have h6 := hl2; unfold M7 at h6; split at h6
     · exact Option.some.inj h6
     · cases h6
   refine ⟨?_, (h.fit _ hm).name, by omega, fun e => by rw [e] at hidl; simp at hidl⟩; rw [hpl]; intro e; exact hb.1.1 ((c6s hl2).2 e)
 · obtain ⟨h1, h2⟩ := c4y R id; refine ⟨by have := h.few; omega, fun p hp => ?_⟩; obtain ⟨c, hc, e⟩ := h2 p hp; rw [e]; exact ⟨(h.fit c hc).attr, (h.fit c hc).value⟩
theorem c2m {σ : St} {d B : Nat} {r : AV} {hs : List AV} (hB : 1000000 ≤ B) (hd : d < 1000000) (hH : hs.all isH = true) (hl : hs.length ≤ 500000) (hm : T6 r = true) {τ : St} (hτ : τ = C6 (put (B9 σ []) d r) [] B hs) :
   Fam τ B hs ∧ τ d = r ∧ Oth σ τ d ∧ a4Y σ τ B := by
 have hH' : ∀ x ∈ hs, isH x = true := fun x hx => all_eq_true.1 hH x hx
 have hput : ∀ i, i ∉ U7 [] B hs.length → τ i = F3 (U7 [] B hs.length) (put σ d r i) := fun i hi => by
   rw [hτ]; exact W2 hs [] (put (B9 σ []) d r) B i hi
 have hL : ∀ k ∈ U7 [] B hs.length, B ≤ k ∧ k < B + hs.length := fun k hk => by
   rcases a2t _ _ _ _ hk with h | h
   · simp at h
   · exact h
 refine ⟨⟨hH, hl, fun i hi => ?_⟩, ?_, ⟨U7 [] B hs.length, fun j hj => ?_, fun i hi hid => ?_⟩, (fun B2 hs2 hF2 hB2 hBB => ⟨hF2.1, hF2.2.1, fun i hi => ?_⟩)⟩
 · rw [hτ]; exact a6l hs (put (B9 σ []) d r) B hH' i hi
 · rw [hput d (fun hm => by have := hL d hm; omega)]; simp only [put, if_true]; exact a9m hm d _
 · rw [Bool.eq_false_iff]; intro hc; have := hL j (by simpa using hc); omega
 · rw [hput i (fun hm => by have := hL i hm; omega)]; simp only [put, if_neg hid]
 · have h4 := hF2.2.1; have hH2 := all_eq_true.1 hF2.1 _ (gmm hi); rw [hput _ (fun hm => by have := hL _ hm; omega)]; simp only [put, if_neg (show ¬ B2 + i = d by omega)]; rw [hF2.2.2 i hi, a2c hH2, a0G hH2]
theorem c5C {l : List Chg} (hf : ∀ c ∈ l, S6 c) : ∀ {R : List Chg}, a7m R → a7m (ofR R l) := by
 induction l with
 | nil => intro R h; exact h
 | cons c l ih =>
   intro R h; exact ih (fun x hx => hf x (by simp [hx])) (a6A h (hf c (by simp)))
theorem d0w {σ : St} {d : Nat} {K : St → Prop} (B : Nat) (hB : 1000000 ≤ B) (hd : d < 1000000) {l : List Chg} (hl : l.length < 100000) (hf : ∀ c ∈ l, S6 c) (h0 : ofE [] l = 0)
   (hk : ∀ s τ, StF τ B s (ofR [] l) → τ d = .tup [.d (.raw (va s)), .d (.int .i64 0)] → Oth σ τ d → a4Y σ τ B → K τ) : a2T prog 17 [.d (F9 l)] σ d K := by
 refine ⟨[], B, _, by simp, by simp, d0d l hl hf, fun x hs' hp => ?_⟩; rcases hp with ⟨h1, _⟩ | ⟨_, s, r, m, E, rfl, hE, rfl⟩
 · exact absurd h0 h1
 · have hR := c5C hf b0M; obtain ⟨f1, f2, f3, f4⟩ := c2m (σ := σ) (d := d) (r := .tup [.d (.raw (va s)), .d (.int .i64 0)]) hB hd (a6q s r m (ofR [] l) E) (b0Q hR hE) rfl rfl; exact hk s _ ⟨hR, r, m, E, hE, f1⟩ f2 f3 f4
theorem a8j {σ : St} {d : Nat} {K : St → Prop} (B s : Nat) (hB : 1000000 ≤ B) (hd : d < 1000000) {R : List Chg} {c : Chg} (hF : StF σ B s R) (hc : S6 c)
   (hk : ∀ τ, StF τ B s (N6 R c) → τ d = .d (.int .i64 (X8 R c)) → Oth σ τ d → a4Y σ τ B → K τ) : a2T prog 13 [.d (.raw (va s)), .d (A7 c)] σ d K :=
 b6c B s hB hd hF hc fun τ ks h1 h2 h3 h4 h5 => hk τ h1 h2 ⟨ks, h3, h4⟩ h5
theorem b5l (l : List Str) : S8 (l.map .str) = true := by
 induction l with
 | nil => rfl
 | cons s l ih => simp [S8, a1q, ih]
theorem c2E (l : List Att) : S8 (l.map att) = true := by
 induction l with
 | nil => rfl
 | cons s l ih =>
   simp only [map_cons, S8, ih, Bool.and_true]; simp [att, a1q, S8, C7, b5l]
theorem b8c (s : Str) (a : List Att) : a1q (W5 s a) = true := by simp [W5, a1q, S8, G5, c2E]
theorem c4s (l : List (Str × List Att)) : S8 (l.map a1X) = true := by
 induction l with
 | nil => rfl
 | cons s l ih => simp [S8, ih, a1X, b8c]
theorem a8F (s : Str) (a : List Att) (b : Bool) : T6 (.tup [.d (W5 s a), .d (.bool b)]) = true := by simp [T6, a8d, b8c, a1q]
theorem c7P : ∀ c ∈ alL, S6 c := by
 have h : (alL.all fun c => decide (length c.2.2.1 < 900000) && (decide (length c.2.2.2.1 < 900000) && (decide (length c.2.2.2.2.1 < 900000) && decide (length c.2.2.2.2.2 < 900000)))) = true := by kernel_rfl
 intro c hc; have := all_eq_true.1 h c hc; simp only [Bool.and_eq_true, decide_eq_true_eq] at this; exact ⟨this.1, this.2.1, this.2.2.1, this.2.2.2⟩
theorem c4K : Ctr prog 10 [] (.d (.bool true)) := by
 have g1 := a5r (1, 0, 0); have g2 := a5r (2, 0, 0); have g6 := a5r (6, 0, 0); rw [c7T] at g1; rw [c7E] at g2; rw [c7m] at g6; have k1 := a9K 2 1 (idS 50) nxS []; have k2 := a9K 1 1 (idS 49) nxS []; have k3 := a9K 5 4 (idS 49) [] [109]; have k4 := a9K 4 5 (idS 49) [] [109]; have k5 := a9K 6 1 (idS 54) nyS []; have k6 := a9K 3 2 (idS 49) [] []; have hal : F9 alL = .sl [A7 (atC 2 1 (idS 50) nxS []), A7 (atC 1 1 (idS 49) nxS []), A7 (atC 5 4 (idS 49) [] [109]), A7 (atC 4 5 (idS 49) [] [109]), A7 (atC 6 1 (idS 54) nyS [])] := rfl; have hw : ∀ c, A9 (A7 c) = 8 := fun _ => rfl
 have hcs : ∀ t : Int, B8 (t, 0, 0) = .agg [.int .i64 t, .int .i64 0, .int .i64 0] := fun _ => rfl
 simp only [hcs] at g1 g2 g6; refine fv (fun i => i == 5000031 || i == 5000043 || i == 5000049 || i == 5000087 || i == 5000093 || i == 5000104 || i == 5000113 || i == 5000116 || i == 5000131 || i == 5000137) func10 (by kernel_rfl) rfl rfl rfl rfl rfl ?_; generalize atC 2 1 (idS 50) nxS [] = C1 at *; generalize atC 1 1 (idS 49) nxS [] = C2 at *; generalize atC 5 4 (idS 49) [] [109] = C3 at *; generalize atC 4 5 (idS 49) [] [109] = C4 at *; generalize atC 6 1 (idS 54) nyS [] = C5 at *; generalize hi1 : idS 49 = i1 at *; generalize hi2 : idS 50 = i2 at *; generalize hi6 : idS 54 = i6 at *; simp only [nxS, nyS] at k1 k2 k3 k4 k5 k6; simp -implicitDefEqProofs; refine A3 g1 ?_; simp -implicitDefEqProofs; refine A3 g2 ?_; simp -implicitDefEqProofs; refine A3 k1 ?_; simp -implicitDefEqProofs; refine A3 k2 ?_; simp -implicitDefEqProofs; refine A3 k3 ?_; simp -implicitDefEqProofs; refine A3 k4 ?_; simp -implicitDefEqProofs; refine A3 g6 ?_; simp -implicitDefEqProofs; refine A3 k5 ?_; simp -implicitDefEqProofs [hw]; refine ⟨by decide, ?_⟩; rw [← hal]; refine d0w 1000000 (Nat.le_refl _) (by omega) (by decide) c7P d0E (fun s τ1 hF1 f1 o1 _ => ?_); rw [d4i] at hF1; have t11 : τ1 1 = .d (.str i1) := o1.dd (by omega) (by omega) (by simp); have t12 : τ1 2 = .d (.str i2) := o1.dd (by omega) (by omega) (by simp); have hG := a5p hF1.1; have nxe : nxS = [99, 110, 61, 120, 44, 111, 61, 97, 99, 109, 101] := rfl; have me : a3E = [109, 97, 105, 108] := rfl; have n2e : nx2 = 99 :: 110 :: 61 :: 120 :: 35 :: (i2 ++ [44, 111, 61, 97, 99, 109, 101]) := by rw [← hi2]; rfl
 have hl2 : length i2 = 22 := by rw [← hi2]; rfl
 have hE1 := d0M; have hE2 := c9w; rw [hi1] at hE1; rw [hi2] at hE2; have en : ∀ id x, StD alL x → _ := fun id x hx => b0V alL x id hx hG
 have enE := enters_of func21 (by kernel_rfl) rfl; simp -implicitDefEqProofs [f1, t11, t12]; refine a2E (ds := [.str i1]) 1000000 s (Nat.le_refl _) (by omega) (by repeat first | exact hF1 | apply StF.put | apply StF.setv | apply StF.clean | omega) enE (fun x hx => en i1 x hx) (a8F _ _ _) (fun τ2 hF2 f2 o2 _ => ?_); rw [hE1] at f2; have hd2 : W5 (nxS, [(a3E, [[109]])]).1 (nxS, [(a3E, [[109]])]).2 = .agg [.str nxS, .sl [.agg [.str a3E, .sl [.str [109]]]]] := rfl; simp only [hd2] at f2; simp only [nxe, me] at f2; have t21 : τ2 1 = .d (.str i1) := o2.dd (by omega) (by omega) (by simp [t11]); have t22 : τ2 2 = .d (.str i2) := o2.dd (by omega) (by omega) (by simp [t12]); have t24 : τ2 4 = .d (.raw (va s)) := o2.dd (by omega) (by omega) (by simp); simp -implicitDefEqProofs [f2, t21, t22, t24]; refine a2E (ds := [.str i2]) 1000000 s (Nat.le_refl _) (by omega) (by repeat first | exact hF2 | apply StF.put | apply StF.setv | apply StF.clean | omega) enE (fun x hx => en i2 x hx) (a8F _ _ _) (fun τ3 hF3 f3 o3 _ => ?_); rw [hE2] at f3; have hd3 : W5 nx2 [] = .agg [.str nx2, .sl []] := rfl; simp only [hd3] at f3; simp only [n2e] at f3; have t31 : τ3 1 = .d (.str i1) := o3.dd (by omega) (by omega) (by simp [t21]); have t32 : τ3 2 = .d (.str i2) := o3.dd (by omega) (by omega) (by simp [t22]); have t34 : τ3 4 = .d (.raw (va s)) := o3.dd (by omega) (by omega) (by simp [t24]); have t36 : τ3 6 = .box (.agg [.str [99, 110, 61, 120, 44, 111, 61, 97, 99, 109, 101], .sl [.agg [.str [109, 97, 105, 108], .sl [.str [109]]]]]) := o3.bx (by omega) (by omega) (by simp); have t37 : τ3 7 = .d (.bool true) := o3.dd (by omega) (by omega) (by simp); simp -implicitDefEqProofs [f3, t31, t32, t34, t36, t37, hl2]; have orp : ∀ x, StD alL x → Ctr prog 29 [.d x] (.d (.sl ((a0x alL).map .str))) := fun x hx => Y7 (a7l alL x hx hG)
 have liv : ∀ x, StD alL x → Ctr prog 27 [.d x] (.d (.sl ((C0 alL).map .str))) := fun x hx => Y7 (a3A alL x hx hG.lt)
 have con : ∀ x, StD alL x → Ctr prog 28 [.d x] (.d (.sl ((a0B alL).map .str))) := fun x hx => Y7 (a2X alL x hx hG)
 have hol : ((a0x alL).map D.str).length = 1 := (by simp [c6i]); have hmO := b5l (a0x alL); generalize (a0x alL).map D.str = OL at *; rw [a4E, hi1, hi2, hi6] at liv; rw [c5P, hi2] at con; refine a2E (ds := []) (res := .d (.sl OL)) 1000000 s (Nat.le_refl _) (by omega) (by repeat first | exact hF3 | apply StF.put | apply StF.setv | apply StF.clean | omega) (enters_of func29 (by kernel_rfl) rfl) orp hmO (fun τ4 hF4 f4 o4 _ => ?_); have t41 : τ4 1 = .d (.str i1) := o4.dd (by omega) (by omega) (by simp [t31]); have t42 : τ4 2 = .d (.str i2) := o4.dd (by omega) (by omega) (by simp [t32]); have t44 : τ4 4 = .d (.raw (va s)) := o4.dd (by omega) (by omega) (by simp [t34]); have t485 : τ4 85 = .d (.bool false) := o4.dd (by omega) (by omega) (by simp); simp -implicitDefEqProofs [f4, t41, t42, t44, t485, hol]; refine a2E (ds := []) (res := .d (C7 [i1, i2, i6])) 1000000 s (Nat.le_refl _) (by omega) (by repeat first | exact hF4 | apply StF.put | apply StF.setv | apply StF.clean | omega) (enters_of func27 (by kernel_rfl) rfl) liv rfl (fun τ5 hF5 f5 o5 _ => ?_); have t51 : τ5 1 = .d (.str i1) := o5.dd (by omega) (by omega) (by simp [t41]); have t52 : τ5 2 = .d (.str i2) := o5.dd (by omega) (by omega) (by simp [t42]); have t54 : τ5 4 = .d (.raw (va s)) := o5.dd (by omega) (by omega) (by simp [t44]); have t591 : τ5 91 = .d (.bool false) := o5.dd (by omega) (by omega) (by simp); simp -implicitDefEqProofs [f5, t51, t52, t54, t591, C7]; have l1 := a2S [i1, i2, i6] [i1, i2, i6] (by simp) (by simp); have l2 := a2S [i2] [i2] (by simp) (by simp); simp only [C7, map_cons, map_nil, decide_true] at l1 l2; refine A3 g6 ?_; simp -implicitDefEqProofs [f5, t51, t52, t54, t591, C7]; refine ⟨by decide, A3 l1 ?_⟩; simp -implicitDefEqProofs [f5, t51, t52, t54, t591, C7]; refine a2E (ds := []) (res := .d (C7 [i2])) 1000000 s (Nat.le_refl _) (by omega) (by repeat first | exact hF5 | apply StF.put | apply StF.setv | apply StF.clean | omega) (enters_of func28 (by kernel_rfl) rfl) con rfl (fun τ6 hF6 f6 o6 _ => ?_); have t61 : τ6 1 = .d (.str i1) := o6.dd (by omega) (by omega) (by simp [t51]); have t62 : τ6 2 = .d (.str i2) := o6.dd (by omega) (by omega) (by simp [t52]); have t64 : τ6 4 = .d (.raw (va s)) := o6.dd (by omega) (by omega) (by simp [t54]); have t602 : τ6 102 = .d (.bool false) := o6.dd (by omega) (by omega) (by simp); simp -implicitDefEqProofs [f6, t61, t62, t64, t602, C7]; refine A3 l2 ?_; simp -implicitDefEqProofs [f6, t61, t62, t64, t602, C7]; refine A3 k6 ?_; simp -implicitDefEqProofs [f6, t61, t62, t64, t602, C7]; have ha2 := d3g; have hr2 := d0o; have hfc : S6 (atC 3 2 (idS 49) [] []) := by
   rw [hi1]; have h5 : length i1 = 22 := by rw [← hi1]; rfl
   exact ⟨by simp [atC]; omega, by simp [atC], by simp [atC], by simp [atC]⟩
 rw [hi1] at ha2 hr2 hfc; refine a8j 1000000 s (Nat.le_refl _) (by omega) (R := alL) (by repeat first | exact hF6 | apply StF.put | apply StF.setv | apply StF.clean | omega) hfc (fun τ7 hF7 f7 o7 _ => ?_); rw [ha2] at f7; rw [hr2] at hF7; have t72 : τ7 2 = .d (.str i2) := o7.dd (by omega) (by omega) (by simp [t62]); have t74 : τ7 4 = .d (.raw (va s)) := o7.dd (by omega) (by omega) (by simp [t64]); have hG2 := a5p hF7.1; have fnd : ∀ x, StD al2 x → _ := fun x hx => c5T al2 x nxS hx hG2
 rw [c4N, hi2] at fnd; simp only [nxe] at fnd; have hen : ∀ x, StD al2 x → Ctr prog 30 [.d x] (.d (.sl ((a0k al2).map a1X))) := fun x hx => Y7 (a7t al2 x hx hG2)
 have con2 : ∀ x, StD al2 x → Ctr prog 28 [.d x] (.d (.sl ((a0B al2).map .str))) := fun x hx => Y7 (a2X al2 x hx hG2)
 have hel : ((a0k al2).map a1X).length = 2 := (by simp [c3e]); have hme := c4s (a0k al2); generalize (a0k al2).map a1X = EL at *; rw [c3M] at con2; simp -implicitDefEqProofs [f7, t72, t74]; refine a2E (ds := [.str [99, 110, 61, 120, 44, 111, 61, 97, 99, 109, 101]]) 1000000 s (Nat.le_refl _) (by omega) (by repeat first | exact hF7 | apply StF.put | apply StF.setv | apply StF.clean | omega) (enters_of func15 (by kernel_rfl) rfl) fnd rfl (fun τ8 hF8 f8 o8 _ => ?_); have t82 : τ8 2 = .d (.str i2) := o8.dd (by omega) (by omega) (by simp [t72]); have t84 : τ8 4 = .d (.raw (va s)) := o8.dd (by omega) (by omega) (by simp [t74]); have t810 : τ8 10 = .d (.int .i64 0) := o8.dd (by omega) (by omega) (by simp); simp -implicitDefEqProofs [f8, t82, t84, t810]; refine a2E (ds := []) (res := .d (.sl EL)) 1000000 s (Nat.le_refl _) (by omega) (by repeat first | exact hF8 | apply StF.put | apply StF.setv | apply StF.clean | omega) (enters_of func30 (by kernel_rfl) rfl) hen hme (fun τ9 hF9 f9 o9 _ => ?_); have t94 : τ9 4 = .d (.raw (va s)) := o9.dd (by omega) (by omega) (by simp [t84]); have t929 : τ9 129 = .d (.bool true) := o9.dd (by omega) (by omega) (by simp); simp -implicitDefEqProofs [f9, t94, t929, hel]; refine a2E (ds := []) (res := .d (.sl [])) 1000000 s (Nat.le_refl _) (by omega) (by repeat first | exact hF9 | apply StF.put | apply StF.setv | apply StF.clean | omega) (enters_of func28 (by kernel_rfl) rfl) con2 rfl (fun τ10 hF10 f10 o10 _ => ?_); have tA : τ10 135 = .d (.bool true) := o10.dd (by omega) (by omega) (by simp); simp -implicitDefEqProofs [f10, tA]
theorem c1n (u : Value) (R : List Chg) (bs : List Nat) (clk : Nat) : F5 prog 71 [.d (.map u (R.map A7) (R.map fun _ => .bool true) bs clk)] [] (fun r hs' => ∃ q, r = .d (.raw (.map (some q))) ∧ hs' = [.hm (.map (some q)) 35 (P6 R) none]) := by
 have h := c0X Tryz.clnR (enters_of func71 (by kernel_rfl) rfl) 35 u (R.map A7) (R.map fun _ => .bool true) bs clk (fun k hk => by
   obtain ⟨c, _, rfl⟩ := mem_map.1 hk; exact a4B c)
 have e : (R.map A7).zip (R.map fun _ => D.bool true) = P6 R := by simp [P6, zip_map']
 rw [e] at h; exact h
theorem c2o (u : Value) (V : List (VK × Chg)) (bs : List Nat) (clk : Nat) : F5 prog 72 [.d (.map u (V.map fun p => vkD p.1) (V.map fun p => A7 p.2) bs clk)] [] (fun r hs' => ∃ q, r = .d (.raw (.map (some q))) ∧ hs' = [.hm (.map (some q)) 101 (vsM V) none]) := by
 have h := c0X Tryz.clnV (enters_of func72 (by kernel_rfl) rfl) 101 u (V.map fun p => vkD p.1) (V.map fun p => A7 p.2) bs clk (fun k hk => by
   obtain ⟨p, _, rfl⟩ := mem_map.1 hk; exact a8s p.1)
 rw [b9u] at h; exact h
def WOk (R : List Chg) (e : Q3) : Prop := e.2.1.cr = (abF R e.1).cr ∧ e.2.1.rm = (abF R e.1).rm ∧ e.2.1.nm = (abF R e.1).nm ∧ Perm e.2.1.vs (abF R e.1).vs
def hbE (e : Q3) : AV := .hb (va e.2.2.1) 78 (M9 e.2.1 (.raw (.map (some e.2.2.2))))
def hvE (e : Q3) : AV := .hm (.map (some e.2.2.2)) 101 (vsM e.2.1.vs) none
theorem c5j (e : Q3) : a1r e = [hbE e, hvE e] := rfl
structure b3g (R R1 : List Chg) (s r m : Nat) (W : List Q3) (τ : St) : Prop where
 top : τ 1000000 = .hb (va s) 65 (.agg [.raw (.map (some r)), .raw (.map (some m))])
 rc : τ 1000001 = .hm (.map (some r)) 35 (P6 R1) none
 ent : τ 1000002 = .hm (.map (some m)) 9 (P0 W) none
 b : ∀ i (h : i < W.length), τ (2000000 + 2 * i) = hbE W[i]
 v : ∀ i (h : i < W.length), τ (2000001 + 2 * i) = hvE W[i]
 nb : ∀ i, W.length ≤ i → τ (2000000 + 2 * i) = .undef
 nv : ∀ i, W.length ≤ i → τ (2000001 + 2 * i) = .undef
def ClI (R R1 : List Chg) (u2 : Value) (M : List Z5) (bs2 : List Nat) (c2 s r m : Nat) (k : Nat) (τ : St) : Prop := ∃ ss seen W, a1e (M.map (·.1)) ss seen ∧ ss.length = k ∧ W.map (·.1) = ss ∧ (∀ e ∈ W, WOk R e) ∧ τ 3 = .d (.raw (va s)) ∧
 τ 21 = .d (.map u2 (M.map fun x => .str x.1) (M.map fun x => x.2.2) bs2 c2) ∧ τ 22 = .mit u2 ((M.map fun x => D.str x.1).zip bs2, c2) seen ∧ b3g R R1 s r m W τ
theorem b3g.put {R R1 : List Chg} {s r m d : Nat} {W : List Q3} {τ : St} {x : AV} (h : b3g R R1 s r m W τ) (hd : d < 1000000) : b3g R R1 s r m W (Vw.put τ d x) := by
 have hn : ∀ j, 1000000 ≤ j → ¬ j = d := fun j h => by omega
 refine ⟨?_, ?_, ?_, fun i hi => ?_, fun i hi => ?_, fun i hi => ?_, fun i hi => ?_⟩
 · simp only [Vw.put, if_neg (hn 1000000 (by omega)), h.top]; rfl
 · simp only [Vw.put, if_neg (hn 1000001 (by omega)), h.rc]; rfl
 · simp only [Vw.put, if_neg (hn 1000002 (by omega)), h.ent]; rfl
 · simp only [Vw.put, if_neg (hn (2000000 + 2 * i) (by omega)), h.b i hi]; rfl
 · simp only [Vw.put, if_neg (hn (2000001 + 2 * i) (by omega)), h.v i hi]; rfl
 · simp only [Vw.put, if_neg (hn (2000000 + 2 * i) (by omega)), h.nb i hi]; rfl
 · simp only [Vw.put, if_neg (hn (2000001 + 2 * i) (by omega)), h.nv i hi]; rfl
theorem b3g.ks {R R1 : List Chg} {s r m : Nat} {W : List Q3} {τ : St} (h : b3g R R1 s r m W τ) : ∃ ks : List Nat, ks.Nodup ∧ (∀ k ∈ ks, isH (τ k) = true) ∧ ks.map τ = stH s r m R1 W := by
 have key : ∀ n, n ≤ W.length → ∃ ks : List Nat, ks.Nodup ∧ (∀ k ∈ ks, isH (τ k) = true ∧ 2000000 ≤ k ∧ k < 2000000 + 2 * n) ∧ ks.map τ = (W.take n).flatMap a1r := by
   intro n
   induction n with
   | zero => intro _; exact ⟨[], by simp, by simp, by simp⟩
   | succ n ih =>
     intro hn; obtain ⟨ks, k1, k2, k3⟩ := ih (by omega); have hlt : n < W.length := (by omega); refine ⟨ks ++ [2000000 + 2 * n, 2000001 + 2 * n], ?_, fun k hk => ?_, ?_⟩
     · refine nodup_append.2 ⟨k1, by simp, fun a ha b hb e => ?_⟩; have := (k2 a ha).2; simp only [mem_cons, not_mem_nil, or_false] at hb; omega
     · rcases mem_append.1 hk with hk | hk
       · have := k2 k hk; exact ⟨this.1, this.2.1, by omega⟩
       · simp only [mem_cons, not_mem_nil, or_false] at hk; rcases hk with rfl | rfl
         · exact ⟨by rw [h.b n hlt]; rfl, by omega, by omega⟩
         · exact ⟨by rw [h.v n hlt]; rfl, by omega, by omega⟩
     · rw [map_append, k3, G9 hlt, flatMap_append]; simp [h.b n hlt, h.v n hlt, c5j]
 obtain ⟨ks, k1, k2, k3⟩ := key W.length (Nat.le_refl _); rw [take_length] at k3; refine ⟨[1000000, 1000001, 1000002] ++ ks, ?_, fun k hk => ?_, ?_⟩
 · refine nodup_append.2 ⟨by simp, k1, fun a ha b hb e => ?_⟩; have := (k2 b hb).2; simp only [mem_cons, not_mem_nil, or_false] at ha; omega
 · rcases mem_append.1 hk with hk | hk
   · simp only [mem_cons, not_mem_nil, or_false] at hk; rcases hk with rfl | rfl | rfl
     · rw [h.top]; rfl
     · rw [h.rc]; rfl
     · rw [h.ent]; rfl
   · exact (k2 k hk).1
 · rw [map_append, k3]; simp [h.top, h.rc, h.ent, stH, R8]
theorem b7Q {args : List AV} {i : Nat} (h : 1000000 ≤ i) : A5 args [] i = .undef := by unfold A5; rw [if_pos h]; rfl
theorem d4G : a2Y prog true 78 = some (.agg [.bool false, .bool false, .agg [.agg [.int .i64 0, .int .i64 0, .int .i64 0], .int .i64 0, .str [], .str [], .str [], .str []], .raw (.map none)]) := by kernel_rfl
theorem c9u {P : Program} {e : TypeId} {z : D} {σ : St} {d : Nat} {K : St → Prop} (h : Nat) (h1 : σ h = .undef) (hk : ∀ g, K (put (put σ h (.hb (va g) e z)) d (.d (.raw (va g))))) : b3h P e z σ d K := ⟨h, none, trivial, h1, hk⟩
theorem c7N (e : Q3) (d : Nat) : E0 d (hbE e) = hbE e := rfl
theorem c7p (e : Q3) (d : Nat) : E0 d (hvE e) = hvE e := rfl
theorem c1u (R : List Chg) (d : D) (hd : StD R d) (hl : (N9 R).length < 100000) :
   F5 prog 34 [.d d] [] (fun x hs' => ∃ s r m R1 W, x = .d (.raw (va s)) ∧ Perm R1 R ∧ Perm (W.map (·.1)) ((N9 R).map (·.1)) ∧ (∀ e ∈ W, WOk R e) ∧ hs' = stH s r m R1 W) := by
 obtain ⟨u1, R1, bs1, c1, u2, M, bs2, c2, rfl, hR1, hM⟩ := hd.open; have cr := c1n u1 R1 bs1 c1; have cv := fun u V bs clk => c2o u V bs clk
 refine a1a (fun i => i == 5000014 || i == 5000035 || i == 1000017 || i == 1000006) (by kernel_rfl) func34 (by kernel_rfl) rfl rfl (nbl rfl) (by kernel_rfl) rfl ?_; simp -implicitDefEqProofs [A5]; refine A3 (a2u u1 R1 bs1 c1 u2 M bs2 c2) ?_; simp -implicitDefEqProofs [A5, T9]; refine K4 [] 1000001 cr rfl rfl (by simp) ?_; rintro x hs' ⟨r, rfl, rfl⟩; simp -implicitDefEqProofs [A5, C6, B9]; refine a9R 9 1000002 (by simp [A5]) (fun m => ?_); simp -implicitDefEqProofs [A5, C6, B9]; refine ⟨1000000, by simp [A5], fun s => ?_⟩; simp -implicitDefEqProofs [A5, C6, B9]; refine H4 M.length (ClI R R1 u2 M bs2 c2 s r m) ⟨[], [], [], a1e.nil _, rfl, rfl, by simp, by simp, by simp, by simp, ⟨by simp, by simp, by simp [P0], by simp, by simp, fun i _ => ?_, fun i _ => ?_⟩⟩ ?_
 · have m1 : ∀ d, d < 1500000 → (2000000 + 2 * i = d) = False := fun d h => eq_false (by omega)
   simp [m1]; rw [b7Q (by omega)]; rfl
 · have m1 : ∀ d, d < 1500000 → (2000001 + 2 * i = d) = False := fun d h => eq_false (by omega)
   simp [m1]; rw [b7Q (by omega)]; rfl
 rintro k τ hk ⟨ss, seen, W, hS, hsl, hW, hWo, g3, g21, g22, hP⟩; have hwl : W.length = k := by rw [← hsl, ← hW, length_map]
 simp -implicitDefEqProofs [g3, g21, g22]; refine c4b (vs := M.map fun x => x.2.2) 21 (by simp [g21]) (a4q M) (fun x v hm hn => ?_) (fun hall => ?_)
 · rw [a3D] at hm; obtain ⟨x, hx, rfl, rfl⟩ := b5S hm; have hin : x.1 ∈ M.map (·.1) := mem_map.2 ⟨x, hx, rfl⟩; have hS2 := hS.next hin hn; have hlt := hS.lt hM.nodup hin hn; rw [hsl, length_map] at hlt; have hab := (hM.at_ hx).2; obtain ⟨u, V, bs, clk, hd1, hV⟩ := hM.ab x hx; have cv := cv u V bs clk; rw [← a3D] at hm; have hnew : ∀ e ∈ W, e.1 ≠ x.1 := fun e he q => hn (hS.mem.2 (by rw [← hW, ← q]; exact mem_map.2 ⟨e, he, rfl⟩))
   obtain ⟨jb, hjb⟩ : ∃ j, j = 2000000 + 2 * k := ⟨_, rfl⟩; obtain ⟨jv, hjv⟩ : ∃ j, j = 2000001 + 2 * k := ⟨_, rfl⟩; have n1 : ∀ d, d < 1500000 → (jb = d) = False := fun d h => eq_false (by omega)
   have n2 : ∀ d, d < 1500000 → (d = jb) = False := fun d h => eq_false (by omega)
   have n3 : ∀ d, d < 1500000 → (jv = d) = False := fun d h => eq_false (by omega)
   have n4 : ∀ d, d < 1500000 → (d = jv) = False := fun d h => eq_false (by omega)
   have n5 : (jb = jv) = False := eq_false (by omega); have n6 : (jv = jb) = False := eq_false (by omega); have hub : τ jb = .undef := by rw [hjb]; exact hP.nb k (by omega)
   have huv : τ jv = .undef := by rw [hjv]; exact hP.nv k (by omega)
   have wc : ∀ c, A9 (A7 c) = 8 := fun _ => rfl
   have e0 := hP.top; have e1 := hP.rc; have e2 := hP.ent; simp -implicitDefEqProofs [g3, g21, g22]; refine c3W (vs := M.map fun x => x.2.2) 21 (by simp [g21]) (a4q M) hm ?_; rw [hd1]; simp -implicitDefEqProofs [g3, g21, g22, M9, d4G, wc]; refine c9u jb (by simp [hub, n1, n2]) (fun b => ?_); simp -implicitDefEqProofs [g3, g21, g22, wc, n1, n2]; refine d3r jb (e := 78) (b := .agg [.bool false, .bool false, .agg [.agg [.int .i64 0, .int .i64 0, .int .i64 0], .int .i64 0, .str [], .str [], .str [], .str []], .raw (.map none)]) (by simp [n1, n2]) (by simp [wc]) (by simp [wc]) ?_; simp -implicitDefEqProofs [g3, g21, g22, wc, n1, n2]; refine K4 [] jv cv (by simp [A5]) rfl (by simp) ?_; rintro y hs' ⟨v, rfl, rfl⟩; simp -implicitDefEqProofs [g3, g21, g22, wc, C6, B9, n1, n2, n3, n4, n5, n6]; refine O4 (e := 78) (ds := [.bool x.2.1.cr, .bool x.2.1.rm, A7 x.2.1.nm, .map u (V.map fun p => vkD p.1) (V.map fun p => A7 p.2) bs clk]) jb (by simp [n1, n2, n3, n4, n5, n6]) (by omega) (by simp) (by kernel_rfl) ?_; simp -implicitDefEqProofs [g3, g21, g22, wc, n1, n2, n3, n4, n5, n6]; refine O4 (e := 65) (ds := [.raw (.map (some r)), .raw (.map (some m))]) 1000000 (by simp [e0, n1, n2, n3, n4, n5, n6]) (by omega) (by simp) (by kernel_rfl) ?_; simp -implicitDefEqProofs [g3, g21, g22, wc, e0, n1, n2, n3, n4, n5, n6]; refine a6a (m := P0 W) (E := none) 1000002 a3F (by simp [e2, n1, n2, n3, n4, n5, n6]) (F8 _) _ (Perm.refl _) ?_; rw [a9o (a := { x.2.1 with vs := V }) (b := b) (v := v) hnew]; simp -implicitDefEqProofs [g3, g21, g22, wc, e0, n1, n2, n3, n4, n5, n6]; refine F0 hlt ⟨ss ++ [x.1], seen ++ [.str x.1], W ++ [(x.1, { x.2.1 with vs := V }, b, v)], hS2, by simp [hsl], by simp [hW], fun e he => ?_, by simp [g3, n1, n2, n3, n4, n5, n6], by simp [g21, n1, n2, n3, n4, n5, n6], by simp [n1, n2, n3, n4, n5, n6], ⟨by simp [e0, n1, n2, n3, n4, n5, n6], by simp [e1, n1, n2, n3, n4, n5, n6], by simp, fun i hi => ?_, fun i hi => ?_, fun i hi => ?_, fun i hi => ?_⟩⟩
   · rcases mem_append.1 he with he | he
     · exact hWo e he
     · rw [mem_singleton.1 he]; exact ⟨by rw [← hab], by rw [← hab], by rw [← hab], by rw [← hab]; exact hV⟩
   · rw [length_append, length_singleton] at hi; rcases Nat.lt_or_ge i W.length with q | q
     · have m1 : ∀ d, d < 1500000 → (2000000 + 2 * i = d) = False := fun d h => eq_false (by omega)
       have m2 : (2000000 + 2 * i = jb) = False := eq_false (by omega); have m3 : (2000000 + 2 * i = jv) = False := eq_false (by omega); rw [getElem_append_left q]; simp [m1, m2, m3, hP.b i q, c7N]
     · have q' : i = W.length := (by omega); subst q'; have m2 : 2000000 + 2 * W.length = jb := (by omega); rw [m2, getElem_append_right (by omega)]; simp [n1, n2, n3, n4, n5, n6, hbE, M9]
   · rw [length_append, length_singleton] at hi; rcases Nat.lt_or_ge i W.length with q | q
     · have m1 : ∀ d, d < 1500000 → (2000001 + 2 * i = d) = False := fun d h => eq_false (by omega)
       have m2 : (2000001 + 2 * i = jb) = False := eq_false (by omega); have m3 : (2000001 + 2 * i = jv) = False := eq_false (by omega); rw [getElem_append_left q]; simp [m1, m2, m3, hP.v i q, c7p]
     · have q' : i = W.length := (by omega); subst q'; have m2 : 2000001 + 2 * W.length = jv := (by omega); rw [m2, getElem_append_right (by omega)]; simp [n1, n2, n3, n4, n5, n6, hvE]
   · rw [length_append, length_singleton] at hi; have m1 : ∀ d, d < 1500000 → (2000000 + 2 * i = d) = False := fun d h => eq_false (by omega)
     have m2 : (2000000 + 2 * i = jb) = False := eq_false (by omega); have m3 : (2000000 + 2 * i = jv) = False := eq_false (by omega); simp [m1, m2, m3, hP.nb i (by omega)]
   · rw [length_append, length_singleton] at hi; have m1 : ∀ d, d < 1500000 → (2000001 + 2 * i = d) = False := fun d h => eq_false (by omega)
     have m2 : (2000001 + 2 * i = jb) = False := eq_false (by omega); have m3 : (2000001 + 2 * i = jv) = False := eq_false (by omega); simp [m1, m2, m3, hP.nv i (by omega)]
 · rw [a3D] at hall; have hpk : Perm (W.map (·.1)) ((N9 R).map (·.1)) := by rw [hW]; exact (hS.all hM.nodup (b5I hall)).trans hM.keys
   have e0 := hP.top; have e1 := hP.rc; have e2 := hP.ent; simp -implicitDefEqProofs [g3, g21, g22]; have hP2 := (((hP.put (x := .tup [.d (.bool false)]) (d := 23) (by omega)).put (x := .d (.bool false)) (d := 24) (by omega)).put (x := .d (.raw (va s))) (d := 42) (by omega)).put (x := .d (.raw (va s))) (d := 2) (by omega); obtain ⟨ks, k1, k2, k3⟩ := hP2.ks; exact ⟨.d (.raw (va s)), ks, k1, k2, by simp [a1u], s, rfl, r, m, R1, hR1, W, hpk, fun i a b v h => hWo (i, a, b, v) h, k3⟩
theorem c4j (R : List Chg) (hB : a7m R) (d : D) (hd : StD R d) : F5 prog 34 [.d d] [] (fun x hs' => ∃ s r m E, x = .d (.raw (va s)) ∧ U5 E = N9 R ∧ hs' = stH s r m R E) := by
 refine ((c1u R d hd (a5p hB).lt).permOut (Post' := fun x hs' => ∃ s r m R1 W, x = .d (.raw (va s)) ∧ Perm R1 R ∧ W.map (·.1) = (N9 R).map (·.1) ∧ (∀ e ∈ W, WOk R e) ∧ ∃ W0, Perm W0 W ∧ hs' = R8 s r m R1 W0 ++ W.flatMap a1r) ?_).relax ?_
 · rintro x hs' ⟨s, r, m, R1, W, rfl, h1, h2, h3, rfl⟩; obtain ⟨V, v1, v2⟩ := a1I h2.symm rfl; exact ⟨R8 s r m R1 W ++ V.flatMap a1r, perm_append_left_iff _ |>.2 (Perm.flatMap_right _ v1.symm), s, r, m, R1, V, rfl, h1, v2, fun e he => h3 e (v1.mem_iff.1 he), W, v1.symm, rfl⟩
 · rintro x hs' ⟨s, r, m, R1, W, rfl, h1, h2, h3, W0, h4, rfl⟩; refine ⟨stH s r m R (W.map fun e => (e.1, abF R e.1, e.2.2.1, e.2.2.2)), ?_, s, r, m, _, rfl, ?_, rfl⟩
   · have hE : P0 (W.map fun e => (e.1, abF R e.1, e.2.2.1, e.2.2.2)) = P0 W := by simp [P0, Function.comp_def]
     refine a6k.app ⟨_, _, rfl, .inl rfl, _, _, rfl, .inr ⟨_, _, _, _, rfl, rfl, h1.map _⟩, _, _, rfl, .inr ⟨_, _, _, _, rfl, rfl, by rw [hE]; exact h4.map _⟩, rfl⟩ ?_; clear h2 h4 hE
     induction W with
     | nil => rfl
     | cons e W ih =>
       have ih := ih fun e' he => h3 e' (by simp [he])
       obtain ⟨q1, q2, q3, q4⟩ := h3 e (by simp); rw [map_cons, flatMap_cons, flatMap_cons]; refine a6k.app ⟨_, _, rfl, .inl ?_, _, _, rfl, .inr ⟨_, _, _, _, rfl, rfl, q4.map _⟩, rfl⟩ ih; simp [M9, q1, q2, q3]
   · have : U5 (W.map fun e => (e.1, abF R e.1, e.2.2.1, e.2.2.2)) = (W.map (·.1)).map fun i => (i, abF R i) := by simp [U5, Function.comp_def]
     rw [this, h2, map_map]
     conv => rhs; rw [← map_id (N9 R)]
     refine map_congr_left fun p hp => ?_
     obtain ⟨i, a⟩ := p; have := (a3k.1 hp).2; simp [this]
theorem c1r (c : Chg) : Ctr prog 13 [.d .nilp, .d (A7 c)] (.d (.int .i64 1)) := by
 refine b2t (fun i => i == 5000056 || i == 21000012 || i == 1000047) (by kernel_rfl) func13 (by kernel_rfl) rfl rfl (nbl rfl) (by kernel_rfl) rfl rfl ?_; have hw : A9 (A7 c) = 8 := rfl; simp -implicitDefEqProofs [hw]; refine A3 a4a ?_; simp -implicitDefEqProofs []
theorem c2k (c : Chg) : Ctr prog 13 [.d a2g, .d (A7 c)] (.d (.int .i64 1)) := by
 refine b2t (fun i => i == 5000056 || i == 21000012 || i == 1000047) (by kernel_rfl) func13 (by kernel_rfl) rfl rfl (nbl rfl) (by kernel_rfl) rfl rfl ?_; have hw : A9 (A7 c) = 8 := rfl; simp -implicitDefEqProofs [hw]; refine A3 a5L ?_; simp -implicitDefEqProofs []
theorem c1R : Ctr prog 34 [.d .nilp] (.d .nilp) := by
 refine fv (fun _ => false) func34 (by kernel_rfl) rfl rfl rfl rfl rfl ?_; simp -implicitDefEqProofs []; refine A3 a4a ?_; simp -implicitDefEqProofs []
theorem c3J (n : Str) : Ctr prog 15 [.d .nilp, .d (.str n)] (.tup [.d (.str []), .d (.bool false)]) := by
 refine L9 (rv := .tmp 4) (rs := [.tmp 5]) (r := .d (.str [])) (ys := [.d (.bool false)]) (fun i => false) (by kernel_rfl) func15 (by kernel_rfl) rfl rfl (by simp) (nbl rfl) (by kernel_rfl) rfl rfl ?_; simp -implicitDefEqProofs []; refine A3 a4a ?_; simp -implicitDefEqProofs []
theorem c1K (n : Str) : Ctr prog 21 [.d a2g, .d (.str n)] (.tup [.d (W5 [] []), .d (.bool false)]) := by
 refine L9 (rv := .cell 4 48) (rs := [.tmp 5]) (r := .d (W5 [] [])) (ys := [.d (.bool false)]) (fun i => false) (by kernel_rfl) func21 (by kernel_rfl) rfl rfl (by simp) (nbl rfl) (by kernel_rfl) rfl rfl ?_; simp -implicitDefEqProofs []; refine A3 a5L ?_; simp -implicitDefEqProofs [W5, G5]
theorem c3u : Ctr prog 27 [.d .nilp] (.d (.sl [])) := by
 refine fv (fun _ => false) func27 (by kernel_rfl) rfl rfl rfl rfl rfl ?_; simp -implicitDefEqProofs []; refine A3 a4a ?_; simp -implicitDefEqProofs []
theorem c3X : Ctr prog 29 [.d .nilp] (.d (.sl [])) := by
 refine fv (fun _ => false) func29 (by kernel_rfl) rfl rfl rfl rfl rfl ?_; simp -implicitDefEqProofs []; refine A3 a4a ?_; simp -implicitDefEqProofs []
theorem c4w : Ctr prog 30 [.d a2g] (.d (.sl [])) := by
 refine fv (fun _ => false) func30 (by kernel_rfl) rfl rfl rfl rfl rfl ?_; simp -implicitDefEqProofs []; refine A3 a5L ?_; simp -implicitDefEqProofs []
theorem c2Z : Ctr prog 28 [.d a2g] (.d (.sl [])) := by
 refine fv (fun _ => false) func28 (by kernel_rfl) rfl rfl rfl rfl rfl ?_; have c := a5L; simp only [a2g] at c; simp -implicitDefEqProofs [a2g]; refine A3 c ?_; simp -implicitDefEqProofs []
theorem a9H (a b : Chg) : ltM a b = true ↔ X2 a.1 b.1 < 0 ∨ (a.1 = b.1 ∧ (H9 a).1 < (H9 b).1) := by
 unfold ltM orI orI orI; rw [decide_eq_true_eq]; by_cases h : X2 a.1 b.1 = 0
 · rw [if_neg (by simpa using h)]; have h1 := a4b.1 h; by_cases h2 : a0H (H9 a).1 (H9 b).1 = 0
   · rw [if_neg (by simpa using h2)]; have h3 := b4r.1 h2; rw [h3]; have : ¬ (H9 b).1 < (H9 b).1 := List.lt_irrefl _; simp [this, h]
   · rw [if_pos h2, b6l]; exact ⟨fun h3 => .inr ⟨h1, h3⟩, fun h3 => h3.elim (fun h4 => by omega) (·.2)⟩
 · rw [if_pos h]; have : a.1 ≠ b.1 := fun e => h (a4b.2 e)
   simp [this]
theorem b7G (a : Chg) : ltM a a = false := by
 rw [Bool.eq_false_iff, ne_eq, a9H]; rintro (h | ⟨_, h⟩)
 · rw [a4b.2 rfl] at h; omega
 · exact List.lt_irrefl _ h
theorem c2p {a b c : Chg} (h1 : ltM a b = true) (h2 : ltM b c = true) : ltM a c = true := by
 rw [a9H] at *; rcases h1 with h1 | ⟨h1, h3⟩ <;> rcases h2 with h2 | ⟨h2, h4⟩
 · exact .inl (b8Y h1 h2)
 · rw [h2] at h1; exact .inl h1
 · rw [← h1] at h2; exact .inl h2
 · exact .inr ⟨h1.trans h2, List.lt_trans h3 h4⟩
theorem c6D {a b : Chg} (ha : I1 a = 0) (hb : I1 b = 0) (h1 : ltM a b = false) (h2 : ltM b a = false) : a = b := by
 have h1' : ¬ (X2 a.1 b.1 < 0 ∨ (a.1 = b.1 ∧ (H9 a).1 < (H9 b).1)) := fun h => by rw [← a9H, h1] at h; cases h
 have h2' : ¬ (X2 b.1 a.1 < 0 ∨ (b.1 = a.1 ∧ (H9 b).1 < (H9 a).1)) := fun h => by rw [← a9H, h2] at h; cases h
 have h3 := c2B a.1 b.1; have h4 : X2 a.1 b.1 = 0 := by
   simp only [not_or] at h1' h2'; omega
 have h5 := a4b.1 h4; have h6 : (H9 a).1 = (H9 b).1 := a2U (fun h => h1' (.inr ⟨h5, h⟩)) (fun h => h2' (.inr ⟨h5.symm, h⟩)); rw [a8Z ha, a8Z hb] at h6; exact c1y ha hb h6
theorem c5c {c : Chg} (h : I1 c = 0) : opC c ≠ 0 := by
 have := (a1K.1 h).op1
 show c.2.1 ≠ 0
 omega
def a0I (L : List Chg) : Chg := L.foldl O6 M6
theorem a5y (L : List Chg) (c : Chg) : a0I (L ++ [c]) = O6 (a0I L) c := by simp [a0I]
theorem b4j {L : List Chg} (h : ∀ c ∈ L, I1 c = 0) : (L = [] ∧ a0I L = M6) ∨ (a0I L ∈ L ∧ ∀ c ∈ L, ltM (a0I L) c = false) := by
 have key : ∀ L : List Chg, (∀ c ∈ L, I1 c = 0) → (L = [] ∧ a0I L = M6) ∨ (a0I L ∈ L ∧ ∀ c ∈ L, ltM (a0I L) c = false) := fun L => by
   refine V0 (P := fun L => (∀ c ∈ L, I1 c = 0) → (L = [] ∧ a0I L = M6) ∨ (a0I L ∈ L ∧ ∀ c ∈ L, ltM (a0I L) c = false)) (fun _ => .inl ⟨rfl, rfl⟩) (fun L c ih h => ?_) L; have hc := h c (by simp); refine .inr ?_; rw [a5y]; rcases ih (fun x hx => h x (by simp [hx])) with ⟨rfl, e⟩ | ⟨h1, h2⟩
   · rw [e]; have : O6 M6 c = c := by unfold O6; rw [if_pos (.inl rfl)]
     rw [this]; refine ⟨by simp, fun x hx => ?_⟩; simp only [nil_append, mem_singleton] at hx; rw [hx, b7G]
   · have hm := h _ (mem_append.2 (.inl h1)); unfold O6; by_cases hlt : ltM (a0I L) c = true
     · rw [if_pos (.inr ⟨c5c hc, hlt⟩)]; refine ⟨by simp, fun x hx => ?_⟩; rcases mem_append.1 hx with hx | hx
       · rw [Bool.eq_false_iff]; intro hq; have := c2p hlt hq; rw [h2 x hx] at this; cases this
       · rw [mem_singleton.1 hx, b7G]
     · rw [if_neg (by
         rintro (h5 | ⟨_, h5⟩)
         · exact c5c hm h5
         · exact hlt h5)]
       refine ⟨by simp [h1], fun x hx => ?_⟩; rcases mem_append.1 hx with hx | hx
       · exact h2 x hx
       · rw [mem_singleton.1 hx]; simpa using hlt
 exact key L h
theorem b5z {L M : List Chg} (h : ∀ c ∈ L, I1 c = 0) (hLM : ∀ c, c ∈ L ↔ c ∈ M) : a0I L = a0I M := by
 have h' : ∀ c ∈ M, I1 c = 0 := fun c hc => h c ((hLM c).2 hc)
 rcases b4j h with ⟨rfl, e1⟩ | ⟨h1, h2⟩ <;> rcases b4j h' with ⟨rfl, e2⟩ | ⟨h3, h4⟩
 · rw [e1]
 · exact absurd ((hLM _).2 h3) (by simp)
 · exact absurd ((hLM _).1 h1) (by simp)
 · exact c6D (h _ h1) (h' _ h3) (h2 _ ((hLM _).2 h3)) (h4 _ ((hLM _).1 h1))
def b2r (R : List Chg) (id : Str) : List Chg := R.filter fun c => decide (idC c = id) && F6 (opC c)
def U8 (R : List Chg) (id : Str) (k : VK) : List Chg := R.filter fun c => decide (idC c = id) && (F1 (opC c) && decide (a0C c = k))
theorem c3o {c : Chg} (h : I1 c = 0) : opC c = 1 ∨ opC c = 2 ∨ opC c = 3 ∨ opC c = 4 ∨ opC c = 5 := by
 have h1 := (a1K.1 h).op1; have h2 := (a1K.1 h).op5
 show c.2.1 = 1 ∨ c.2.1 = 2 ∨ c.2.1 = 3 ∨ c.2.1 = 4 ∨ c.2.1 = 5
 omega
theorem c1O (R : List Chg) (id : Str) : (abF R id).cr = R.any fun c => decide (idC c = id) && decide (opC c = 1) := by
 refine V0 (P := fun R => (abF R id).cr = R.any fun c => decide (idC c = id) && decide (opC c = 1)) rfl (fun R c ih => ?_) R; rw [a0T, any_append, ← ih]; by_cases h : idC c = id
 · rw [if_pos h]; unfold O9; by_cases h1 : opC c = 1
   · simp [h, h1]
   · rw [if_neg h1]; simp only [h1, decide_false, Bool.and_false, any_cons, any_nil, Bool.or_false]
     (repeat' split) <;> rfl
 · rw [if_neg h]; simp [h]
theorem c1g (R : List Chg) (id : Str) : (abF R id).rm = R.any fun c => decide (idC c = id) && decide (opC c = 2) := by
 refine V0 (P := fun R => (abF R id).rm = R.any fun c => decide (idC c = id) && decide (opC c = 2)) rfl (fun R c ih => ?_) R; rw [a0T, any_append, ← ih]; by_cases h : idC c = id
 · rw [if_pos h]; unfold O9; by_cases h1 : opC c = 1
   · simp [h, h1]
   · by_cases h3 : opC c = 3
     · simp [h, h3]
     · by_cases h2 : opC c = 2
       · simp [h, h2]
       · simp [h, h1, h2, h3]
 · rw [if_neg h]; simp [h]
theorem c0F (R : List Chg) (id : Str) : (abF R id).nm = a0I (b2r R id) := by
 refine V0 (P := fun R => (abF R id).nm = a0I (b2r R id)) rfl (fun R c ih => ?_) R; rw [a0T]; unfold b2r at ih ⊢; rw [filter_append]; by_cases h : idC c = id
 · rw [if_pos h]; unfold O9; by_cases h1 : opC c = 1
   · rw [if_pos h1]; simp only [filter_cons, h, h1, F6, decide_true, Bool.true_or, Bool.and_self, if_true, filter_nil, a5y, ih]
   · rw [if_neg h1]; by_cases h3 : opC c = 3
     · rw [if_pos h3]; simp only [filter_cons, h, h3, F6, decide_true, Bool.or_true, Bool.and_self, if_true, filter_nil, a5y, ih]
     · rw [if_neg h3]; have : F6 (opC c) = false := (by simp [F6, h1, h3]); simp only [filter_cons, h, this, Bool.and_false, Bool.false_eq_true, if_false, filter_nil, append_nil]; split <;> exact ih
 · rw [if_neg h]; simp only [filter_cons, h, decide_false, Bool.false_and, Bool.false_eq_true, if_false, filter_nil, append_nil]; exact ih
theorem b9y (vs : List (VK × Chg)) (k k' : VK) (c : Chg) : a1c (a4j vs k c) k' = if k = k' then some c else a1c vs k' := by
 unfold a1c a4j; by_cases ha : vs.any (fun p => decide (p.1 = k)) = true
 · rw [if_pos ha]; have key : ∀ vs : List (VK × Chg), ((vs.map fun p => if p.1 = k then (p.1, c) else p).find? fun p => decide (p.1 = k')) = (vs.find? fun p => decide (p.1 = k')).map fun p => if p.1 = k then (p.1, c) else p := by
     intro vs
     induction vs with
     | nil => rfl
     | cons p vs ih =>
       rw [map_cons, find?_cons, find?_cons]; by_cases h : p.1 = k
       · rw [if_pos h]; by_cases h2 : p.1 = k'
         · simp only [decide_eq_true h2, Option.map_some, if_pos h]
         · simp only [decide_eq_false h2]; exact ih
       · rw [if_neg h]; by_cases h2 : p.1 = k'
         · simp only [decide_eq_true h2, Option.map_some, if_neg h]
         · simp only [decide_eq_false h2]; exact ih
   rw [key]; by_cases h : k = k'
   · rw [if_pos h]; obtain ⟨p, hp, e⟩ := any_eq_true.1 ha; cases hf : vs.find? fun p => decide (p.1 = k') with
     | none => exact absurd (by rw [← h]; exact e) (find?_eq_none.1 hf p hp)
     | some q =>
       have : q.1 = k' := by simpa using find?_some hf
       simp [this, h]
   · rw [if_neg h]; cases hf : vs.find? fun p => decide (p.1 = k') with
     | none => rfl
     | some q =>
       have hq : q.1 = k' := by simpa using find?_some hf
       have : ¬ q.1 = k := fun e => h (e.symm.trans hq)
       simp [this]
 · rw [if_neg ha, find?_append]; by_cases h : k = k'
   · subst h; rw [if_pos rfl]; have : vs.find? (fun p => decide (p.1 = k)) = none := by
       rw [find?_eq_none]; intro p hp hq; exact ha (any_eq_true.2 ⟨p, hp, hq⟩)
     simp [this]
   · rw [if_neg h]; have : find? (fun p : VK × Chg => decide (p.1 = k')) [(k, c)] = none := by simp [h]
     simp [this]
theorem c1D {R : List Chg} (hR : ∀ c ∈ R, I1 c = 0) (id : Str) (k : VK) : a1c (abF R id).vs k = if U8 R id k = [] then none else some (a0I (U8 R id k)) := by
 have key : ∀ R : List Chg, (∀ c ∈ R, I1 c = 0) → a1c (abF R id).vs k = if U8 R id k = [] then none else some (a0I (U8 R id k)) := fun R => by
   refine V0 (P := fun R => (∀ c ∈ R, I1 c = 0) → a1c (abF R id).vs k = if U8 R id k = [] then none else some (a0I (U8 R id k))) (fun _ => rfl) (fun R c ih h => ?_) R; have ih := ih fun x hx => h x (by simp [hx])
   have hc := h c (by simp); rw [a0T]; have hsn : U8 (R ++ [c]) id k = U8 R id k ++ (if idC c = id ∧ (F1 (opC c) = true ∧ a0C c = k) then [c] else []) := by
     unfold U8; rw [filter_append]; congr 1
     by_cases h1 : idC c = id <;> by_cases h2 : F1 (opC c) = true <;> by_cases h3 : a0C c = k <;> simp [h1, h2, h3]
   by_cases hid : idC c = id
   · rw [if_pos hid]; have hops := c3o hc; unfold O9; by_cases h1 : opC c = 1
     · rw [if_neg (by simp [F1, h1]), append_nil] at hsn; rw [if_pos h1, hsn]; exact ih
     · rw [if_neg h1]; by_cases h3 : opC c = 3
       · rw [if_neg (by simp [F1, h3]), append_nil] at hsn; rw [if_pos h3, hsn]; exact ih
       · rw [if_neg h3]; by_cases h2 : opC c = 2
         · rw [if_neg (by simp [F1, h2]), append_nil] at hsn; rw [if_pos h2, hsn]; exact ih
         · rw [if_neg h2]; have hv : F1 (opC c) = true := by simp only [F1, Bool.or_eq_true, decide_eq_true_eq]; omega
           simp only [b9y]; by_cases hk : a0C c = k
           · rw [if_pos ⟨hid, hv, hk⟩] at hsn; rw [if_pos hk, hsn, if_neg (by simp), a5y]; congr 1
             unfold a0Y; rw [hk, ih]; split
             · rename_i e; rw [e]; rfl
             · rfl
           · rw [if_neg (by simp [hk]), append_nil] at hsn; rw [if_neg hk, hsn]; exact ih
   · rw [if_neg (by simp [hid]), append_nil] at hsn; rw [if_neg hid, hsn]; exact ih
 exact key R hR
structure AbE (a b : Abt) : Prop where
 cr : a.cr = b.cr
 rm : a.rm = b.rm
 nm : a.nm = b.nm
 vs : Perm a.vs b.vs
theorem b3I {vs : List (VK × Chg)} (hn : (vs.map (·.1)).Nodup) {k : VK} {c : Chg} : a1c vs k = some c ↔ (k, c) ∈ vs := by
 unfold a1c; constructor
 · intro h; cases hf : vs.find? fun p => decide (p.1 = k) with
   | none => rw [hf] at h; cases h
   | some q =>
     rw [hf] at h; have hq : q.1 = k := by simpa using find?_some hf
     simp only [Option.map_some, Option.some.injEq] at h; have := mem_of_find?_eq_some hf; rw [← hq, ← h]; exact this
 · intro h; cases hf : vs.find? fun p => decide (p.1 = k) with
   | none => exact absurd (by simp) (find?_eq_none.1 hf _ h)
   | some q =>
     have hq : q.1 = k := by simpa using find?_some hf
     have := c7b hn (mem_of_find?_eq_some hf) h hq; rw [this]; rfl
theorem c5k {R1 R2 : List Chg} (h1 : ∀ c ∈ R1, I1 c = 0) (hm : ∀ c, c ∈ R1 ↔ c ∈ R2) (id : Str) : AbE (abF R1 id) (abF R2 id) := by
 have h2 : ∀ c ∈ R2, I1 c = 0 := fun c hc => h1 c ((hm c).2 hc)
 have hany : ∀ f : Chg → Bool, R1.any f = R2.any f := fun f => by
   rw [Bool.eq_iff_iff, any_eq_true, any_eq_true]; exact ⟨fun ⟨c, hc, e⟩ => ⟨c, (hm c).1 hc, e⟩, fun ⟨c, hc, e⟩ => ⟨c, (hm c).2 hc, e⟩⟩
 refine ⟨by rw [c1O, c1O, hany], by rw [c1g, c1g, hany], ?_, ?_⟩
 · rw [c0F, c0F]; refine b5z (fun c hc => h1 c ((mem_filter.1 hc).1)) fun c => ?_
   simp only [b2r, mem_filter, hm]
 · refine (perm_ext_iff_of_nodup (a9G (a3W R1 id)) (a9G (a3W R2 id))).2 fun p => ?_
   obtain ⟨k, c⟩ := p; rw [← b3I (a3W R1 id), ← b3I (a3W R2 id), c1D h1, c1D h2]; have hv : ∀ x, x ∈ U8 R1 id k ↔ x ∈ U8 R2 id k := fun x => by simp only [U8, mem_filter, hm]
   have he : U8 R1 id k = [] ↔ U8 R2 id k = [] := by
     rw [eq_nil_iff_forall_not_mem, eq_nil_iff_forall_not_mem]; simp only [hv]
   have hmx := b5z (L := U8 R1 id k) (fun c hc => h1 c (mem_filter.1 hc).1) hv; rw [hmx]; simp only [he]
theorem b6s {R1 R2 : List Chg} (h1 : ∀ c ∈ R1, I1 c = 0) (hm : ∀ c, c ∈ R1 ↔ c ∈ R2) : b4M R1 R2 := by
 have hA := c5k h1 hm; have hown : N1 R1 = N1 R2 := by funext id; unfold N1; rw [(hA id).nm]
 have hat : a2d R1 = a2d R2 := by funext id; exact a8z (hA id).vs
 have hlive : C0 R1 = C0 R2 := by
   refine a9k (b1e R1) (b1e R2) fun id => ?_
   rw [a5u, a5u]; refine and_congr ⟨fun ⟨c, hc, e⟩ => ⟨c, (hm c).1 hc, e⟩, fun ⟨c, hc, e⟩ => ⟨c, (hm c).2 hc, e⟩⟩ ?_; unfold a2W; rw [(hA id).cr, (hA id).rm]
 have hot : P2 R1 = P2 R2 := by funext l; unfold P2; rw [hown]
 have hob : Z8 R1 = Z8 R2 := by funext id; unfold Z8; rw [hot, hlive, hown]
 have hsh : G6 R1 = G6 R2 := by funext id; unfold G6; rw [hob, hown]
 have hord : I8 R1 = I8 R2 := by unfold I8; rw [hsh, hlive]
 have hpar : a1V R1 = a1V R2 := by funext id; unfold a1V; rw [hsh]
 have hq : a9Q R1 = a9Q R2 := by funext X id; unfold a9Q; rw [hpar]
 have hst : a1L R1 = a1L R2 := by funext p id; unfold a1L; rw [hq, hsh]
 refine ⟨hlive, by unfold a0B; rw [hlive, hob], by unfold a0x V6; rw [hst, hord], ?_, fun id => by unfold S1; rw [hlive, hsh, hat]⟩; unfold a0k; rw [hord]; refine map_congr_left fun id _ => ?_
 unfold a2i; rw [hsh, hat]
end Go.Proofs.Tz