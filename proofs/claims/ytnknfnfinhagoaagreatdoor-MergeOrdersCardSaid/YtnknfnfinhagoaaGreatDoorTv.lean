/-
  What the functions that the statements about merged states reach compute, part 5 of 6, for data of bounded size (each theorem states its bound).
-/import Derived.Test.YtnknfnfinhagoaaGreatDoorTu
import Derived.Test.YtnknfnfinhagoaaGreatDoorWo
import Derived.Test.YtnknfnfinhagoaaGreatDoorTr
import Derived.Test.YtnknfnfinhagoaaGreatDoorWp
import Derived.Shelf.SlSortCmp.NoneTotal
import Derived.Test.YtnknfnfinhagoaaGreatDoorTt
import Derived.Test.YtnknfnfinhagoaaGreatDoorTs
import Derived.MakeChecks
open List
open Go.Proofs.Tryz
set_option linter.unusedSimpArgs false
set_option linter.unusedVariables false
set_option maxRecDepth 100000
set_option maxHeartbeats 8000000
namespace Go.Proofs.Tz
open Go.Vw Go.RowKit Go.Proofs Go.Sort
def Z6 (R : List Chg) (id : Str) : Bool := decide (K9 (O5 R (B9 R)) (M8 R id) = some id)
def G9 (R : List Chg) (id : Str) : Str := if Z6 R id then M8 R id else b0x (M8 R id) id
def a2h (R : List Chg) : SM := (B9 R).map fun id => (id, G9 R id)
def smD (g : Nat) (N : SM) (bs : List Nat) (clk : Nat) : D := .map (.map (some g)) (N.map fun p => .str p.1) (N.map fun p => .str p.2) bs clk
theorem b5E (m : SM) : (O6 m).map (·.1) = m.map fun p => D.str p.1 := by simp [O6, Function.comp_def]
theorem c3x (m : SM) : (O6 m).map (·.2) = m.map fun p => D.str p.2 := by simp [O6, Function.comp_def]
theorem c3D (m : SM) : (m.map fun p => D.str p.1).zip (m.map fun p => D.str p.2) = O6 m := by
 induction m with
 | nil => rfl
 | cons p m ih => simp only [map_cons, zip_cons_cons, ih, O6]
theorem c7e {f : FuncId} {args : List AV} {m : SM} (h : H5 prog f args [] (fun r hs' => ∃ g, r = .d (.raw (.map (some g))) ∧ hs' = [.hm (.map (some g)) 9 (O6 m) none])) :
   H5 prog f args [] (fun r hs' => hs' = [] ∧ ∃ g N bs clk, Perm N m ∧ r = .d (smD g N bs clk)) := by
 refine h.frzMap ?_; rintro r hs' ⟨g, rfl, rfl⟩; refine ⟨g, 9, O6 m, rfl, rfl, fun m' bs clk hp => ?_⟩; obtain ⟨N, n1, n2⟩ := a2L hp rfl; refine ⟨rfl, g, N, bs, clk, n1, ?_⟩; have e : m' = O6 N := n2.symm; rw [e, b5E, c3x]; rfl
theorem b1g {m N : SM} (h : Perm N m) (hn : (m.map (·.1)).Nodup) (k : Str) : K9 N k = K9 m k := by
 have e1 : M5 (O6 N) (.str k) = M5 (O6 m) (.str k) := b4o (P := prog) (kt := 9) (h.map _) (by
   show ((O6 m).map (·.1)).Nodup
   rw [b5E]; have : (m.map fun p => D.str p.1) = (m.map (·.1)).map .str := by simp [Function.comp_def]
   rw [this]; exact (pairwise_map).2 (hn.imp fun hab e => hab (by simpa using e))) (G1 k)
 rw [a3N, a3N] at e1; cases h1 : K9 N k <;> cases h2 : K9 m k <;> rw [h1, h2] at e1 <;> simp at e1 <;> simp [e1]
theorem c1e {m : SM} {k v v' : Str} (h : K9 m k = none) : S1 (O6 (m ++ [(k, v)])) (.str k) (.str v') = O6 (m ++ [(k, v')]) := by
 have hne : ∀ p ∈ m, ¬ p.1 = k := by
   simp only [K9, Option.map_eq_none_iff, find?_eq_none] at h; intro p hp; simpa using h p hp
 unfold S1; rw [if_pos (by simp [O6, L9])]; simp only [O6, map_append, map_map, map_cons, map_nil]; congr 1
 · refine map_congr_left fun p hp => ?_
   simp [L9, hne p hp]
 · simp [L9]
theorem a7g {m : SM} {k : Str} : K9 m k = none ↔ ∀ p ∈ m, p.1 ≠ k := by
 simp [K9, find?_eq_none]
theorem b0h (R : List Chg) : SS (B9 R) := by
 have h1 : (B9 R).Pairwise fun x y => ¬ y < x := a8u (a3s R)
 have h2 : (B9 R).Nodup := (mergeSort_perm _ _).nodup_iff.2 (Nodup.sublist (filter_sublist.map _) (a4j R)); exact (Pairwise.and h1 h2).imp fun {a b} h => (Classical.byContradiction fun hn => h.2 (a2T hn h.1))
theorem a2b (R : List Chg) : (B9 R).Nodup := (b0h R).nodup
structure d6K (R : List Chg) : Prop where
 ok : ∀ c ∈ R, F4 c = 0
 few : R.length ≤ 4096
structure b5v (own id : Str) : Prop where
 parse : (E8 own).1 ≠ []
 own : length own < 900000
 short : length id < 200
 ne : id ≠ []
def a3D (R : List Chg) (l : List Str) : SM := l.map fun id => (id, G9 R id)
theorem b9G (R : List Chg) (l : List Str) (id : Str) : a3D R (l ++ [id]) = a3D R l ++ [(id, G9 R id)] := by simp [a3D]
theorem b8A {R : List Chg} {l : List Str} {id : Str} (h : id ∉ l) : K9 (a3D R l) id = none := by
 rw [a7g]; intro p hp; obtain ⟨x, hx, rfl⟩ := mem_map.1 hp; rintro rfl; exact h hx
def DiI (R : List Chg) (sd : D) (g g2 : Nat) (k : Nat) (τ : St) : Prop := τ 0 = .d sd ∧ τ 3 = .d (.raw (.map (some g))) ∧ τ 4 = .d (.raw (.map (some g2))) ∧ τ 12 = .own false 9 ((B9 R).map .str) ∧ τ 13 = .d (.int .i64 (B9 R).length) ∧ τ 14 = .d (.int .i64 k) ∧
 τ 1000000 = .hm (.map (some g)) 9 (O6 (O5 R (B9 R))) none ∧ τ 1000001 = .hm (.map (some g2)) 9 (O6 (a3D R ((B9 R).take k))) none
theorem b6F (R : List Chg) (d : D) (hd : StD R d) (hl : (S9 R).length < 100000) (hN : ∀ id ∈ B9 R, b5v (M8 R id) id) : H5 prog 42 [.d d] [] (fun r hs' => ∃ g, r = .d (.raw (.map (some g))) ∧ hs' = [.hm (.map (some g)) 9 (O6 (a2h R)) none]) := by
 obtain ⟨u1, R1, bs1, c1, u2, M, bs2, c2, rfl, hR1, hM⟩ := hd.open; have hll := a0K R; have hlv := a3m R _ hd hl; have how := b4c R _ hd hl; refine a1P (fun i => i == 5000009) (by kernel_rfl) func42 (by kernel_rfl) rfl rfl (nbl rfl) (by kernel_rfl) rfl ?_; simp -implicitDefEqProofs [A7]; refine M9 [] 1000000 how rfl rfl (by simp) ?_; rintro r hs' ⟨g, rfl, rfl⟩; simp -implicitDefEqProofs [A7, D2, C6]; refine b0U 9 1000001 (by simp [A7]) (fun g2 => ?_); simp -implicitDefEqProofs [A7]; refine A3 hlv ?_; simp -implicitDefEqProofs [A7]; obtain ⟨sd, hsd⟩ : ∃ sd, V8 u1 R1 bs1 c1 u2 M bs2 c2 = sd := ⟨_, rfl⟩; refine G7 (B9 R).length (DiI R sd g g2) ⟨by simp [A7, ← hsd], by simp [A7], by simp [A7], by simp [A7], by simp [A7], by simp [A7], by simp [A7], by simp [A7, a3D, O6]⟩ ?_; rintro k τ hk ⟨g0, g3, g4, g12, g13, g14, gA, gB⟩; by_cases hlt : k < (B9 R).length
 · have hlt' : (k : Int) < (B9 R).length := (by omega); obtain ⟨id, hid⟩ : ∃ id, (B9 R)[k] = id := ⟨_, rfl⟩; have hin : id ∈ B9 R := by rw [← hid]; exact gmm _
   obtain ⟨d, hg1, hab⟩ := hM.live hin; obtain ⟨u, V, bs, clk, hd1, hV⟩ := hab; have htk : (B9 R).take (k + 1) = (B9 R).take k ++ [id] := by rw [F6 hlt, hid]
   have hsn := b9G R ((B9 R).take k) id; rw [← htk] at hsn; have hnew : K9 (a3D R ((B9 R).take k)) id = none := b8A fun hm => by
     have := a2b R; rw [← take_append_drop k (B9 R), nodup_append] at this; exact this.2.2 id hm id (by rw [drop_eq_getElem_cons hlt, hid]; simp) rfl
   have chg_eq : A6 (abF R id).nm = .agg [B0 (abF R id).nm.1, .int .i64 (abF R id).nm.2.1, .str (abF R id).nm.2.2.1, .str (M8 R id), .str (abF R id).nm.2.2.2.2.1, .str (abF R id).nm.2.2.2.2.2] := rfl; have hmg := a3N (O5 R (B9 R)) (M8 R id); have hsh : G9 R id = if Z6 R id then M8 R id else b0x (M8 R id) id := rfl
   have hob : Z6 R id = decide (K9 (O5 R (B9 R)) (M8 R id) = some id) := rfl; have hn := hN id hin; have hot := c2x (M8 R id) id hn.own hn.short hn.parse; have hlk : ∃ r w, M5 (O6 (O5 R (B9 R))) (.str (M8 R id)) = r ∧ a0z false (.str []) r = .d (.str w) ∧ (decide (w = id) = Z6 R id) := by
     rw [hmg, hob]; cases h : K9 (O5 R (B9 R)) (M8 R id) with
     | none => exact ⟨none, [], rfl, rfl, by simp [Ne.symm hn.ne]⟩
     | some v => exact ⟨some (.str v), v, rfl, rfl, by simp⟩
   obtain ⟨r, w, hr1, hr2, hr3⟩ := hlk; rw [← a7b] at hg1; rw [hd1] at hg1; generalize b0x (M8 R id) id = OT at *; rcases Classical.em (w = id) with hw | hw
   all_goals
     simp -implicitDefEqProofs [g0, g3, g4, g12, g13, g14, ← hsd, V8, hlt, hlt', hid]; refine a0j a4k (G1 _) (a5n M) Tryz.zd_75 hg1 ?_; simp -implicitDefEqProofs [g0, g3, g4, g12, g13, g14, P5, chg_eq, A9]; refine a6M (m := O6 (a3D R ((B9 R).take k))) (E := none) 1000001 Y1 (by simp [gB]) (G1 _) _ (Perm.refl _) ?_; rw [a7y hnew]; simp -implicitDefEqProofs [g0, g3, g4, g12, g13, g14]; refine a1m (m := O6 (O5 R (B9 R))) (E := none) 1000000 (by omega) Y1 (by simp [gA]) (G1 _) Tryz.zd_9 hr1 ?_; rw [hr2]
   · have hb : Z6 R id = true := by rw [← hr3]; simpa using hw
     rw [hb, if_pos rfl] at hsh; simp -implicitDefEqProofs [g0, g3, g4, g12, g13, g14, hw]; (repeat refine ai (by omega) ?_); exact D5 hlt ⟨by simp [g0, ← hsd, V8], by simp [g3], by simp [g4], by simp [g12], by simp [g13], by simp, by simp [gA], by simp [hsn, hsh]⟩
   · have hb : Z6 R id = false := by rw [← hr3]; simpa using hw
     rw [hb] at hsh; simp only [Bool.false_eq_true, if_false] at hsh; simp -implicitDefEqProofs [g0, g3, g4, g12, g13, g14, hw]; refine A3 hot ?_; simp -implicitDefEqProofs [g0, g3, g4, g12, g13, g14, hw]; refine a6M (m := O6 (a3D R ((B9 R).take k) ++ [(id, M8 R id)])) (E := none) 1000001 Y1 (by simp) (G1 _) _ (Perm.refl _) ?_; rw [c1e hnew]; simp -implicitDefEqProofs [g0, g3, g4, g12, g13, g14]; (repeat refine ai (by omega) ?_); exact D5 hlt ⟨by simp [g0, ← hsd, V8], by simp [g3], by simp [g4], by simp [g12], by simp [g13], by simp, by simp [gA], by simp [hsn, hsh]⟩
 · have hlt' : ¬ (k : Int) < (B9 R).length := (by omega); rw [ttl (by omega)] at gB; simp -implicitDefEqProofs [g0, g3, g4, g12, g13, g14, hlt, hlt']; exact ⟨_, [1000001], by simp, by simp [gB, isH], by simp [a1Z], g2, rfl, by simp [gB, a2h, a3D]⟩
structure a0y (R : List Chg) : Prop where
 few : (S9 R).length < 5000
 name : ∀ id ∈ B9 R, b5v (M8 R id) id
 vals : ∀ id, (abF R id).vs.length < 5000 ∧ ∀ p ∈ (abF R id).vs, length p.1.1 < 900000 ∧ length p.1.2 < 900000
theorem a0y.lt {R : List Chg} (h : a0y R) : (S9 R).length < 100000 := by have := h.few; omega
theorem b8z (R : List Chg) (d : D) (hd : StD R d) (hG : a0y R) : H5 prog 63 [.d d] [] (fun r hs' => hs' = [] ∧ ∃ g N bs clk, Perm N (O5 R (B9 R)) ∧ r = .d (smD g N bs clk)) := c7e (b4c R d hd hG.lt)
theorem a2i (R : List Chg) (d : D) (hd : StD R d) (hG : a0y R) : H5 prog 42 [.d d] [] (fun r hs' => hs' = [] ∧ ∃ g N bs clk, Perm N (a2h R) ∧ r = .d (smD g N bs clk)) := c7e (b6F R d hd hG.lt hG.name)
theorem a5D (R : List Chg) : (a2h R).map (·.1) = B9 R := by simp [a2h, Function.comp_def]
theorem a3o {R : List Chg} {N : SM} (hN : Perm N (a2h R)) (id : Str) : K9 N id = if id ∈ B9 R then some (G9 R id) else none := by
 rw [b1g hN (by rw [a5D]; exact a2b R)]; by_cases h : id ∈ B9 R
 · rw [if_pos h]; have hn := a2b R; unfold a2h K9; generalize B9 R = l at *
   induction l with
   | nil => simp at h
   | cons x l ih =>
     rw [nodup_cons] at hn; by_cases hx : x = id
     · subst hx; simp
     · rcases mem_cons.1 h with e | h
       · exact absurd e.symm hx
       · have := ih h hn.2; simp only [map_cons, find?_cons, decide_eq_false hx] at this ⊢; exact this
 · rw [if_neg h, a7g]; intro p hp e; exact h (by rw [← a5D, ← e]; exact mem_map.2 ⟨p, hp, rfl⟩)
theorem R4 (N : SM) : ∀ k ∈ N.map (fun p => D.str p.1), E0 prog 9 k = true := by
 intro k hk; obtain ⟨x, _, rfl⟩ := mem_map.1 hk; exact G1 _
theorem a2p (N : SM) (k : Str) : M5 ((N.map fun p => D.str p.1).zip (N.map fun p => D.str p.2)) (.str k) = (K9 N k).map .str := by rw [c3D, a3N]
def a3B (R : List Chg) (n : Str) : Str × Bool := match (B9 R).find? fun id => decide (G9 R id = n) with
 | some id => (id, true)
 | none => ([], false)
def noF (R : List Chg) (n : Str) (k : Nat) : Prop := a3B R n = match ((B9 R).drop k).find? fun id => decide (G9 R id = n) with
 | some id => (id, true)
 | none => ([], false)
theorem c2B (R : List Chg) (n : Str) : noF R n 0 := by simp [noF, a3B]
theorem c5I {R : List Chg} {n : Str} {k : Nat} (h : noF R n k) (hk : k < (B9 R).length) (he : G9 R (B9 R)[k] = n) : a3B R n = ((B9 R)[k], true) := by
 rw [noF, drop_eq_getElem_cons hk, find?_cons_of_pos (by simpa using he)] at h; exact h
theorem c2R {R : List Chg} {n : Str} {k : Nat} (h : noF R n k) (hk : k < (B9 R).length) (he : ¬ G9 R (B9 R)[k] = n) : noF R n (k + 1) := by
 rw [noF, drop_eq_getElem_cons hk, find?_cons_of_neg (by simpa using he)] at h; exact h
theorem c5l {R : List Chg} {n : Str} {k : Nat} (h : noF R n k) (hk : (B9 R).length ≤ k) : a3B R n = ([], false) := by
 rw [noF, drop_eq_nil_of_le hk] at h; exact h
def FnI (R : List Chg) (n : Str) (g : Nat) (N : SM) (bs : List Nat) (clk : Nat) (k : Nat) (τ : St) : Prop := τ 1 = .d (.str n) ∧ τ 6 = .d (smD g N bs clk) ∧ τ 15 = .own false 9 ((B9 R).map .str) ∧ τ 16 = .d (.int .i64 (B9 R).length) ∧ τ 17 = .d (.int .i64 k) ∧ noF R n k
theorem c6m (R : List Chg) (d : D) (n : Str) (hd : StD R d) (hG : a0y R) : Ctr prog 15 [.d d, .d (.str n)] (.tup [.d (.str (a3B R n).1), .d (.bool (a3B R n).2)]) := by
 have hdi := a2i R d hd hG; have hlv := a3m R d hd hG.lt; obtain ⟨u1, R1, bs1, c1, u2, M, bs2, c2, rfl, hR1, hM⟩ := hd.open; have hll := a0K R; have hlt := hG.lt; have hre := a3p u1 R1 bs1 c1 u2 M bs2 c2; obtain ⟨sd, hsd⟩ : ∃ sd, V8 u1 R1 bs1 c1 u2 M bs2 c2 = sd := ⟨_, rfl⟩; rw [hsd] at hdi hlv hre ⊢; refine O0 (rv := .tmp 4) (rs := [.tmp 5]) (r := .d (.str (a3B R n).1)) (ys := [.d (.bool (a3B R n).2)]) (fun i => i == 5000013) (by kernel_rfl) func15 (by kernel_rfl) rfl rfl (by simp) (nbl rfl) (by kernel_rfl) rfl rfl ?_; simp -implicitDefEqProofs; refine A3 hre ?_; simp -implicitDefEqProofs; refine b2v hdi ?_; rintro r hs' ⟨rfl, g, N, bs, clk, hN, rfl⟩; refine ⟨rfl, ?_⟩; simp -implicitDefEqProofs; refine A3 hlv ?_; simp -implicitDefEqProofs; refine G7 (B9 R).length (FnI R n g N bs clk) ⟨by simp, by simp, by simp, by simp, by simp, c2B R n⟩ ?_; rintro k τ hk ⟨g1, g6, g15, g16, g17, gN⟩; rcases Nat.lt_or_ge k (B9 R).length with hlt | hlt
 · have hlt' : (k : Int) < (B9 R).length := (by omega); have hin : (B9 R)[k] ∈ B9 R := gmm _; have hge := a2p N (B9 R)[k]; rw [a3o hN, if_pos hin] at hge; rcases Classical.em (G9 R (B9 R)[k] = n) with he | he
   · rw [c5I gN hlt he]; simp -implicitDefEqProofs [g1, g6, g15, g16, g17, hlt, hlt', smD]; refine a0j Y1 (G1 _) (R4 N) Tryz.zd_9 hge ?_; simp -implicitDefEqProofs [g1, g6, g15, g16, g17, hlt, hlt', smD, he]
   · have hnx := c2R gN hlt he; simp -implicitDefEqProofs [g1, g6, g15, g16, g17, hlt, hlt', smD]; refine a0j Y1 (G1 _) (R4 N) Tryz.zd_9 hge ?_; simp -implicitDefEqProofs [g1, g6, g15, g16, g17, hlt, hlt', smD, he]; exact ⟨by omega, D5 hlt ⟨by simp [g1], by simp [g6, smD], by simp [g15], by simp [g16], by simp, hnx⟩⟩
 · rw [c5l gN hlt]; have hlt' : ¬ (k : Int) < (B9 R).length := (by omega); have hlt'' : ¬ k < (B9 R).length := (by omega); simp -implicitDefEqProofs [g1, g6, g15, g16, g17, hlt', hlt'']
def b9i (p : VK × Chg) : Option Att := if opC p.2 = 4 then some (p.1.1, [p.1.2]) else none
def a0s (vs : List (VK × Chg)) : List Att := vs.filterMap b9i
def a2f (R : List Chg) (id : Str) : List Att := G4 (a0s (abF R id).vs)
def a2q (s : Str) (a : List Att) : D := .agg [.str s, H9 a]
theorem a8p {V W : List (VK × Chg)} (h : Perm V W) : G4 (a0s V) = G4 (a0s W) := by
 refine b1m fun n v => ?_
 have : ∀ a, a ∈ a0s V ↔ a ∈ a0s W := fun a => (h.filterMap b9i).mem_iff
 simp only [b2X, this]
theorem b5P {V : List (VK × Chg)} (h : V.length < 5000) (hs : ∀ p ∈ V, length p.1.1 < 900000 ∧ length p.1.2 < 900000) : a5N (a0s V) := by
 have hlen : (a0s V).length ≤ V.length := length_filterMap_le _ _; have hm : ∀ a ∈ a0s V, length a.1 < 900000 ∧ a.2.length = 1 := fun a ha => by
   obtain ⟨p, hp, e⟩ := mem_filterMap.1 ha; unfold b9i at e; split at e
   · simp only [Option.some.injEq] at e; subst e; exact ⟨(hs p hp).1, rfl⟩
   · cases e
 refine ⟨⟨by omega, fun a ha => ⟨by have := (hm a ha).1; omega, by have := (hm a ha).2; omega⟩⟩, ?_⟩; have : ∀ l : List Att, (∀ a ∈ l, a.2.length = 1) → I4 l = l.length := by
   intro l
   induction l with
   | nil => intro _; rfl
   | cons a l ih =>
     intro h; have := ih fun b hb => h b (by simp [hb])
     simp only [I4, map_cons, sum_cons, length_cons] at this ⊢; rw [this, h a (by simp)]; omega
 rw [this _ fun a ha => (hm a ha).2]; omega
theorem c1Q (vs : List (VK × Chg)) (k : VK) (c : Chg) : (a4c vs k c).map (·.1) = if vs.any (fun p => decide (p.1 = k)) then vs.map (·.1) else vs.map (·.1) ++ [k] := by
 unfold a4c; split
 · rw [map_map]; refine map_congr_left fun p _ => ?_
   simp only [Function.comp_apply]; split <;> rfl
 · simp
theorem b9g {vs : List (VK × Chg)} (hn : (vs.map (·.1)).Nodup) (k : VK) (c : Chg) : ((a4c vs k c).map (·.1)).Nodup := by
 rw [c1Q]; split
 · exact hn
 · rename_i h
   refine nodup_append.2 ⟨hn, by simp, fun x hx z hz => ?_⟩; simp only [mem_singleton] at hz; subst hz; rintro rfl; obtain ⟨p, hp, e⟩ := mem_map.1 hx; exact h (any_eq_true.2 ⟨p, hp, by simpa using e⟩)
theorem a3T (R : List Chg) (id : Str) : ((abF R id).vs.map (·.1)).Nodup := by
 refine U6 (P := fun R => ((abF R id).vs.map (·.1)).Nodup) (by simp [abF, R7]) (fun R c ih => ?_) R; rw [a0S]; split
 · unfold N6; split
   · exact ih
   · split
     · exact ih
     · split
       · exact ih
       · exact b9g ih _ _
 · exact ih
theorem c6E {a b : VK} (h : vkD a = vkD b) : a = b := by
 obtain ⟨a1, a2⟩ := a; obtain ⟨b1, b2⟩ := b; simp only [vkD, D.agg.injEq, List.cons.injEq, D.str.injEq, and_true] at h; rw [h.1, h.2]
structure a5s (V W : List (VK × Chg)) (seen : List D) : Prop where
 eq : seen = W.map fun p => vkD p.1
 nd : W.Nodup
 sub : ∀ p ∈ W, p ∈ V
theorem c8a {V : List (VK × Chg)} (hn : (V.map (·.1)).Nodup) {p q : VK × Chg} (hp : p ∈ V) (hq : q ∈ V) (e : p.1 = q.1) : p = q := by
 obtain ⟨i, hi, e1⟩ := getElem_of_mem hp; obtain ⟨j, hj, e2⟩ := getElem_of_mem hq; have := a8T hn (i := i) (j := j) (by simpa using hi) (by simpa using hj) (by simp [e1, e2, e]); subst this; rw [← e1, ← e2]
theorem a5s.next {V W : List (VK × Chg)} {seen : List D} (h : a5s V W seen) {p : VK × Chg} (hp : p ∈ V) (hn : vkD p.1 ∉ seen) : a5s V (W ++ [p]) (seen ++ [vkD p.1]) := by
 refine ⟨by rw [h.eq]; simp, ?_, fun q hq => ?_⟩
 · refine nodup_append.2 ⟨h.nd, by simp, fun a ha b hb => ?_⟩; simp only [mem_singleton] at hb; subst hb; rintro rfl; exact hn (by rw [h.eq]; exact mem_map.2 ⟨a, ha, rfl⟩)
 · rcases mem_append.1 hq with hq | hq
   · exact h.sub q hq
   · rw [mem_singleton.1 hq]; exact hp
theorem a9w {V : List (VK × Chg)} (hn : (V.map (·.1)).Nodup) : V.Nodup := (pairwise_map.1 hn).imp fun h e => h (by rw [e])
theorem a5s.le {V W : List (VK × Chg)} {seen : List D} (h : a5s V W seen) (hn : (V.map (·.1)).Nodup) : W.length ≤ V.length := by
 have hp : W.Perm (V.filter fun p => decide (p ∈ W)) := (perm_ext_iff_of_nodup h.nd ((a9w hn).filter _)).2 fun p => by
   simp only [mem_filter, decide_eq_true_eq]; exact ⟨fun hs => ⟨h.sub p hs, hs⟩, fun hs => hs.2⟩
 rw [hp.length_eq]; exact length_filter_le _ _
theorem a5s.all {V W : List (VK × Chg)} {seen : List D} (h : a5s V W seen) (hn : (V.map (·.1)).Nodup) (ha : ∀ p ∈ V, vkD p.1 ∈ seen) : Perm W V := by
 have hnv : V.Nodup := a9w hn; refine (perm_ext_iff_of_nodup h.nd hnv).2 fun p => ⟨h.sub p, fun hp => ?_⟩
 have := ha p hp; rw [h.eq] at this; obtain ⟨q, hq, e⟩ := mem_map.1 this; rw [← c8a hn (h.sub q hq) hp (c6E e)]; exact hq
theorem c4R (V : List (VK × Chg)) : (V.map fun p => vkD p.1).zip (V.map fun p => A6 p.2) = V.map fun p => (vkD p.1, A6 p.2) := by
 induction V with
 | nil => rfl
 | cons x V ih => simp only [map_cons, zip_cons_cons, ih]
theorem c3i (a : VK) : H1 (vkD a) (vkD a) = true := by simp [vkD, H1, W6, Z4]
theorem b1P (V : List (VK × Chg)) : ∀ k ∈ V.map (fun p => vkD p.1), H1 k k = true := by
 intro k hk; obtain ⟨x, _, rfl⟩ := mem_map.1 hk; exact c3i _
theorem c2e (c : Chg) : B6 (A6 c) = 8 := rfl
theorem c0D (W : List (VK × Chg)) (p : VK × Chg) : a0s (W ++ [p]) = a0s W ++ (if opC p.2 = 4 then [(p.1.1, [p.1.2])] else []) := by
 simp only [a0s, filterMap_append, filterMap_cons, filterMap_nil, b9i]; split <;> simp_all
def EnI (s : Str) (u : Value) (V : List (VK × Chg)) (bs : List Nat) (clk : Nat) (k : Nat) (τ : St) : Prop := ∃ W seen, a5s V W seen ∧ W.length = k ∧ τ 2 = .d (.str s) ∧ τ 6 = .box (.agg [.str [], .sl []]) ∧ τ 7 = .own false 72 ((a0s W).map att) ∧
 τ 18 = .d (.map u (V.map fun p => vkD p.1) (V.map fun p => A6 p.2) bs clk) ∧ τ 19 = .mit u ((V.map fun p => vkD p.1).zip bs, clk) seen
theorem b5I (R : List Chg) (d : D) (id s : Str) (hd : StD R d) (hG : a0y R) (hin : id ∈ B9 R) : Ctr prog 50 [.d d, .d (.str id), .d (.str s)] (.d (a2q s (a2f R id))) := by
 obtain ⟨u1, R1, bs1, c1, u2, M, bs2, c2, rfl, hR1, hM⟩ := hd.open; obtain ⟨d, hg1, hab⟩ := hM.live hin; obtain ⟨u, V, bs, clk, hd1, hV⟩ := hab; have hvl : V.length < 5000 := by rw [hV.length_eq]; exact (hG.vals id).1
 have hvs : ∀ p ∈ V, length p.1.1 < 900000 ∧ length p.1.2 < 900000 := fun p hp => (hG.vals id).2 p (hV.mem_iff.1 hp)
 rw [← a7b] at hg1; rw [hd1] at hg1; have hat : a2f R id = G4 (a0s V) := (a8p hV).symm; rw [hat]; refine O0 (rv := .cell 6 48) (rs := []) (r := .d (a2q s (G4 (a0s V)))) (ys := []) (fun i => false) (by kernel_rfl) func50 (by kernel_rfl) rfl rfl (by simp) (nbl rfl) (by kernel_rfl) rfl rfl ?_; simp -implicitDefEqProofs [V8]; refine a0j a4k (G1 _) (a5n M) Tryz.zd_75 hg1 ?_; simp -implicitDefEqProofs [P5, c2e]; have hVn : (V.map (·.1)).Nodup := (hV.map _).nodup_iff.2 (a3T R id); refine G7 V.length (EnI s u V bs clk) ⟨[], [], ⟨rfl, nodup_nil, by simp⟩, rfl, by simp, by simp, by simp [a0s], by simp, by simp⟩ ?_; rintro k τ hk ⟨W, seen, hS, hsl, g2, g6, g7, g18, g19⟩; have hle := hS.le hVn; simp -implicitDefEqProofs [g2, g6, g7, g18, g19]; refine c7R (vs := V.map fun p => A6 p.2) 18 (by simp [g18]) (b1P V) (fun x v hm hn => ?_) (fun hall => ?_)
 · have hm2 := hm; rw [c4R] at hm2; obtain ⟨p, hp, e⟩ := mem_map.1 hm2; simp only [Prod.mk.injEq] at e; obtain ⟨rfl, rfl⟩ := e; have hS2 := hS.next hp hn; have hlt : k < V.length := by have := hS2.le hVn; simp at this; omega
   have hsn := c0D W p; have chg_eq : A6 p.2 = .agg [B0 p.2.1, .int .i64 (opC p.2), .str p.2.2.2.1, .str p.2.2.2.2.1, .str p.2.2.2.2.2.1, .str p.2.2.2.2.2.2] := rfl; have vk_eq : vkD p.1 = .agg [.str p.1.1, .str p.1.2] := rfl; have hpl : (a0s W).length ≤ W.length := length_filterMap_le _ _; generalize hT2 : a0s (W ++ [p]) = T2 at *; generalize hT : a0s W = T at *; rcases Classical.em (opC p.2 = 4) with h4 | h4
   all_goals
     simp only [h4, if_true, if_false] at hsn; simp -implicitDefEqProofs [g2, g6, g7, g18, g19]; refine c7Y (vs := V.map fun p => A6 p.2) 18 (by simp [g18]) (b1P V) hm ?_; simp -implicitDefEqProofs [g2, g6, g7, g18, g19, chg_eq, vk_eq, A9, h4]
   · refine ⟨by omega, by omega, D5 hlt ⟨W ++ [p], seen ++ [vkD p.1], hS2, by simp [hsl], by simp [g2], by simp [g6], by simp [hT2, hsn, att, C7], by simp [g18], by simp [vk_eq]⟩⟩
   · exact D5 hlt ⟨W ++ [p], seen ++ [vkD p.1], hS2, by simp [hsl], by simp [g2], by simp [g6], by simp [g7, hT2, hsn], by simp [g18], by simp [vk_eq]⟩
 · have hp : Perm W V := hS.all hVn fun p hp => hall (vkD p.1, A6 p.2) (by rw [c4R]; exact mem_map.2 ⟨p, hp, rfl⟩)
   have hsort := (c1X (a0s W) (b5P (by omega) fun p hp => hvs p (hS.sub p hp))); rw [a8p hp] at hsort; simp only [H9] at hsort; generalize G4 (a0s V) = A at *; generalize a0s W = T at *; simp -implicitDefEqProofs [g2, g6, g7, g18, g19]; refine A3 hsort ?_; simp -implicitDefEqProofs [g2, g6, g7, g18, g19, a2q, H9]
def Q8 (R : List Chg) (id : Str) : (Str × List Att) × Bool := if id ∈ B9 R then ((G9 R id, a2f R id), true) else (([], []), false)
theorem b0a (R : List Chg) (d : D) (id : Str) (hd : StD R d) (hG : a0y R) : Ctr prog 21 [.d d, .d (.str id)] (.tup [.d (a2q (Q8 R id).1.1 (Q8 R id).1.2), .d (.bool (Q8 R id).2)]) := by
 have hdi := a2i R d hd hG; have hen : ∀ s, id ∈ B9 R → _ := fun s h => b5I R d id s hd hG h
 obtain ⟨u1, R1, bs1, c1, u2, M, bs2, c2, rfl, hR1, hM⟩ := hd.open; have hre := a3p u1 R1 bs1 c1 u2 M bs2 c2; obtain ⟨sd, hsd⟩ : ∃ sd, V8 u1 R1 bs1 c1 u2 M bs2 c2 = sd := ⟨_, rfl⟩; rw [hsd] at hdi hre hen ⊢; rcases Classical.em (id ∈ B9 R) with hin | hin
 · have he : Q8 R id = ((G9 R id, a2f R id), true) := (by simp [Q8, hin]); rw [he]; have hen := hen (G9 R id) hin; refine O0 (rv := .cell 4 48) (rs := [.tmp 5]) (r := .d (a2q (G9 R id) (a2f R id))) (ys := [.d (.bool true)]) (fun i => i == 5000014) (by kernel_rfl) func21 (by kernel_rfl) rfl rfl (by simp) (nbl rfl) (by kernel_rfl) rfl rfl ?_; simp -implicitDefEqProofs; refine A3 hre ?_; simp -implicitDefEqProofs; refine b2v hdi ?_; rintro r hs' ⟨rfl, g, N, bs, clk, hN, rfl⟩; have hge := a2p N id; rw [a3o hN, if_pos hin] at hge; refine ⟨rfl, ?_⟩; simp -implicitDefEqProofs [smD]; refine a0j Y1 (G1 _) (R4 N) Tryz.zd_9 hge ?_; simp -implicitDefEqProofs; refine A3 hen ?_; simp -implicitDefEqProofs [a2q, H9]
 · have he : Q8 R id = (([], []), false) := (by simp [Q8, hin]); rw [he]; refine O0 (rv := .cell 4 48) (rs := [.tmp 5]) (r := .d (a2q [] [])) (ys := [.d (.bool false)]) (fun i => i == 5000014) (by kernel_rfl) func21 (by kernel_rfl) rfl rfl (by simp) (nbl rfl) (by kernel_rfl) rfl rfl ?_; simp -implicitDefEqProofs; refine A3 hre ?_; simp -implicitDefEqProofs; refine b2v hdi ?_; rintro r hs' ⟨rfl, g, N, bs, clk, hN, rfl⟩; have hge := a2p N id; rw [a3o hN, if_neg hin] at hge; refine ⟨rfl, ?_⟩; simp -implicitDefEqProofs [smD]; refine a0j Y1 (G1 _) (R4 N) Tryz.zd_9 hge ?_; simp -implicitDefEqProofs [a2q, H9]
theorem b9x (g : FuncId) (cs : List D) (hcs : (cs.all fun c => !c.isAgg) = true) (p : Str → Bool) (l : List Str) (hl : l.length < 1000000) (hp : ∀ a ∈ l, Ctr prog g ([.d (.str a)] ++ cs.map .d) (.d (.bool (p a)))) :
   Ctr prog 64 [.own true 9 (l.map .str), .d (.clo g cs)] (.own true 9 ((l.filter fun x => !p x).map .str)) := by
 refine fv (fun i => i == 2000010) func64 (by kernel_rfl) rfl rfl rfl rfl rfl ?_; simp -implicitDefEqProofs; refine c4Q (c0u g cs hcs p l hl hp) rfl ?_; by_cases hn : a2Y p 0 l = -1
 · simp -implicitDefEqProofs [hn, b6E p l 0 hn]
 · obtain ⟨i, h1, h2, h3, h4⟩ := b5h p l 0 hn; simp only [Nat.zero_add] at h1; have e1 : ¬ ((i : Int) = -1) := (by omega); simp -implicitDefEqProofs [h1, e1]; refine ⟨by omega, ?_⟩; refine b1K (fun n τ => ∃ (j q : Nat) (m : List Str), n = l.length - j ∧ j ≤ l.length ∧ τ 0 = .own true 9 (m.map .str) ∧ τ 1 = .d (.clo g cs) ∧ τ 5 = .d (.int .i64 q) ∧ τ 6 = .d (.int .i64 j) ∧ m.length = l.length ∧ q < j ∧ m.take q = (l.take j).filter (fun x => !p x) ∧ m.drop j = l.drop j)
     (l.length - (i + 1)) ⟨i + 1, i, l, rfl, by omega, by simp, by simp, by simp, by simp, rfl, by omega, h4.symm, rfl⟩ ?_
   rintro n τ ⟨j, q, m, rfl, hj, g0, g1, g5, g6, hm, hq, ht, hd⟩; by_cases hlt : j < l.length
   · have hmj : m[j]'(by omega) = l[j] := by
       have := congrArg (fun x : List Str => x[0]?) hd; simpa [hlt, hm] using this
     have hf := hp _ (gmm hlt); simp only [cons_append, nil_append] at hf; have hlt' : (j : Int) < l.length := (by omega); simp -implicitDefEqProofs [g0, g1, g5, g6, hm, hlt', hlt, hmj]; refine ⟨by simpa using hcs, A3 hf ?_⟩; by_cases he : p l[j] = true
     · simp -implicitDefEqProofs [g0, g1, g5, g6, hm, hlt', hlt, hmj, he]; refine ⟨by omega, _, ?_, j + 1, rfl, by omega, q, m, rfl, rfl, by omega, hm, by omega, ?_, ?_⟩
       · omega
       · rw [F6 hlt, filter_append, ht]; simp [he]
       · rw [← drop_drop, hd, drop_drop]
     · have hq2 : q < m.length := (by omega); have hqq : m[q]? = some m[q] := getElem?_eq_getElem hq2; simp -implicitDefEqProofs [g0, g1, g5, g6, hm, hlt', hlt, hmj, he, hqq]; refine ⟨by omega, by omega, by omega, _, ?_, j + 1, rfl, by omega, q + 1, m.set q l[j], ?_, by simp, by simp, by simpa using hm, by omega, ?_, ?_⟩
       · omega
       · rw [map_set]
       · rw [take_set, F6 hq2, set_append_right _ _ (by simp; omega)]; simp only [length_take, Nat.min_eq_left (Nat.le_of_lt hq2), Nat.sub_self, set_cons_zero]; rw [F6 hlt, filter_append, ht]; simp [he]
       · rw [drop_set_of_lt (by omega), ← drop_drop, hd, drop_drop]
   · simp -implicitDefEqProofs [g0, g1, g5, g6, hm, hlt]; have hjl : j = l.length := (by omega); subst hjl; refine ⟨by omega, by omega, ?_⟩; rw [take_append_of_le_length (by simp; omega), take_take, Nat.min_self, ← map_take, ht, take_length]
def a0x (R : List Chg) : List Str := (B9 R).filter fun id => !Z6 R id
theorem c5B {R : List Chg} {N : SM} (hN : Perm N (O5 R (B9 R))) (k : Str) : K9 N k = K9 (O5 R (B9 R)) k := by
 refine b1g hN ?_ k; have : ∀ l : List Str, ((O5 R l).map (·.1)).Nodup := fun l => U6 (P := fun l => ((O5 R l).map (·.1)).Nodup) (by simp [O5]) (fun l id ih => by
   rw [b3j]; cases h : K9 (O5 R l) (M8 R id) with
   | some v => simpa using ih
   | none =>
     simp only [Option.isSome_none, Bool.false_eq_true, if_false, map_append, map_cons, map_nil]; refine nodup_append.2 ⟨ih, by simp, fun a ha b hb => ?_⟩; simp only [mem_singleton] at hb; subst hb; rintro rfl; obtain ⟨p, hp, e⟩ := mem_map.1 ha; exact a7g.1 h p hp e) l
 exact this _
theorem c3M (R : List Chg) (sd : D) (hd : StD R sd) (id : Str) (hin : id ∈ B9 R) (hne : id ≠ []) (g : Nat) (N : SM) (bs : List Nat) (clk : Nat) (hN : Perm N (O5 R (B9 R))) :
   Ctr prog 65 ([.d (.str id)] ++ [D.ref (smD g N bs clk), D.ref sd].map .d) (.d (.bool (Z6 R id))) := by
 obtain ⟨u1, R1, bs1, c1, u2, M, bs2, c2, rfl, hR1, hM⟩ := hd.open; obtain ⟨d, hg1, hab⟩ := hM.live hin; obtain ⟨u, V, bs', clk', hd1, hV⟩ := hab; have chg_eq : A6 (abF R id).nm = .agg [B0 (abF R id).nm.1, .int .i64 (abF R id).nm.2.1, .str (abF R id).nm.2.2.1, .str (M8 R id), .str (abF R id).nm.2.2.2.2.1, .str (abF R id).nm.2.2.2.2.2] := rfl; rw [← a7b] at hg1; rw [hd1] at hg1; have hmg := a2p N (M8 R id); rw [c5B hN] at hmg; have hob : Z6 R id = decide (K9 (O5 R (B9 R)) (M8 R id) = some id) := rfl; have hlk : ∃ r w, M5 ((N.map fun p => D.str p.1).zip (N.map fun p => D.str p.2)) (.str (M8 R id)) = r ∧ a0z false (.str []) r = .d (.str w) ∧ (decide (w = id) = Z6 R id) := by
   rw [hmg, hob]; cases h : K9 (O5 R (B9 R)) (M8 R id) with
   | none => exact ⟨none, [], rfl, rfl, by simp [Ne.symm hne]⟩
   | some v => exact ⟨some (.str v), v, rfl, rfl, by simp⟩
 obtain ⟨r, w, hr1, hr2, hr3⟩ := hlk; rw [← hr3]; refine fv (fun _ => false) func65 (by kernel_rfl) rfl rfl rfl rfl rfl ?_; simp -implicitDefEqProofs [smD, V8]; refine a0j a4k (G1 _) (a5n M) Tryz.zd_75 hg1 ?_; simp -implicitDefEqProofs [P5, chg_eq, A9]; refine a0j Y1 (G1 _) (R4 N) Tryz.zd_9 hr1 ?_; rw [hr2]; simp -implicitDefEqProofs
theorem a2D (R : List Chg) (d : D) (hd : StD R d) (hG : a0y R) : Ctr prog 28 [.d d] (.own true 9 ((a0x R).map .str)) := by
 have how := b8z R d hd hG; have hlv := a3m R d hd hG.lt; have hq : ∀ id ∈ B9 R, ∀ g N bs clk, Perm N (O5 R (B9 R)) → _ := fun id hin g N bs clk hN => c3M R d hd id hin (hG.name id hin).ne g N bs clk hN
 have hll := a0K R; have hlt := hG.lt; obtain ⟨u1, R1, bs1, c1, u2, M, bs2, c2, rfl, hR1, hM⟩ := hd.open; have hre := a3p u1 R1 bs1 c1 u2 M bs2 c2; obtain ⟨sd, hsd⟩ : ∃ sd, V8 u1 R1 bs1 c1 u2 M bs2 c2 = .ref sd := ⟨_, rfl⟩; rw [hsd] at how hlv hre hq ⊢; refine fv (fun i => i == 5000008 || i == 10 || i == 12 || i == 2) func28 (by kernel_rfl) rfl rfl rfl rfl rfl ?_; simp -implicitDefEqProofs; refine A3 hre ?_; simp -implicitDefEqProofs; refine b2v how ?_; rintro r hs' ⟨rfl, g, N, bs, clk, hN, rfl⟩; refine ⟨rfl, ?_⟩; have hdl := b9x 65 [D.ref (smD g N bs clk), D.ref (.ref sd)] rfl (Z6 R) (B9 R) (by omega) (fun id hid => hq id hid g N bs clk hN); simp -implicitDefEqProofs [smD]; refine A3 hlv ?_; simp -implicitDefEqProofs [smD]; simp only [smD] at hdl; refine A3 hdl ?_; simp -implicitDefEqProofs [a0x]
theorem a7t {s : Str} : L5 s = true ↔ ∃ l, M4 s = some l := by
 unfold L5; rw [Option.isSome_iff_exists]
theorem b5W : M4 [] = some [] := by decide
theorem c5u {s : Str} {l : List G3} (h : M4 s = some l) : s = [] ↔ l = [] := by
 constructor
 · rintro rfl; rw [b5W] at h; simpa using h.symm
 · rintro rfl; exact b3R h b5W
theorem c4b {p : G3} (h : NP p) : (W5 p).length ≤ 577 := by
 obtain ⟨h1, h2⟩ := a6A h; simp only [U1, S3, Bool.and_eq_true, decide_eq_true_eq] at h1 h2; have e1 : (S2 (Y0 p.2)).length ≤ 2 * (Y0 p.2).length := by
   unfold S2; generalize Y0 p.2 = s
   induction s with
   | nil => simp
   | cons c s ih =>
     rw [flatMap_cons, length_append, length_cons]; have : (if X1 c = true then [92, c] else [c]).length ≤ 2 := by split <;> simp
     omega
 have e2 : (Y0 p.2).length ≤ p.2.length := by
   have hq : ∀ (s : Str) (c : UInt8), (sqz c s).length ≤ s.length := by
     intro s
     induction s with
     | nil => intro c; simp [sqz]
     | cons x s ih =>
       intro c; simp only [sqz]; have := ih x; split <;> simp <;> omega
   unfold Y0; have h3 := hq (D9 (J1 p.2)) 0; have h4 : (D9 (J1 p.2)).length = (J1 p.2).length := (by simp [D9]); have h5 : (J1 p.2).length ≤ p.2.length := a2v p.2; omega
 have e3 : (D9 p.1).length = p.1.length := (by simp [D9]); simp only [W5, length_append, length_cons]; omega
theorem c1V {s : Str} (h : L5 s = true) : s.length ≤ 5000 := by
 obtain ⟨l, hl⟩ := a7t.1 h; obtain ⟨h1, h8, hs, _⟩ := a2x hl; have key : ∀ l : List G3, (∀ p ∈ l, NP p) → (D8 44 (l.map W5)).length ≤ l.length * 578 := by
   intro l
   induction l with
   | nil => intro _; simp [D8]
   | cons p l ih =>
     intro h; have hp := c4b (h p (by simp)); have ih := ih (fun q hq => h q (by simp [hq])); cases l with
     | nil => simp [D8]; omega
     | cons q l =>
       simp only [map_cons, D8, length_append, length_cons] at ih ⊢; omega
 have := key l h1; rw [← hs] at this; omega
theorem b7u {s : Str} {p : G3} {l : List G3} (h : M4 s = some (p :: l)) : ∃ t, W8 s = (t, true) ∧ M4 t = some l := by
 have h8 := (a2x h).2.1; have ha := c1M h h (n := l) (fun q hq => .inl (by simp [hq])) (by simp at h8; omega); refine ⟨_, ?_, ha.2⟩; unfold W8; rw [h]; simp only [ha.1]
theorem c0Z {p : G3} (h : V9 p = 0) : (W5 p).length ≤ 577 := by
 unfold V9 at h; split at h
 · cases h
 · split at h
   · cases h
   · rename_i h1 h2
     simp only [Bool.not_eq_false] at h1 h2; simp only [U1, S3, Bool.and_eq_true, decide_eq_true_eq] at h1 h2; have e1 : (S2 (Y0 p.2)).length ≤ 2 * (Y0 p.2).length := by
       unfold S2; generalize Y0 p.2 = s
       induction s with
       | nil => simp
       | cons c s ih =>
         rw [flatMap_cons, length_append, length_cons]; have : (if X1 c = true then [92, c] else [c]).length ≤ 2 := by split <;> simp
         omega
     have e2 : (Y0 p.2).length ≤ p.2.length := by
       have hq : ∀ (s : Str) (c : UInt8), (sqz c s).length ≤ s.length := by
         intro s
         induction s with
         | nil => intro c; simp [sqz]
         | cons x s ih =>
           intro c; simp only [sqz]; have := ih x; split <;> simp <;> omega
       unfold Y0; have h3 := hq (D9 (J1 p.2)) 0; have h4 : (D9 (J1 p.2)).length = (J1 p.2).length := (by simp [D9]); have h5 : (J1 p.2).length ≤ p.2.length := a2v p.2; omega
     have e3 : (D9 p.1).length = p.1.length := (by simp [D9]); simp only [W5, length_append, length_cons]; omega
theorem b6U (l : List G3) : (I2 l).1.length ≤ 5000 := by
 unfold I2; split
 · rename_i h
   unfold a0c at h; split at h
   · rename_i h1
     split at h
     · cases h
     · have h1 := a3E.1 h1; have key : ∀ l : List G3, (∀ p ∈ l, V9 p = 0) → (D8 44 (l.map W5)).length ≤ l.length * 578 := by
         intro l
         induction l with
         | nil => intro _; simp [D8]
         | cons p l ih =>
           intro h; have hp := c0Z (h p (by simp)); have ih := ih (fun q hq => h q (by simp [hq])); cases l with
           | nil => simp [D8]; omega
           | cons q l =>
             simp only [map_cons, D8, length_append, length_cons] at ih ⊢; omega
       have := key l h1; simp only; omega
   · rename_i h1; exact absurd h h1
 · simp
def cfK (key : Str → Str) (a b : Str) : Int := orI [a1k (key a) (key b), a0r a b]
theorem b2w {key : Str → Str} {a b : Str} : cfK key a b < 0 ↔ a1k (key a) (key b) < 0 ∨ (key a = key b ∧ a < b) := by
 unfold cfK orI orI orI; by_cases h : a1k (key a) (key b) = 0
 · rw [if_neg (by simpa using h)]; by_cases h2 : a0r a b = 0
   · rw [if_neg (by simpa using h2)]; have := b3C.1 h2; subst this; simp [h]
   · rw [if_pos h2, b0m]; have := a5j.1 h; simp [this, b3i]
 · rw [if_pos h]; have : key a ≠ key b := fun e => h (a5j.2 e)
   simp [this]
theorem b7D (key : Str → Str) (a : Str) : ¬ cfK key a a < 0 := by
 rw [b2w, b3i]; simp
theorem a7K {key : Str → Str} {a b c : Str} (h1 : cfK key a b < 0) (h2 : cfK key b c < 0) : cfK key a c < 0 := by
 rw [b2w] at *; rcases h1 with h1 | ⟨h1, h3⟩ <;> rcases h2 with h2 | ⟨h2, h4⟩
 · exact .inl (b8Y h1 h2)
 · rw [h2] at h1; exact .inl h1
 · rw [← h1] at h2; exact .inl h2
 · exact .inr ⟨h1.trans h2, a1R h3 h4⟩
theorem b7R {key : Str → Str} {a b : Str} (h1 : ¬ cfK key a b < 0) (h2 : ¬ cfK key b a < 0) : a = b := by
 rw [b2w] at *; have h3 := c0b (key a) (key b); have h4 : a1k (key a) (key b) = 0 := (by omega); have h5 := a5j.1 h4; exact a2T (fun h => h1 (.inr ⟨h5, h⟩)) (fun h => h2 (.inr ⟨h5.symm, h⟩))
theorem b0e (key : Str → Str) : SWO (ltOf (cfK key)) where
 irrefl x := by simpa [ltOf] using b7D key x
 trans x y z h1 h2 := by
   simp only [ltOf, decide_eq_true_eq] at *; exact a7K h1 h2
 ntrans x y z h1 h2 := by
   simp only [ltOf, decide_eq_false_iff_not] at *; intro h3; by_cases h4 : cfK key y x < 0
   · exact h2 (a7K h4 h3)
   · have := b7R h1 h4; subst this; exact h2 h3
def KS (key : Str → Str) (l : List Str) : Prop := l.Pairwise fun a b => cfK key a b < 0
theorem b0o {key : Str → Str} {l : List Str} (hn : l.Nodup) : KS key (G8 (cfK key) l) := by
 obtain ⟨h1, h2⟩ := Q5 (b0e key) l; have hn' : (G8 (cfK key) l).Nodup := h1.nodup_iff.2 hn; refine pairwise_iff_getElem.2 fun i j hi hj hij => ?_
 have h3 := h2 i j hij hj; simp only [ltOf, decide_eq_false_iff_not] at h3; refine Classical.byContradiction fun h4 => ?_
 have := b7R h4 h3; exact (pairwise_iff_getElem.1 hn') i j hi hj hij this
theorem c1o {key : Str → Str} {A B : List Str} (ha : KS key A) (hb : KS key B) (h : A.Perm B) : A = B :=
 h.eq_of_pairwise (fun a b _ _ h1 h2 => absurd (a7K h1 h2) (b7D key a)) ha hb
theorem b4b {key key' : Str → Str} {l m : List Str} (hn : l.Nodup) (hp : l.Perm m) (hk : ∀ a ∈ l, key a = key' a) : G8 (cfK key) l = G8 (cfK key') m := by
 have h1 := (Q5 (b0e key) l).1; have h2 := (Q5 (b0e key') m).1; have h3 : (G8 (cfK key) l).Perm (G8 (cfK key') m) := h1.trans (hp.trans h2.symm); refine c1o (key := key) (b0o hn) ?_ h3; have h4 : KS key' (G8 (cfK key') m) := b0o (hp.nodup_iff.1 hn); refine Pairwise.imp_of_mem (fun {a b} ha hb h => ?_) h4; have ha' : a ∈ l := hp.mem_iff.2 (h2.mem_iff.1 ha); have hb' : b ∈ l := hp.mem_iff.2 (h2.mem_iff.1 hb); simp only [cfK, hk a ha', hk b hb'] at h ⊢; exact h
def a0e (N : SM) (id : Str) : Str := (K9 N id).getD []
theorem c3l (g : Nat) (N : SM) (bs : List Nat) (clk : Nat) (hN : ∀ p ∈ N, length p.2 < 900000) (a b : Str) :
   Ctr prog 118 ([.d (.str a), .d (.str b)] ++ [D.ref (smD g N bs clk)].map .d) (.d (.int .i64 (cfK (a0e N) a b))) := by
 have hk : ∀ a, length (a0e N a) < 900000 := fun a => by
   unfold a0e K9; cases h : N.find? fun p => decide (p.1 = a) with
   | none => simp
   | some p => simpa using hN p (mem_of_find?_eq_some h)
 have hg : ∀ a, ∃ r, M5 ((N.map fun p => D.str p.1).zip (N.map fun p => D.str p.2)) (.str a) = r ∧ a0z false (.str []) r = .d (.str (a0e N a)) := fun a => by
   rw [a2p]; unfold a0e; cases K9 N a <;> exact ⟨_, rfl, rfl⟩
 obtain ⟨r1, h1, h2⟩ := hg a; obtain ⟨r2, h3, h4⟩ := hg b; have c1 := b7e (a0e N a) (a0e N b) (hk a) (hk b); have c2 := a3Z a b; have c3 := a6z [a1k (a0e N a) (a0e N b), a0r a b] (by simp); simp only [a2S, map_cons, map_nil] at c3; refine fv (fun i => false) func118 (by kernel_rfl) rfl rfl rfl rfl rfl ?_; simp -implicitDefEqProofs [smD]; refine a0j Y1 (G1 _) (R4 N) Tryz.zd_9 h1 ?_; rw [h2]; simp -implicitDefEqProofs; refine a0j Y1 (G1 _) (R4 N) Tryz.zd_9 h3 ?_; rw [h4]; simp -implicitDefEqProofs; refine A3 c1 ?_; simp -implicitDefEqProofs; refine A3 c2 ?_; simp -implicitDefEqProofs; refine ⟨by decide, A3 c3 ?_⟩; simp -implicitDefEqProofs [cfK]
theorem c4c (g : Nat) (N : SM) (bs : List Nat) (clk : Nat) (hN : ∀ p ∈ N, length p.2 < 900000) (l : List Str) (hl : l.length < 1000000) : a4V prog 162 9 (l.map .str) [.d (.clo 118 [D.ref (smD g N bs clk)])] ((G8 (cfK (a0e N)) l).map .str) := by
 refine b9M Tryz.layT 9 (by kernel_rfl) (enters_of func162 (by kernel_rfl) rfl) D.str (fun s => Value.string ⟨s.toArray⟩) c0F (cfK (a0e N)) (b0e _) 118 [D.ref (smD g N bs clk)] (by simp [D.isAgg]) (fun x y => c3l g N bs clk hN x y) (fun w cb => ?_) l hl; exact AnyF.slices_SortFunc_none Tryz.layU none 0 _ w
theorem b8k (g q T : Nat) (N : SM) (bs : List Nat) (clk : Nat) (hl : N.length < 1000000) (hk : ∀ p ∈ N, length p.1 ≤ maxLen) (hN : ∀ p ∈ N, length p.2 < 900000) (hnd : (N.map (·.1)).Nodup) :
   H5 prog 116 [.d (.raw (a9o 163 q)), .d (.clo 118 [D.ref (smD g N bs clk)])] [.hb (.pointer (some ⟨q, 0, none⟩)) T (smD g N bs clk)]
     (fun r hs' => r = .own true 9 ((G8 (cfK (a0e N)) (N.map (·.1))).map .str) ∧ hs' = [.hb (.pointer (some ⟨q, 0, none⟩)) T (smD g N bs clk)]) := by
 have c1 := c2A (P := prog) (ρ := Tryz.coll_ren) (ρk := Tryz.keysA_ren) Tryz.coll { Tryz.keysA with } (enters_of func161 (by kernel_rfl) rfl) (enters_of func163 (by kernel_rfl) rfl) rfl (by decide) (by kernel_rfl) (by kernel_rfl) g q T (N.map (·.1)) (N.map fun p => .str p.2) bs clk (by simp) (by simp; omega) (by simpa using hk); have e : (D.map (.map (some g)) ((N.map (·.1)).map .str) (N.map fun p => .str p.2) bs clk) = smD g N bs clk := by simp [smD, Function.comp_def]
 rw [e] at c1; have hfix : ∀ ss, Perm ss (N.map (·.1)) → G8 (cfK (a0e N)) ss = G8 (cfK (a0e N)) (N.map (·.1)) := fun ss h => b4b (h.nodup_iff.2 hnd) h (fun _ _ => rfl)
 obtain ⟨sd, hsd⟩ : ∃ sd, smD g N bs clk = sd := ⟨_, rfl⟩; have hsI := c4c g N bs clk hN; rw [hsd] at c1 hsI ⊢; refine a1P (fun i => i == 5000007 || i == 3000010 || i == 5 || i == 8 || i == 4) (by kernel_rfl) func116 (by kernel_rfl) rfl rfl (nbl rfl) (by kernel_rfl) rfl ?_; simp -implicitDefEqProofs [A7]; refine M9 [1000000] 1000000 c1 (by simp [A7]) rfl (by simp) ?_; rintro r hs' ⟨⟨ss, hss, rfl⟩, rfl⟩; have hsl : ss.length < 1000000 := by rw [hss.length_eq]; simpa using hl
 have hI := hsI ss hsl; rw [hfix ss hss] at hI; generalize G8 (cfK (a0e N)) (N.map (·.1)) = K at *; simp -implicitDefEqProofs [A7, D2, C6]; refine b6e hI ?_; simp -implicitDefEqProofs [A7]; exact ⟨.own true 9 (K.map .str), [1000000], by simp, by simp [isH], by simp [a1Z, Tryz.coll_ren], rfl, by simp⟩
def I9 (R : List Chg) : List Str := G8 (cfK (G9 R)) (B9 R)
theorem b3T {R : List Chg} {id : Str} (h : b5v (M8 R id) id) : length (G9 R id) < 900000 := by
 unfold G9; split
 · exact h.own
 · have := b6U (b2M (M8 R id) id); unfold b0x; omega
theorem c6c {R : List Chg} {N : SM} (h : Perm N (a2h R)) : G8 (cfK (a0e N)) (N.map (·.1)) = I9 R := by
 have hp : (N.map (·.1)).Perm (B9 R) := by rw [← a5D]; exact h.map _
 refine b4b (hp.nodup_iff.2 (a2b R)) hp (fun a ha => ?_); unfold a0e; rw [a3o h, if_pos (hp.mem_iff.1 ha)]; rfl
theorem b1c (R : List Chg) (d : D) (hG : a0y R) (g : Nat) (N : SM) (bs : List Nat) (clk : Nat) (hN : Perm N (a2h R)) :
   Ctr prog 66 [.d d, .d (smD g N bs clk)] (.own true 9 ((I9 R).map .str)) := by
 have hmx : (1000000 : Nat) ≤ maxLen := (by decide); have hmem : ∀ p ∈ N, p.1 ∈ B9 R ∧ p.2 = G9 R p.1 := fun p hp => by
   have := hN.mem_iff.1 hp; obtain ⟨x, hx, rfl⟩ := mem_map.1 this; exact ⟨hx, rfl⟩
 have hll := a0K R; have hlt := hG.lt; have hNl : N.length < 1000000 := by rw [hN.length_eq]; simp [a2h]; omega
 have hv : ∀ p ∈ N, length p.2 < 900000 := fun p hp => by
   rw [(hmem p hp).2]; exact b3T (hG.name _ (hmem p hp).1)
 have hk : ∀ p ∈ N, length p.1 ≤ maxLen := fun p hp => by
   have := (hG.name _ (hmem p hp).1).short; omega
 have hnd : (N.map (·.1)).Nodup := by
   have hp : (N.map (·.1)).Perm (B9 R) := by rw [← a5D]; exact hN.map _
   exact hp.nodup_iff.2 (a2b R)
 have c1 := c8N (P := prog) (ρk := Tryz.keysA_ren) Tryz.keysA (enters_of func117 (by kernel_rfl) rfl) g (N.map fun p => .str p.1) (N.map fun p => .str p.2) bs clk; have c2 : ∀ q, _ := fun q => b8k g q 80 N bs clk hNl hk hv hnd
 have he := c6c hN; rw [he] at c2; have e : D.map (.map (some g)) (N.map fun p => .str p.1) (N.map fun p => .str p.2) bs clk = smD g N bs clk := rfl; rw [e] at c1; obtain ⟨sd, hsd⟩ : ∃ sd, smD g N bs clk = sd := ⟨_, rfl⟩; rw [hsd] at c1 c2 ⊢; refine fv (fun i => i == 5000006 || i == 5000008 || i == 4) func66 (by kernel_rfl) rfl rfl rfl rfl rfl ?_; simp -implicitDefEqProofs; refine ⟨⟨by rw [← hsd]; rfl, by rw [← hsd]; rfl⟩, ?_⟩; refine M9 [] 1000000 c1 rfl rfl (by simp) ?_; rintro r hs' ⟨q, rfl, rfl⟩; simp -implicitDefEqProofs [D2, C6]; refine M9 [1000000] 1000000 (c2 q) (by simp; rfl) rfl (by simp) ?_; rintro r hs' ⟨rfl, rfl⟩; generalize I9 R = K at *; simp -implicitDefEqProofs [D2, C6]
def a1U (e : Str × List Att) : D := a2q e.1 e.2
def a2c (R : List Chg) (id : Str) : Str × List Att := (G9 R id, a2f R id)
def a0d (R : List Chg) : List (Str × List Att) := (I9 R).map (a2c R)
theorem b4X {R : List Chg} {id : Str} : id ∈ I9 R ↔ id ∈ B9 R := (Q5 (b0e (G9 R)) (B9 R)).1.mem_iff
theorem a4L {R : List Chg} : (I9 R).length = (B9 R).length := (Q5 (b0e (G9 R)) (B9 R)).1.length_eq
def EsI (R : List Chg) (sd : D) (g : Nat) (N : SM) (bs : List Nat) (clk : Nat) (k : Nat) (τ : St) : Prop := τ 0 = .d sd ∧ τ 3 = .d (smD g N bs clk) ∧ τ 4 = .own true 48 (((I9 R).take k).map fun id => a1U (a2c R id)) ∧ τ 14 = .own false 9 ((I9 R).map .str) ∧ τ 15 = .d (.int .i64 (I9 R).length) ∧ τ 16 = .d (.int .i64 k)
theorem a6y (R : List Chg) (d : D) (hd : StD R d) (hG : a0y R) : Ctr prog 30 [.d d] (.own true 48 ((a0d R).map a1U)) := by
 have hdi := a2i R d hd hG; have hor : ∀ g N bs clk, Perm N (a2h R) → _ := fun g N bs clk hN => b1c R d hG g N bs clk hN
 have hen : ∀ id s, id ∈ B9 R → _ := fun id s h => b5I R d id s hd hG h
 have hll := a0K R; have hlt := hG.lt; have hol := a4L (R := R); obtain ⟨u1, R1, bs1, c1, u2, M, bs2, c2, rfl, hR1, hM⟩ := hd.open; have hre := a3p u1 R1 bs1 c1 u2 M bs2 c2; obtain ⟨sd, hsd⟩ : ∃ sd, V8 u1 R1 bs1 c1 u2 M bs2 c2 = .ref sd := ⟨_, rfl⟩; rw [hsd] at hdi hor hre hen ⊢; refine fv (fun i => i == 5000011 || i == 2 || i == 4) func30 (by kernel_rfl) rfl rfl rfl rfl rfl ?_; simp -implicitDefEqProofs; refine A3 hre ?_; simp -implicitDefEqProofs; refine b2v hdi ?_; rintro r hs' ⟨rfl, g, N, bs, clk, hN, rfl⟩; refine ⟨rfl, ?_⟩; have hor := hor g N bs clk hN; simp only [smD] at hor; simp -implicitDefEqProofs [smD]; refine A3 hor ?_; simp -implicitDefEqProofs [smD]; refine G7 (I9 R).length (EsI R (.ref sd) g N bs clk) ⟨by simp, by simp [smD], by simp, by simp, by simp, by simp⟩ ?_; rintro k τ hk ⟨g0, g3, g4, g14, g15, g16⟩; rcases Nat.lt_or_ge k (I9 R).length with hlt | hlt
 · have hlt' : (k : Int) < (I9 R).length := (by omega); have hin : (I9 R)[k] ∈ B9 R := b4X.1 (gmm _); have hge := a2p N (I9 R)[k]; rw [a3o hN, if_pos hin] at hge; have he := hen (I9 R)[k] (G9 R (I9 R)[k]) hin; have htk : ((I9 R).take (k + 1)).map (fun id => a1U (a2c R id)) = ((I9 R).take k).map (fun id => a1U (a2c R id)) ++ [a1U (a2c R (I9 R)[k])] := by rw [F6 hlt, map_append]; rfl
   have htl : (((I9 R).take k).map (fun id => a1U (a2c R id))).length ≤ 100000 := by simp; omega
   generalize ((I9 R).take k).map (fun id => a1U (a2c R id)) = T at *; simp -implicitDefEqProofs [g0, g3, g4, g14, g15, g16, hlt, hlt', smD]; refine a0j Y1 (G1 _) (R4 N) Tryz.zd_9 hge ?_; simp -implicitDefEqProofs [g0, g3, g4, g14, g15, g16, hlt, hlt', smD]; refine A3 he ?_; simp -implicitDefEqProofs [g0, g3, g4, g14, g15, g16, hlt, hlt', smD]; exact ⟨rfl, by omega, by omega, by omega, D5 hlt ⟨by simp [g0], by simp [g3, smD], by rw [htk]; simp [a1U, a2c], by simp [g14], by simp [g15], by simp⟩⟩
 · have hlt' : ¬ (k : Int) < (I9 R).length := (by omega); have hlt'' : ¬ k < (I9 R).length := (by omega); simp -implicitDefEqProofs [g0, g3, g4, g14, g15, g16, hlt', hlt'', a0d]; rw [ttl (by simpa using hlt)]; simp [Function.comp_def]
theorem b9v (s : Str) : length (W8 s).1 ≤ 5000 := by
 cases h : M4 s with
 | none => simp [W8, h]
 | some l =>
   cases l with
   | nil => simp [W8, h]
   | cons p l =>
     obtain ⟨t, h1, h2⟩ := b7u h; rw [h1]; exact c1V (a7t.2 ⟨_, h2⟩)
def a2a (R : List Chg) (id : Str) : Str := (W8 (G9 R id)).1
def a9f (R : List Chg) (X : List Str) (id : Str) : Bool := decide (1 < a3X (a2a R id)) && !decide (a2a R id ∈ X)
def c4l (X : List Str) (s : Str) : List Str := if s ∈ X then X else X ++ [s]
def a1v (R : List Chg) (p : List Str × List Str) (id : Str) : List Str × List Str := if a9f R p.1 id then (p.1, p.2 ++ [id]) else (c4l p.1 (G9 R id), p.2)
def V6 (R : List Chg) (l : List Str) : List Str × List Str := l.foldl (a1v R) ([], [])
def a0w (R : List Chg) : List Str := I7 (V6 R (I9 R)).2
theorem b2l (R : List Chg) (l : List Str) (id : Str) : V6 R (l ++ [id]) = a1v R (V6 R l) id := by simp [V6]
theorem a8V (R : List Chg) (l : List Str) : (V6 R l).2.length ≤ l.length := by
 refine U6 (P := fun l => (V6 R l).2.length ≤ l.length) (by simp [V6]) (fun l id ih => ?_) l; rw [b2l]; unfold a1v; split
 · simp; omega
 · simp; omega
def a1l (X : List Str) : List (D × D) := X.map fun s => (D.str s, D.bool true)
theorem b8N (X : List Str) (k : Str) : M5 (a1l X) (.str k) = if k ∈ X then some (.bool true) else none := by
 induction X with
 | nil => rfl
 | cons x X ih =>
   simp only [M5, a1l, map_cons, find?_cons, L9] at ih ⊢; by_cases h : x = k
   · simp [h]
   · simp only [decide_eq_false h]; rw [ih]; have : ¬ k = x := fun e => h e.symm
     simp [this]
theorem b9m (X : List Str) (k : Str) : S1 (a1l X) (.str k) (.bool true) = a1l (c4l X k) := by
 unfold S1 c4l; by_cases h : k ∈ X
 · rw [if_pos h, if_pos (by simp [a1l, L9, h])]; unfold a1l; rw [map_map]; refine map_congr_left fun x _ => ?_
   simp only [Function.comp_apply, L9]; exact ite_self _
 · rw [if_neg h, if_neg (by
     simp only [a1l, any_map, any_eq_true, Function.comp_apply, L9, decide_eq_true_eq, not_exists, not_and]; rintro x hx rfl; exact h hx)]
   simp [a1l]
theorem b4F : Program.underlying prog 95 = some (.map 9 4) := by kernel_rfl
def OrI (R : List Chg) (sd : D) (g : Nat) (N : SM) (bs : List Nat) (clk : Nat) (g2 : Nat) (k : Nat) (τ : St) : Prop := τ 3 = .d (smD g N bs clk) ∧ τ 4 = .d (.raw (.map (some g2))) ∧ τ 5 = .own true 9 ((V6 R ((I9 R).take k)).2.map .str) ∧ τ 18 = .own false 9 ((I9 R).map .str) ∧ τ 19 = .d (.int .i64 (I9 R).length) ∧ τ 20 = .d (.int .i64 k) ∧
 τ 1000000 = .hm (.map (some g2)) 9 (a1l (V6 R ((I9 R).take k)).1) none
theorem a6F (R : List Chg) (d : D) (hd : StD R d) (hG : a0y R) : Ctr prog 29 [.d d] (.own true 9 ((a0w R).map .str)) := by
 have hdi := a2i R d hd hG; have hor : ∀ g N bs clk, Perm N (a2h R) → _ := fun g N bs clk hN => b1c R d hG g N bs clk hN
 have hll := a0K R; have hlt := hG.lt; have hol := a4L (R := R); obtain ⟨u1, R1, bs1, c1, u2, M, bs2, c2, rfl, hR1, hM⟩ := hd.open; have hre := a3p u1 R1 bs1 c1 u2 M bs2 c2; obtain ⟨sd, hsd⟩ : ∃ sd, V8 u1 R1 bs1 c1 u2 M bs2 c2 = .ref sd := ⟨_, rfl⟩; rw [hsd] at hdi hor hre ⊢; refine fv (fun i => i == 5000014 || i == 2 || i == 5 || i == 49 || i == 3000050) func29 (by kernel_rfl) rfl rfl rfl rfl rfl ?_; simp -implicitDefEqProofs; refine A3 hre ?_; simp -implicitDefEqProofs; refine b2v hdi ?_; rintro r hs' ⟨rfl, g, N, bs, clk, hN, rfl⟩; refine ⟨rfl, ?_⟩; have hor := hor g N bs clk hN; simp only [smD] at hor; simp -implicitDefEqProofs [smD]; refine b0U 9 1000000 (by simp) (fun g2 => ?_); simp -implicitDefEqProofs [smD]; refine A3 hor ?_; simp -implicitDefEqProofs [smD]; refine G7 (I9 R).length (OrI R (.ref sd) g N bs clk g2) ⟨by simp [smD], by simp, by simp [V6], by simp, by simp, by simp, by simp [V6, a1l]⟩ ?_; rintro k τ hk ⟨g3, g4, g5, g18, g19, g20, gB⟩; rcases Nat.lt_or_ge k (I9 R).length with hlt | hlt
 · have hlt' : (k : Int) < (I9 R).length := (by omega); obtain ⟨id, hid⟩ : ∃ id, (I9 R)[k] = id := ⟨_, rfl⟩; have hin : id ∈ B9 R := by rw [← hid]; exact b4X.1 (gmm _)
   have hge := a2p N id; rw [a3o hN, if_pos hin] at hge; have hsn := b2l R ((I9 R).take k) id; rw [← hid, ← F6 hlt, hid] at hsn; have hol := a8V R ((I9 R).take k); rw [length_take] at hol; have c1 := b9y (G9 R id) (b3T (hG.name id hin)); obtain ⟨b, hb⟩ : ∃ b, (W8 (G9 R id)).2 = b := ⟨_, rfl⟩; have hpl := b9v (G9 R id); have c2 := c0V (a2a R id) (by unfold a2a; omega); have hpp : (W8 (G9 R id)).1 = a2a R id := rfl; rw [hpp, hb] at c1; have hmg := b8N (V6 R ((I9 R).take k)).1 (a2a R id); have hms := b9m (V6 R ((I9 R).take k)).1 (G9 R id); have hq : a9f R (V6 R ((I9 R).take k)).1 id = (decide (1 < a3X (a2a R id)) && !decide (a2a R id ∈ (V6 R ((I9 R).take k)).1)) := rfl; unfold a1v at hsn; generalize V6 R ((I9 R).take k) = T at *; rcases Classical.em (1 < a3X (a2a R id)) with h1 | h1
   · have h1' : (1 : Int) < a3X (a2a R id) := (by omega); rcases Classical.em (a2a R id ∈ T.1) with h2 | h2
     · rw [if_pos h2] at hmg; simp only [h1, h2, decide_true, Bool.not_true, Bool.and_false] at hq; simp only [hq, Bool.false_eq_true, if_false] at hsn; simp -implicitDefEqProofs [g3, g4, g5, g18, g19, g20, hlt, hlt', smD, hid]; refine a0j Y1 (G1 _) (R4 N) Tryz.zd_9 hge ?_; simp -implicitDefEqProofs [g3, g4, g5, g18, g19, g20, hlt, hlt', smD, hid]; refine A3 c1 ?_; simp -implicitDefEqProofs [g3, g4, g5, g18, g19, g20, hlt, hlt', smD, hid]; refine A3 c2 ?_; simp -implicitDefEqProofs [g3, g4, g5, g18, g19, g20, hlt, hlt', smD, h1, h1']; refine a1m (m := a1l T.1) (E := none) 1000000 (by omega) b4F (by simp [gB]) (G1 _) Tryz.zd_4 hmg ?_; simp -implicitDefEqProofs [g3, g4, g5, g18, g19, g20, hlt, hlt', smD, h1, h1']; refine a0j Y1 (G1 _) (R4 N) Tryz.zd_9 hge ?_; simp -implicitDefEqProofs [g3, g4, g5, g18, g19, g20, hlt, hlt', smD, h1, h1']; refine a6M (m := a1l T.1) (E := none) 1000000 b4F (by simp [gB]) (G1 _) _ (Perm.refl _) ?_; rw [hms]; simp -implicitDefEqProofs [g3, g4, g5, g18, g19, g20, hlt, hlt', smD, h1, h1']; exact ⟨by omega, D5 hlt ⟨by simp [g3, smD], by simp [g4], by simp [g5, hsn], by simp [g18], by simp [g19], by simp, by simp [hsn]⟩⟩
     · rw [if_neg h2] at hmg; simp only [h1, h2, decide_true, decide_false, Bool.not_false, Bool.and_true] at hq; simp only [hq, if_true] at hsn; simp -implicitDefEqProofs [g3, g4, g5, g18, g19, g20, hlt, hlt', smD, hid]; refine a0j Y1 (G1 _) (R4 N) Tryz.zd_9 hge ?_; simp -implicitDefEqProofs [g3, g4, g5, g18, g19, g20, hlt, hlt', smD, hid]; refine A3 c1 ?_; simp -implicitDefEqProofs [g3, g4, g5, g18, g19, g20, hlt, hlt', smD, hid]; refine A3 c2 ?_; simp -implicitDefEqProofs [g3, g4, g5, g18, g19, g20, hlt, hlt', smD, h1, h1']; refine a1m (m := a1l T.1) (E := none) 1000000 (by omega) b4F (by simp [gB]) (G1 _) Tryz.zd_4 hmg ?_; simp -implicitDefEqProofs [g3, g4, g5, g18, g19, g20, hlt, hlt', smD, h1, h1']; exact ⟨by omega, by omega, by omega, D5 hlt ⟨by simp [g3, smD], by simp [g4], by simp [hsn], by simp [g18], by simp [g19], by simp, by simp [gB, hsn]⟩⟩
   · have h1' : ¬ (1 : Int) < a3X (a2a R id) := (by omega); simp only [h1, decide_false, Bool.false_and] at hq; simp only [hq, Bool.false_eq_true, if_false] at hsn; simp -implicitDefEqProofs [g3, g4, g5, g18, g19, g20, hlt, hlt', smD, hid]; refine a0j Y1 (G1 _) (R4 N) Tryz.zd_9 hge ?_; simp -implicitDefEqProofs [g3, g4, g5, g18, g19, g20, hlt, hlt', smD, hid]; refine A3 c1 ?_; simp -implicitDefEqProofs [g3, g4, g5, g18, g19, g20, hlt, hlt', smD, hid]; refine A3 c2 ?_; simp -implicitDefEqProofs [g3, g4, g5, g18, g19, g20, hlt, hlt', smD, h1, h1']; refine a0j Y1 (G1 _) (R4 N) Tryz.zd_9 hge ?_; simp -implicitDefEqProofs [g3, g4, g5, g18, g19, g20, hlt, hlt', smD, h1, h1']; refine a6M (m := a1l T.1) (E := none) 1000000 b4F (by simp [gB]) (G1 _) _ (Perm.refl _) ?_; rw [hms]; simp -implicitDefEqProofs [g3, g4, g5, g18, g19, g20, hlt, hlt', smD, h1, h1']; exact ⟨by omega, D5 hlt ⟨by simp [g3, smD], by simp [g4], by simp [g5, hsn], by simp [g18], by simp [g19], by simp, by simp [hsn]⟩⟩
 · have hlt' : ¬ (k : Int) < (I9 R).length := (by omega); have hlt'' : ¬ k < (I9 R).length := (by omega); rw [ttl (by simpa using hlt)] at g5 gB; have c1 := b2S (V6 R (I9 R)).2 (by have := a8V R (I9 R); omega); have e : I7 (V6 R (I9 R)).2 = a0w R := rfl; rw [e] at c1; simp -implicitDefEqProofs [g3, g4, g5, g18, g19, g20, hlt', hlt'']; refine b6e c1 ?_; simp -implicitDefEqProofs [g3, g4, g5, g18, g19, g20, hlt', hlt'']
theorem a2P (l m : List Str) (hl : l.length < 1000000) (hm : m.length < 1000000) : Ctr prog 38 [.d (C7 l), .d (C7 m)] (.d (.bool (decide (l = m)))) := by
 refine fv (fun _ => false) func38 (by kernel_rfl) rfl rfl rfl rfl rfl ?_; by_cases hlm : l.length = m.length
 · simp -implicitDefEqProofs [C7, hlm]; refine G7 m.length (fun k τ => τ 0 = .d (C7 l) ∧ τ 1 = .d (C7 m) ∧ τ 5 = .d (.int .i64 k) ∧ l.take k = m.take k) (by simp [C7, hlm]) ?_; rintro k τ hk ⟨h0, h1, h5, ht⟩; by_cases hlt : k < m.length
   · have hlt' : k < l.length := (by omega); by_cases he : l[k] = m[k]
     · simp -implicitDefEqProofs [h0, h1, h5, C7, hlm, hlt, hlt', he]; refine ⟨by omega, D5 hlt ⟨by simp [h0, C7], by simp [h1, C7], by simp, ?_⟩⟩; rw [F6 hlt, F6 hlt', ht, he]
     · simp -implicitDefEqProofs [h0, h1, h5, C7, hlm, hlt, hlt', he]; rintro rfl; exact he rfl
   · rw [ttl (by omega), ttl (by omega)] at ht; simp -implicitDefEqProofs [h0, h1, h5, C7, hlm, hlt, ht]; try omega
 · have hlm' : ¬ (l.length : Int) = m.length := (by omega); simp -implicitDefEqProofs [C7, hlm']; rintro rfl; exact hlm rfl
theorem c7I (l : List Chg) (hl : l.length < 1000000) : Ctr prog 20 [.d (E6 l)] (.own true 9 ((l.map idC).map .str)) := by
 refine fv (fun i => i == 3 || i == 2) func20 (by kernel_rfl) rfl rfl rfl rfl rfl ?_; simp -implicitDefEqProofs; refine G7 l.length (fun k τ => τ 0 = .d (E6 l) ∧ τ 3 = .own true 9 (((l.take k).map idC).map .str) ∧ τ 4 = .d (.int .i64 k)) ⟨by simp, by simp, by simp⟩ ?_; rintro k τ hk ⟨h0, h3, h4⟩; by_cases hlt : k < l.length
 · have hlt' : (k : Int) < l.length := (by omega); obtain ⟨c, hx⟩ : ∃ c, l[k] = c := ⟨_, rfl⟩; have htk : ((l.take (k + 1)).map idC).map D.str = ((l.take k).map idC).map .str ++ [.str (idC c)] := by rw [F6 hlt, hx, map_append, map_append]; rfl
   have htl : (((l.take k).map idC).map D.str).length ≤ 1000000 := by simp only [length_map, length_take]; omega
   have ec : A6 c = .agg [B0 c.1, .int .i64 (opC c), .str (idC c), .str c.2.2.2.1, .str c.2.2.2.2.1, .str c.2.2.2.2.2] := rfl; generalize ((l.take k).map idC).map D.str = T at *; simp -implicitDefEqProofs [h0, h3, h4, E6, hlt, hlt', hx, ec, A9]; refine ⟨by omega, by omega, by omega, D5 hlt ⟨by simp [h0, E6], by simp; simpa using htk.symm, by simp⟩⟩
 · rw [ttl (by omega)] at h3; simp -implicitDefEqProofs [h0, h3, h4, E6, hlt]
def smC (c : Chg) : Bool := decide (length c.2.2.1 ≤ 100) && (decide (length c.2.2.2.1 ≤ 300) && (decide (length c.2.2.2.2.1 ≤ 100) && decide (length c.2.2.2.2.2 ≤ 300)))
def a5c (l : List Chg) : Bool := l.all smC && decide (l.length ≤ 14)
theorem c4n (l : List Chg) (hl : l.length ≤ 140737488351232) : Ctr prog 9 [.d (E6 l)] (.d (.bool (a5c l))) := by
 refine fv (fun i => false) func9 (by kernel_rfl) rfl rfl rfl rfl rfl ?_; obtain ⟨R, hR⟩ : ∃ R, a5c l = R := ⟨_, rfl⟩; rw [hR]; simp -implicitDefEqProofs; refine G7 l.length (fun k τ => τ 0 = .d (E6 l) ∧ τ 3 = .d (.int .i64 k) ∧ ((l.drop k).all smC && decide (l.length ≤ 14)) = R) ⟨by simp, by simp, by simpa [a5c] using hR⟩ ?_; rintro k τ hk ⟨h0, h3, hn⟩; by_cases hlt : k < l.length
 · have hlt' : (k : Int) < l.length := (by omega); obtain ⟨x, hx⟩ : ∃ x, l[k] = x := ⟨_, rfl⟩; rw [drop_eq_getElem_cons hlt, all_cons, hx] at hn; obtain ⟨n, op, id, nm, at_, va_⟩ := x; have ec : A6 (n, op, id, nm, at_, va_) = .agg [B0 n, .int .i64 op, .str id, .str nm, .str at_, .str va_] := rfl; simp only [smC] at hn; have hF : ∀ (s : Str) (m : Nat), (m : Int) < (length s : Nat) → decide (length s ≤ m) = false := fun s m h => by simp only [decide_eq_false_iff_not]; omega
   have hT : ∀ (s : Str) (m : Nat), ¬ (m : Int) < (length s : Nat) → decide (length s ≤ m) = true := fun s m h => by simp only [decide_eq_true_eq]; omega
   rcases Classical.em (((100 : Nat) : Int) < (length id : Nat)) with q0 | q0
   · rw [hF id 100 q0] at hn; simp only [Bool.and_false, Bool.false_and, Bool.true_and] at hn; have hR0 : R = false := hn.symm; subst hR0; have q0' : (100 : Int) < (length id : Nat) := q0; simp -implicitDefEqProofs [h0, h3, E6, hlt, hlt', hx, ec, A9, q0']
   · rw [hT id 100 q0] at hn; have q0' : ¬ (100 : Int) < (length id : Nat) := q0; simp only [Bool.true_and] at hn; rcases Classical.em (((300 : Nat) : Int) < (length nm : Nat)) with q1 | q1
     · rw [hF nm 300 q1] at hn; simp only [Bool.and_false, Bool.false_and, Bool.true_and] at hn; have hR0 : R = false := hn.symm; subst hR0; have q1' : (300 : Int) < (length nm : Nat) := q1; simp -implicitDefEqProofs [h0, h3, E6, hlt, hlt', hx, ec, A9, q0', q1']
     · rw [hT nm 300 q1] at hn; have q1' : ¬ (300 : Int) < (length nm : Nat) := q1; simp only [Bool.true_and] at hn; rcases Classical.em (((100 : Nat) : Int) < (length at_ : Nat)) with q2 | q2
       · rw [hF at_ 100 q2] at hn; simp only [Bool.and_false, Bool.false_and, Bool.true_and] at hn; have hR0 : R = false := hn.symm; subst hR0; have q2' : (100 : Int) < (length at_ : Nat) := q2; simp -implicitDefEqProofs [h0, h3, E6, hlt, hlt', hx, ec, A9, q0', q1', q2']
       · rw [hT at_ 100 q2] at hn; have q2' : ¬ (100 : Int) < (length at_ : Nat) := q2; simp only [Bool.true_and] at hn; rcases Classical.em (((300 : Nat) : Int) < (length va_ : Nat)) with q3 | q3
         · rw [hF va_ 300 q3] at hn; simp only [Bool.and_false, Bool.false_and, Bool.true_and] at hn; have hR0 : R = false := hn.symm; subst hR0; have q3' : (300 : Int) < (length va_ : Nat) := q3; simp -implicitDefEqProofs [h0, h3, E6, hlt, hlt', hx, ec, A9, q0', q1', q2', q3']
         · rw [hT va_ 300 q3] at hn; have q3' : ¬ (300 : Int) < (length va_ : Nat) := q3; simp only [Bool.true_and] at hn; simp -implicitDefEqProofs [h0, h3, E6, hlt, hlt', hx, ec, A9, q0', q1', q2', q3']; exact ⟨by omega, D5 hlt ⟨by simp [h0, E6], by simp, hn⟩⟩
 · rw [drop_eq_nil_of_le (by omega), all_nil, Bool.true_and] at hn; have hlt' : ¬ (k : Int) < l.length := (by omega); simp -implicitDefEqProofs [h0, h3, E6, hlt, hlt']; rw [← hn]; rw [Bool.eq_iff_iff, decide_eq_true_eq, decide_eq_true_eq]; omega
def a3z : Str := [109, 97, 105, 108]
def atC (t op : Int) (id nm v : Str) : Chg := if op = 4 ∨ op = 5 then ((t, 0, 0), op, id, nm, a3z, v) else ((t, 0, 0), op, id, nm, [], [])
theorem a9v (t op : Int) (id nm v : Str) : Ctr prog 37 [.d (.int .i64 t), .d (.int .i64 op), .d (.str id), .d (.str nm), .d (.str v)] (.d (A6 (atC t op id nm v))) := by
 have hE : ∀ a b : Str, A6 ((t, 0, 0), op, id, nm, a, b) = .agg [.agg [.int .i64 t, .int .i64 0, .int .i64 0], .int .i64 op, .str id, .str nm, .str a, .str b] := fun _ _ => rfl
 have hA : atC t op id nm v = if op = 4 ∨ op = 5 then ((t, 0, 0), op, id, nm, a3z, v) else ((t, 0, 0), op, id, nm, [], []) := rfl
 generalize atC t op id nm v = X at *; refine O0 (rv := .cell 10 35) (rs := []) (r := .d (A6 X)) (ys := []) (fun i => false) (by kernel_rfl) func37 (by kernel_rfl) rfl rfl (by simp) (nbl rfl) (by kernel_rfl) rfl rfl ?_; rcases Classical.em (op = 4) with h4 | h4
 · rw [if_pos (.inl h4)] at hA; subst hA; rw [hE]; simp -implicitDefEqProofs [h4, a3z]
 · rcases Classical.em (op = 5) with h5 | h5
   · rw [if_pos (.inr h5)] at hA; subst hA; rw [hE]; simp -implicitDefEqProofs [h5, a3z]
   · rw [if_neg (by simp [h4, h5])] at hA; subst hA; rw [hE]; simp -implicitDefEqProofs [h4, h5]
abbrev b9T := Str × List Att
structure b0E (e : b9T) : Prop where
 normal : G4 e.2 = e.2
 fit : a5N e.2
def a0i (l : List b9T) : D := .sl (l.map a1U)
def SmI (a b : List b9T) (k : Nat) (τ : St) : Prop := τ 0 = .d (a0i a) ∧ τ 1 = .d (a0i b) ∧ τ 5 = .d (.int .i64 k) ∧ a.take k = b.take k
theorem b4p (a b : List b9T) (ha : ∀ x ∈ a, b0E x) (hb : ∀ x ∈ b, b0E x) (hal : a.length < 1000000) (hbl : b.length < 1000000) : Ctr prog 47 [.d (a0i a), .d (a0i b)] (.d (.bool (decide (a = b)))) := by
 refine fv (fun _ => false) func47 (by kernel_rfl) rfl rfl rfl rfl rfl ?_; by_cases hlm : a.length = b.length
 · simp -implicitDefEqProofs [a0i, hlm]; refine G7 b.length (SmI a b) ⟨by simp [a0i, hlm], by simp [a0i], by simp, by simp⟩ ?_; rintro k τ hk ⟨h0, h1, h5, ht⟩; by_cases hlt : k < b.length
   · have hlt' : k < a.length := (by omega); have hB1 := ha _ (gmm hlt'); have hB2 := hb _ (gmm hlt); have hN : ∀ {l : List Att}, G4 l = l → a5N l → b2I (G4 l) := fun h1 h2 => by rw [h1]; exact h2.1
     have c1 := c1p (a[k]).2 (b[k]).2 hB1.fit hB2.fit (hN hB1.normal hB1.fit) (hN hB2.normal hB2.fit); rw [hB1.normal, hB2.normal] at c1; have hne : a[k] ≠ b[k] → a ≠ b := fun h e => h (by subst e; rfl)
     have ht2 : a[k] = b[k] → a.take (k + 1) = b.take (k + 1) := fun h => by rw [F6 hlt, F6 hlt', ht, h]
     generalize hx : a[k] = x at *; generalize hy : b[k] = y at *; obtain ⟨xi, xl⟩ := x; obtain ⟨yi, yl⟩ := y; have hA : ∀ (i : Str) (l : List Att), a1U (i, l) = .agg [.str i, .sl (l.map att)] := fun _ _ => rfl
     simp only [H9] at c1; by_cases q1 : xi = yi
     · subst q1; by_cases q3 : xl = yl
       · subst q3; simp only [decide_true] at c1; simp -implicitDefEqProofs [h0, h1, h5, a0i, hlm, hlt, hlt', hx, hy, hA]; refine E4 c1 ?_; simp -implicitDefEqProofs [h0, h1, h5, a0i, hlm, hlt, hlt', hx, hy, hA]; refine ⟨by omega, D5 hlt ⟨by simp [h0, a0i], by simp [h1, a0i], by simp, ht2 rfl⟩⟩
       · have hab : a ≠ b := hne (fun e => q3 (by simpa using e)); simp only [q3, decide_false] at c1; simp -implicitDefEqProofs [h0, h1, h5, a0i, hlm, hlt, hlt', hx, hy, hA]; refine E4 c1 ?_; simp -implicitDefEqProofs [h0, h1, h5, a0i, hlm, hlt, hlt', hx, hy, hA, hab]
     · have hab : a ≠ b := hne (fun e => q1 (by simp at e; exact e.1)); simp -implicitDefEqProofs [h0, h1, h5, a0i, hlm, hlt, hlt', hx, hy, hA, q1]; exact hab
   · rw [ttl (by omega), ttl (by omega)] at ht; simp -implicitDefEqProofs [h0, h1, h5, a0i, hlm, hlt, ht]; try omega
 · have hlm' : ¬ (a.length : Int) = b.length := (by omega); simp -implicitDefEqProofs [a0i, hlm']; rintro rfl; exact hlm rfl
theorem W9 {P : Program} {f : FuncId} {args : List AV} {e : TypeId} {l : List D} (h : Ctr P f args (.own true e l)) : Ctr P f args (.d (.sl l)) := by
 refine ⟨h.1, fun w L og vals hlok hgl hog hv => (h.2 w L og vals hlok hgl hog hv).mono ?_⟩; rintro x w' ⟨v, L', og', rfl, hgr, hlok', hold', hog', hrc⟩; obtain ⟨L2, hrc2, hlok2, hold2, hext2⟩ := hrc.demote false hlok' (fun g hg => (hog' g hg).1); refine ⟨v, L2, none, rfl, hgr, hlok2, fun c q hc hne => ?_, (fun g hg => by cases hg), E5.at_ (P := P) hrc2⟩; refine (hold2 c q (fun e => ?_)).trans (hold' c q hc hne); rcases (hog' c e.symm).2 with h1 | h1
 · omega
 · exact hne h1
structure b0V (R1 R2 : List Chg) : Prop where
 live : B9 R1 = B9 R2
 conf : a0x R1 = a0x R2
 orph : a0w R1 = a0w R2
 ents : a0d R1 = a0d R2
 entry : ∀ id, Q8 R1 id = Q8 R2 id
theorem c3k : b0E ([], []) := ⟨by decide, ⟨⟨by simp, by simp⟩, by simp [I4]⟩⟩
theorem b6o {R : List Chg} (hG : a0y R) (id : Str) : b0E (a2c R id) := by
 refine ⟨b7s _, b7t (b5P (hG.vals id).1 (hG.vals id).2)⟩
theorem c2V {R : List Chg} (hG : a0y R) (id : Str) : b0E (Q8 R id).1 := by
 unfold Q8; split
 · exact b6o hG id
 · exact c3k
theorem b5o (R1 R2 : List Chg) (d1 d2 : D) (h1 : StD R1 d1) (h2 : StD R2 d2) (hG1 : a0y R1) (hG2 : a0y R2) (hS : b0V R1 R2) (l : List Str) (hl : l.length < 1000000) :
   Ctr prog 22 [.d d1, .d d2, .d (C7 l)] (.d (.bool true)) := by
 have hl1 := hG1.lt; have hl2 := hG2.lt; have hll := a0K R1; have a1 := W9 (a3m R1 d1 h1 hG1.lt); have a2 := W9 (a3m R2 d2 h2 hG2.lt); have b1 := W9 (a2D R1 d1 h1 hG1); have b2 := W9 (a2D R2 d2 h2 hG2); have o1 := W9 (a6F R1 d1 h1 hG1); have o2 := W9 (a6F R2 d2 h2 hG2); have e1 := W9 (a6y R1 d1 h1 hG1); have e2 := W9 (a6y R2 d2 h2 hG2); have n1 : ∀ id, _ := fun id => b0a R1 d1 id h1 hG1
 have n2 : ∀ id, _ := fun id => b0a R2 d2 id h2 hG2
 have hcl : (a0x R1).length < 1000000 := by
   have : (a0x R1).length ≤ (B9 R1).length := length_filter_le _ _; omega
 have hol : (a0w R1).length < 1000000 := by
   have h3 := a8V R1 (I9 R1); have h4 := a4L (R := R1); unfold a0w I7; rw [length_mergeSort]; omega
 have hel : (a0d R1).length < 1000000 := by
   have h4 := a4L (R := R1); unfold a0d; rw [length_map]; omega
 have hnS : ∀ id, b0E (Q8 R1 id).1 := c2V hG1; have heB : ∀ x ∈ a0d R1, b0E x := fun x hx => by
   obtain ⟨id, _, rfl⟩ := mem_map.1 hx; exact b6o hG1 id
 rw [← hS.live] at a2; rw [← hS.conf] at b2; rw [← hS.orph] at o2; rw [← hS.ents] at e2; simp only [← hS.entry] at n2; have c1 := a2P (B9 R1) (B9 R1) (by omega) (by omega); have c2 := a2P (a0x R1) (a0x R1) hcl hcl; have c3 := a2P (a0w R1) (a0w R1) hol hol; have c4 := b4p (a0d R1) (a0d R1) heB heB hel hel; have c5 : ∀ id, _ := fun id => b4p [(Q8 R1 id).1] [(Q8 R1 id).1] (by simpa using hnS id) (by simpa using hnS id) (by simp) (by simp)
 simp only [decide_true, C7, a0i] at c1 c2 c3 c4 c5; obtain ⟨x1, hx1, hy1⟩ : ∃ x, d1 = x ∧ StD R1 x := ⟨_, rfl, h1⟩; obtain ⟨x2, hx2, hy2⟩ : ∃ x, d2 = x ∧ StD R2 x := ⟨_, rfl, h2⟩; obtain ⟨y1, rfl⟩ : ∃ y, d1 = .ref y := by
   obtain ⟨u1, R1', bs1, c1, u2, M, bs2, c2, rfl, _⟩ := h1.open; exact ⟨_, rfl⟩
 obtain ⟨y2, rfl⟩ : ∃ y, d2 = .ref y := by
   obtain ⟨u1, R1', bs1, c1, u2, M, bs2, c2, rfl, _⟩ := h2.open; exact ⟨_, rfl⟩
 clear h1 h2 hx1 hy1 hx2 hy2 hnS heB; generalize B9 R1 = V1 at *; generalize a0x R1 = V2 at *; generalize a0w R1 = V3 at *; generalize a0d R1 = V4 at *; refine fv (fun i => false) func22 (by kernel_rfl) rfl rfl rfl rfl rfl ?_; simp -implicitDefEqProofs; refine A3 a1 ?_; simp -implicitDefEqProofs; refine A3 a2 ?_; simp -implicitDefEqProofs; refine A3 c1 ?_; simp -implicitDefEqProofs; refine A3 b1 ?_; simp -implicitDefEqProofs; refine A3 b2 ?_; simp -implicitDefEqProofs; refine A3 c2 ?_; simp -implicitDefEqProofs; refine A3 o1 ?_; simp -implicitDefEqProofs; refine A3 o2 ?_; simp -implicitDefEqProofs; refine A3 c3 ?_; simp -implicitDefEqProofs; refine A3 e1 ?_; simp -implicitDefEqProofs; refine A3 e2 ?_; simp -implicitDefEqProofs; refine A3 c4 ?_; simp -implicitDefEqProofs; refine G7 l.length (fun k τ => τ 0 = .d (.ref y1) ∧ τ 1 = .d (.ref y2) ∧ τ 2 = .d (C7 l) ∧ τ 7 = .d (.int .i64 k)) ⟨by simp, by simp, by simp, by simp⟩ ?_; rintro k τ hk ⟨h0, h1, h2, h7⟩; rcases Nat.lt_or_ge k l.length with hlt | hlt
 · have hlt' : (k : Int) < l.length := (by omega); obtain ⟨id, hx⟩ : ∃ x, l[k] = x := ⟨_, rfl⟩; have n1 := n1 id; have n2 := n2 id; have c5 := c5 id; generalize Q8 R1 id = p at *; obtain ⟨⟨s, a⟩, ok⟩ := p; have hE : a1U (s, a) = .agg [.str s, .sl (a.map att)] := rfl; have hE2 : a2q s a = .agg [.str s, .sl (a.map att)] := rfl; simp only [map_cons, map_nil, hE, hE2] at n1 n2 c5; simp -implicitDefEqProofs [h0, h1, h2, h7, C7, hlt, hlt', hx]; refine A3 n1 ?_; simp -implicitDefEqProofs [h0, h1, h2, h7, C7, hlt, hlt', hx]; refine A3 n2 ?_; simp -implicitDefEqProofs [h0, h1, h2, h7, C7, hlt, hlt', hx]; refine A3 c5 ?_; simp -implicitDefEqProofs [h0, h1, h2, h7, C7, hlt, hlt', hx]; exact ⟨by omega, D5 hlt ⟨by simp [h0], by simp [h1], by simp [h2, C7], by simp⟩⟩
 · have hlt' : ¬ (k : Int) < l.length := (by omega); have hlt'' : ¬ k < l.length := (by omega); simp -implicitDefEqProofs [h0, h1, h2, h7, C7, hlt', hlt'']
theorem a9n (s r m : Nat) (R : List Chg) (E : List Y9) : (stH s r m R E).all isH = true := by
 rw [all_eq_true]; intro x hx; simp only [stH, U5, mem_append, mem_flatMap, mem_cons, not_mem_nil, or_false] at hx; rcases hx with (rfl | rfl | rfl) | ⟨e, _, hx⟩
 · rfl
 · rfl
 · rfl
 · simp only [a3f, mem_cons, not_mem_nil, or_false] at hx; rcases hx with rfl | rfl <;> rfl
theorem a9x (s r m : Nat) (R : List Chg) (E : List Y9) : (stH s r m R E).length = 3 + 2 * E.length := by
 have : ∀ E : List Y9, (E.flatMap a3f).length = 2 * E.length := fun E => by
   induction E with
   | nil => rfl
   | cons e E ih => rw [flatMap_cons, length_append, ih]; simp [a3f]; omega
 simp [stH, U5, this]; omega
theorem b5K (R : List Chg) : (S9 R).length ≤ R.length := by
 refine U6 (P := fun R => (S9 R).length ≤ R.length) (Nat.le_refl _) (fun R c ih => ?_) R; rw [a5m]; unfold a4I; split
 · simp; omega
 · simp; omega
structure a8y (R : List Chg) : Prop where
 fit : ∀ c ∈ R, O8 c
 ok : ∀ c ∈ R, F4 c = 0
 nd : R.Nodup
 few : R.length ≤ 4096
theorem b0t : a8y [] := ⟨by simp, by simp, nodup_nil, by simp⟩
theorem a7d {R : List Chg} (h : a8y R) {c : Chg} (hc : O8 c) : a8y (N4 R c) := by
 unfold N4; split
 · rename_i hh
   refine ⟨fun x hx => ?_, fun x hx => ?_, ?_, ?_⟩
   · rcases mem_append.1 hx with hx | hx
     · exact h.fit x hx
     · rw [mem_singleton.1 hx]; exact hc
   · rcases mem_append.1 hx with hx | hx
     · exact h.ok x hx
     · rw [mem_singleton.1 hx]; exact hh.1
   · refine nodup_append.2 ⟨h.nd, by simp, fun a ha b hb => ?_⟩; rw [mem_singleton.1 hb]; rintro rfl; exact hh.2.1 ha
   · simp; omega
 · exact h
theorem b6B {R : List Chg} (h : a8y R) {s r m : Nat} {E : List Y9} (hE : a0m E = S9 R) : (stH s r m R E).length ≤ 500000 := by
 rw [a9x]; have h1 : E.length = (S9 R).length := by rw [← hE]; simp [a0m]
 have := b5K R; have := h.few; omega
def StF (σ : St) (B s : Nat) (R : List Chg) : Prop := a8y R ∧ ∃ r m E, a0m E = S9 R ∧ Fam σ B (stH s r m R E)
theorem StF.put {σ : St} {B s d : Nat} {R : List Chg} {x : AV} (h : StF σ B s R) (hd : d < B) : StF (Vw.put σ d x) B s R := by
 obtain ⟨hR, r, m, E, hE, hF⟩ := h; exact ⟨hR, r, m, E, hE, hF.put hd⟩
theorem StF.setv {σ : St} {B s d : Nat} {R : List Chg} {x : AV} (h : StF σ B s R) (hd : d < B) : StF (Vw.B4 σ d x) B s R := by
 obtain ⟨hR, r, m, E, hE, hF⟩ := h; exact ⟨hR, r, m, E, hE, hF.setv hd⟩
theorem StF.clean {σ : St} {B s : Nat} {R : List Chg} (h : StF σ B s R) (ds : List Nat) : StF (Vw.K5 ds σ) B s R := by
 obtain ⟨hR, r, m, E, hE, hF⟩ := h; exact ⟨hR, r, m, E, hE, hF.clean ds⟩
theorem b5i {σ : St} {d : Nat} {K : St → Prop} (B s : Nat) (hB : 1000000 ≤ B) (hd : d < 1000000) {R : List Chg} {c : Chg} (hF : StF σ B s R) (hc : O8 c)
   (hk : ∀ τ ks, StF τ B s (N4 R c) → τ d = .d (.int .i64 (Q9 R c)) → (∀ j, j < 1000000 → ks.contains j = false) → (∀ i, i < 1000000 → i ≠ d → τ i = F9 ks (E9 d (σ i))) →
     (∀ B2 hs2, Fam σ B2 hs2 → 1000000 ≤ B2 → (B2 + 1000000 ≤ B ∨ B + 1000000 ≤ B2) → Fam τ B2 hs2) → K τ) : a3j prog 13 [.d (.raw (va s)), .d (A6 c)] σ d K := by
 obtain ⟨hR, r, m, E, hE, hFam⟩ := hF; refine c7M B hB hd hFam (c3u s r m R E hE hR.fit c hc) (fun x hs' hp => ?_) (fun x hs' τ ks ls hp hF' h1 h2 h3 h4 => ?_)
 · obtain ⟨_, E', hE', rfl⟩ := hp; exact ⟨a9n _ _ _ _ _, b6B (a7d hR hc) hE'⟩
 · obtain ⟨rfl, E', hE', rfl⟩ := hp; refine hk τ ks ⟨a7d hR hc, r, m, E', hE', hF'⟩ ?_ h1 (fun i hi hne => ?_) h4
   · rw [h3 d hd, if_pos rfl]; rfl
   · rw [h3 i hi, if_neg hne]
def ofE : List Chg → List Chg → Int
 | _, [] => 0
 | R, c :: l => if Q9 R c ≠ 0 then Q9 R c else ofE (N4 R c) l
def ofR (R l : List Chg) : List Chg := l.foldl N4 R
def OfI (l : List Chg) (s : Nat) (e : Int) (k : Nat) (τ : St) : Prop := τ 4 = .d (.raw (va s)) ∧ τ 9 = .d (E6 l) ∧ τ 10 = .d (.int .i64 l.length) ∧ τ 11 = .d (.int .i64 k) ∧ ofE (ofR [] (l.take k)) (l.drop k) = e ∧ StF τ 1000000 s (ofR [] (l.take k))
theorem c8S (l : List Chg) (hl : l.length < 100000) (hf : ∀ c ∈ l, O8 c) : H5 prog 17 [.d (E6 l)] [] (fun x hs' => (ofE [] l ≠ 0 ∧ x = .tup [.d .nilp, .d (.int .i64 (ofE [] l))] ∧ hs' = []) ∨ (ofE [] l = 0 ∧ ∃ s r m E, x = .tup [.d (.raw (va s)), .d (.int .i64 0)] ∧ a0m E = S9 (ofR [] l) ∧ hs' = stH s r m (ofR [] l) E)) := by
 refine a3L (rs := [.tmp 2, .tmp 3]) (fun i => i == 5000008 || i == 5000017) (by kernel_rfl) func17 (by kernel_rfl) rfl rfl (by simp) (nbl rfl) (by kernel_rfl) rfl ?_; simp -implicitDefEqProofs [A7]; refine M9 [] 1000000 c0K rfl rfl (by simp) ?_; rintro x hs' ⟨s, r, m, rfl, hh⟩; have hh2 : hs' = [.hb (va s) 65 (.agg [.raw (.map (some r)), .raw (.map (some m))]), .hm (.map (some r)) 35 (S0 []) none, .hm (.map (some m)) 9 (S6 []) none] := hh; clear hh; subst hh2; simp -implicitDefEqProofs [A7, D2, C6]; refine G7 l.length (OfI l s (ofE [] l)) ⟨by simp, by simp [E6], by simp, by simp, by simp [ofR], ?_⟩ ?_
 · refine ⟨b0t, r, m, [], rfl, rfl, by simp [a9x], fun i hi => ?_⟩; simp only [a9x, length_nil] at hi
   match i, hi with
   | 0, _ => simp [stH, U5]
   | 1, _ => simp [stH, U5, ofR]
   | 2, _ => simp [stH, U5]
 rintro k τ hk ⟨h4, h9, h10, h11, hE, hF⟩; by_cases hlt : k < l.length
 · have hlt' : (k : Int) < l.length := (by omega); obtain ⟨c, hx⟩ : ∃ c, l[k] = c := ⟨_, rfl⟩; have hc : O8 c := by rw [← hx]; exact hf _ (gmm _)
   have ec : A6 c = .agg [B0 c.1, .int .i64 (opC c), .str (idC c), .str c.2.2.2.1, .str c.2.2.2.2.1, .str c.2.2.2.2.2] := rfl; rw [drop_eq_getElem_cons hlt, hx, ofE] at hE; have hR2 : ofR [] (l.take (k + 1)) = N4 (ofR [] (l.take k)) c := by rw [F6 hlt, hx]; simp [ofR]
   simp -implicitDefEqProofs [h4, h9, h10, h11, hlt, hlt', E6, hx, ec, A9]; rw [← ec]; refine b5i (R := ofR [] (l.take k)) 1000000 s (Nat.le_refl _) (by omega) (by repeat first | exact hF | apply StF.put | apply StF.setv | apply StF.clean | omega) hc (fun τ2 ks hF2 hd2 hks hτ hoth => ?_); have t4 : τ2 4 = .d (.raw (va s)) := by rw [hτ 4 (by omega) (by omega)]; simp [h4, F9]
   have t9 : τ2 9 = .d (E6 l) := by rw [hτ 9 (by omega) (by omega)]; simp [h9, F9]
   have t10 : τ2 10 = .d (.int .i64 l.length) := by rw [hτ 10 (by omega) (by omega)]; simp [h10, F9]
   have t11 : τ2 11 = .d (.int .i64 k) := by rw [hτ 11 (by omega) (by omega)]; simp [h11, F9]
   by_cases he : Q9 (ofR [] (l.take k)) c = 0
   · rw [if_neg (by simpa using he)] at hE; rw [← hR2] at hE hF2; rw [he] at hd2; simp -implicitDefEqProofs [t4, t9, t10, t11, hd2]; exact ⟨by omega, D5 hlt ⟨by simp [t4], by simp [t9], by simp [t10], by simp, hE, by repeat first | exact hF2 | apply StF.put | apply StF.setv | apply StF.clean | omega⟩⟩
   · rw [if_pos he] at hE; rw [hE] at hd2 he; simp -implicitDefEqProofs [t4, t9, t10, t11, hd2, he]; exact ⟨[.d .nilp, .d (.int .i64 (ofE [] l))], [], by simp, by simp, by simp [X0, a1V], rfl, rfl⟩
 · have hlt' : ¬ (k : Int) < l.length := (by omega); rw [drop_eq_nil_of_le (by omega), ofE] at hE; rw [ttl (by omega)] at hF; obtain ⟨hB, r2, m2, E2, hE2, hF2⟩ := hF; simp -implicitDefEqProofs [h4, h9, h10, h11, hlt, hlt', E6]; have hP := (((hF2.put (x := .d (.bool false)) (d := 12) (by omega)).put (x := .d (.raw (va s))) (d := 22) (by omega)).put (x := .d (.raw (va s))) (d := 2) (by omega)).put (x := .d (.int .i64 0)) (d := 3) (by omega); exact ⟨[.d (.raw (va s)), .d (.int .i64 0)], X3 1000000 (stH s r2 m2 (ofR [] l) E2).length, a2E _ _, fun k hk => hP.isH k hk, by simp [X0, a1V], .inr ⟨hE.symm, s, rfl, r2, m2, E2, hE2, hP.map⟩⟩
def Oth (σ τ : St) (d : Nat) : Prop := ∃ ks : List Nat, (∀ j, j < 1000000 → ks.contains j = false) ∧ ∀ i, i < 1000000 → i ≠ d → τ i = F9 ks (E9 d (σ i))
theorem Oth.dd {σ τ : St} {d i : Nat} {y : D} (h : Oth σ τ d) (hi : i < 1000000) (hid : i ≠ d) (hy : σ i = .d y) : τ i = .d y := by
 obtain ⟨ks, _, h2⟩ := h; rw [h2 i hi hid, hy]; rfl
theorem Oth.bx {σ τ : St} {d i : Nat} {y : D} (h : Oth σ τ d) (hi : i < 1000000) (hid : i ≠ d) (hy : σ i = .box y) : τ i = .box y := by
 obtain ⟨ks, _, h2⟩ := h; rw [h2 i hi hid, hy]; rfl
theorem Oth.ow {σ τ : St} {d i : Nat} {m : Bool} {e : TypeId} {l : List D} (h : Oth σ τ d) (hi : i < 1000000) (hid : i ≠ d) (hy : σ i = .own m e l) : τ i = .own m e l := by
 obtain ⟨ks, _, h2⟩ := h; rw [h2 i hi hid, hy]; rfl
theorem a7H {x : AV} (h : V0 x = true) (d : Nat) (ks : List Nat) : F9 ks (E9 d x) = x := by
 cases x <;> simp [V0] at h <;> rfl
theorem a3i {B n i : Nat} (hB : 1000000 ≤ B) (hi : i < 1000000) : i ∉ X3 B n := fun hm => by
 obtain ⟨j, _, hj⟩ := mem_map.1 hm; omega
theorem a7i {B B2 n i : Nat} (hn : n ≤ 500000) (hi : i < 500000) (h : B2 + 1000000 ≤ B ∨ B + 1000000 ≤ B2) : B2 + i ∉ X3 B n := fun hm => by
 obtain ⟨j, hj, e⟩ := mem_map.1 hm; have : j < n := (by simpa using hj); omega
def a4Y (σ τ : St) (B : Nat) : Prop := ∀ B2 hs2, Fam σ B2 hs2 → 1000000 ≤ B2 → (B2 + 1000000 ≤ B ∨ B + 1000000 ≤ B2) → Fam τ B2 hs2
theorem a4Y.st {σ τ : St} {B B2 s : Nat} {R : List Chg} (h : a4Y σ τ B) (hF : StF σ B2 s R) (hB : 1000000 ≤ B2) (hBB : B2 + 1000000 ≤ B ∨ B + 1000000 ≤ B2) : StF τ B2 s R := by
 obtain ⟨hR, r, m, E, hE, hF⟩ := hF; exact ⟨hR, r, m, E, hE, h B2 _ hF hB hBB⟩
theorem a2w {f : FuncId} {σ : St} {d : Nat} {K : St → Prop} (B s : Nat) (hB : 1000000 ≤ B) (hd : d < 1000000) {R : List Chg} (hF : StF σ B s R) {ds : List D} {res : AV} (hE : Enters prog f) (h : ∀ x, StD R x → Ctr prog f (.d x :: ds.map .d) res) (hm : V0 res = true)
   (hk : ∀ τ, StF τ B s R → τ d = res → Oth σ τ d → a4Y σ τ B → K τ) : a3j prog f (.d (.raw (va s)) :: ds.map .d) σ d K := by
 obtain ⟨hR, r, m, E, hEE, hFam⟩ := hF; have hlen := hFam.2.1; refine b7x (X3 B (stH s r m R E).length) (fun k hk => by obtain ⟨j, _, rfl⟩ := mem_map.1 hk; omega) hd (a2E _ _) hFam.isH (r := res) ?_ (fun τ h1 h2 h3 => ?_)
 · rw [hFam.map]; refine H5.lendL (ds := .raw (va s) :: ds) hE (fun w L hr => ?_) hm; obtain ⟨x, hx, hln⟩ := b0k (s := s) (r := r) (m := m) hr hEE (fun x hx => hx); exact ⟨x :: ds, .cons hln (a6h ds), h x hx⟩
 · refine hk τ ⟨hR, r, m, E, hEE, hFam.1, hFam.2.1, fun i hi => ?_⟩ (by rw [h2, a7H hm]) ⟨_, fun j hj => ?_, fun i hi hid => h3 i (a3i hB hi) hid⟩ (fun B2 hs2 hF2 hB2 hBB => ⟨hF2.1, hF2.2.1, fun i hi => ?_⟩)
   · rw [h1 _ (mem_map.2 ⟨i, by simpa using hi, rfl⟩)]; exact hFam.2.2 i hi
   · have := a3i (n := (stH s r m R E).length) hB hj; simp [this]
   · have h4 := hF2.2.1; have hH2 := all_eq_true.1 hF2.1 _ (gmm hi); rw [h3 _ (a7i hlen (by omega) hBB) (by omega), hF2.2.2 i hi, a2H hH2, a1N hH2]
theorem b5g {f : FuncId} {σ : St} {d : Nat} {K : St → Prop} (B1 s1 B2 s2 : Nat) (hB1 : 1000000 ≤ B1) (hB2 : 1000000 ≤ B2) (hBB : B1 + 1000000 ≤ B2) (hd : d < 1000000) {R1 R2 : List Chg} (hF1 : StF σ B1 s1 R1) (hF2 : StF σ B2 s2 R2) {ds : List D} {res : AV} (hE : Enters prog f)
   (h : ∀ x y, StD R1 x → StD R2 y → Ctr prog f (.d x :: .d y :: ds.map .d) res) (hm : V0 res = true)
   (hk : ∀ τ, StF τ B1 s1 R1 → StF τ B2 s2 R2 → τ d = res → Oth σ τ d → (∀ B3 s3 R3, StF σ B3 s3 R3 → 1000000 ≤ B3 → (B3 + 1000000 ≤ B1 ∨ B1 + 1000000 ≤ B3) → (B3 + 1000000 ≤ B2 ∨ B2 + 1000000 ≤ B3) → StF τ B3 s3 R3) → K τ) : a3j prog f (.d (.raw (va s1)) :: .d (.raw (va s2)) :: ds.map .d) σ d K := by
 obtain ⟨hR1, r1, m1, E1, hE1, hFam1⟩ := hF1; obtain ⟨hR2, r2, m2, E2, hE2, hFam2⟩ := hF2; have hl1 := hFam1.2.1; have hl2 := hFam2.2.1; refine b7x (X3 B1 (stH s1 r1 m1 R1 E1).length ++ X3 B2 (stH s2 r2 m2 R2 E2).length) (fun k hk => ?_) hd ?_ (fun k hk => ?_) (r := res) ?_ (fun τ h1 h2 h3 => ?_)
 · rcases mem_append.1 hk with hk | hk
   · obtain ⟨j, _, rfl⟩ := mem_map.1 hk; omega
   · obtain ⟨j, _, rfl⟩ := mem_map.1 hk; omega
 · refine nodup_append.2 ⟨a2E _ _, a2E _ _, fun a ha b hb e => ?_⟩; obtain ⟨i, hi, rfl⟩ := mem_map.1 ha; obtain ⟨j, hj, rfl⟩ := mem_map.1 hb; have : i < (stH s1 r1 m1 R1 E1).length := (by simpa using hi); omega
 · rcases mem_append.1 hk with hk | hk
   · exact hFam1.isH k hk
   · exact hFam2.isH k hk
 · rw [map_append, hFam1.map, hFam2.map]; refine H5.lendL (ds := .raw (va s1) :: .raw (va s2) :: ds) hE (fun w L hr => ?_) hm; obtain ⟨x, hx, hln⟩ := b0k (s := s1) (r := r1) (m := m1) hr hE1 (fun x hx => mem_append.2 (.inl hx)); obtain ⟨y, hy, hln2⟩ := b0k (s := s2) (r := r2) (m := m2) hr hE2 (fun x hx => mem_append.2 (.inr hx)); exact ⟨x :: y :: ds, .cons hln (.cons hln2 (a6h ds)), h x y hx hy⟩
 · refine hk τ ⟨hR1, r1, m1, E1, hE1, hFam1.1, hFam1.2.1, fun i hi => ?_⟩ ⟨hR2, r2, m2, E2, hE2, hFam2.1, hFam2.2.1, fun i hi => ?_⟩ (by rw [h2, a7H hm]) ⟨_, fun j hj => ?_, fun i hi hid => h3 i (fun hm => ?_) hid⟩ (fun B3 s3 R3 hF3 hB3 q1 q2 => ?_)
   · rw [h1 _ (mem_append.2 (.inl (mem_map.2 ⟨i, by simpa using hi, rfl⟩)))]; exact hFam1.2.2 i hi
   · rw [h1 _ (mem_append.2 (.inr (mem_map.2 ⟨i, by simpa using hi, rfl⟩)))]; exact hFam2.2.2 i hi
   · have e1 := a3i (n := (stH s1 r1 m1 R1 E1).length) hB1 hj; have e2 := a3i (n := (stH s2 r2 m2 R2 E2).length) hB2 hj; simp [e1, e2]
   · rcases mem_append.1 hm with hm | hm
     · exact a3i hB1 hi hm
     · exact a3i hB2 hi hm
   · obtain ⟨hR3, r3, m3, E3, hE3, hF3⟩ := hF3; refine ⟨hR3, r3, m3, E3, hE3, hF3.1, hF3.2.1, fun i hi => ?_⟩; have h4 := hF3.2.1; have hH3 := all_eq_true.1 hF3.1 _ (gmm hi); rw [h3 _ (fun hm => ?_) (by omega), hF3.2.2 i hi, a2H hH3, a1N hH3]; rcases mem_append.1 hm with hm | hm
     · exact a7i hl1 (by omega) q1 hm
     · exact a7i hl2 (by omega) q2 hm
theorem b4Y {σ : St} {d : Nat} {K : St → Prop} (B : Nat) (hB : 1000000 ≤ B) (hd : d < 1000000)
   (hk : ∀ s τ, StF τ B s [] → τ d = .d (.raw (va s)) → Oth σ τ d → a4Y σ τ B → K τ) : a3j prog 11 [] σ d K := by
 refine ⟨[], B, _, by simp, by simp, c0K, fun x hs' hp => ?_⟩; obtain ⟨s, r, m, rfl, hh⟩ := hp; have hh2 : hs' = [.hb (va s) 65 (.agg [.raw (.map (some r)), .raw (.map (some m))]), .hm (.map (some r)) 35 (S0 []) none, .hm (.map (some m)) 9 (S6 []) none] := hh; have hH : ∀ x ∈ hs', isH x = true := fun x hx => by rw [hh] at hx; exact all_eq_true.1 (a9n s r m [] []) x hx
 have hlen : hs'.length = 3 := by rw [hh2]; rfl
 have hput : ∀ i, i ∉ a0t [] B 3 → D2 (put (C6 σ []) d (.d (.raw (va s)))) [] B hs' i = F9 (a0t [] B 3) (put σ d (.d (.raw (va s))) i) := fun i hi => by
   have := a0f hs' [] (put (C6 σ []) d (.d (.raw (va s)))) B i (by rw [hlen]; exact hi); rw [hlen] at this; exact this
 have hL : ∀ k ∈ a0t [] B 3, B ≤ k ∧ k < B + 3 := fun k hk => by
   rcases a3b _ _ _ _ hk with h | h
   · simp at h
   · exact h
 refine hk s _ ⟨b0t, r, m, [], rfl, a9n _ _ _ _ _, by simp [a9x], fun i hi => ?_⟩ ?_ ⟨a0t [] B 3, fun j hj => ?_, fun i hi hid => ?_⟩ (fun B2 hs2 hF2 hB2 hBB => ⟨hF2.1, hF2.2.1, fun i hi => ?_⟩)
 · have := a9l hs' (put (C6 σ []) d (.d (.raw (va s)))) B hH i (by rw [hh]; exact hi); rw [this]; simp only [hh]
 · rw [hput d (fun hm => by have := hL d hm; omega)]; simp only [put, if_true]; rfl
 · rw [Bool.eq_false_iff]; intro hc; have := hL j (by simpa using hc); omega
 · rw [hput i (fun hm => by have := hL i hm; omega)]; simp only [put, if_neg hid]
 · have h4 := hF2.2.1; have hH2 := all_eq_true.1 hF2.1 _ (gmm hi); rw [hput _ (fun hm => by have := hL _ hm; omega)]; simp only [put, if_neg (show ¬ B2 + i = d by omega)]; rw [hF2.2.2 i hi, a2H hH2, a1N hH2]
def idS (n : UInt8) : Str := [48, 48, 48, 48, 48, 48, 48, 48, 48, 48, n, 45, 48, 48, 48, 48, 48, 48, 48, 48, 45, 48]
def nxS : Str := [99, 110, 61, 120, 44, 111, 61, 97, 99, 109, 101]
def nyS : Str := [99, 110, 61, 121, 44, 111, 117, 61, 115, 44, 111, 61, 97, 99, 109, 101]
def alL : List Chg := [atC 2 1 (idS 50) nxS [], atC 1 1 (idS 49) nxS [], atC 5 4 (idS 49) [] [109], atC 4 5 (idS 49) [] [109], atC 6 1 (idS 54) nyS []]
theorem c7O : I1 (1, 0, 0) = idS 49 := by kernel_rfl
theorem c7z : I1 (2, 0, 0) = idS 50 := by kernel_rfl
theorem c7w : I1 (6, 0, 0) = idS 54 := by kernel_rfl
theorem c9s : ofE [] alL = 0 := by kernel_rfl
theorem d4c : ofR [] alL = alL := by kernel_rfl
def al2 : List Chg := alL ++ [atC 3 2 (idS 49) [] []]
theorem d3e : Q9 alL (atC 3 2 (idS 49) [] []) = 0 := by kernel_rfl
theorem c9D : N4 alL (atC 3 2 (idS 49) [] []) = al2 := by kernel_rfl
theorem c8c : a3s alL = [idS 50, idS 49, idS 54] := by kernel_rfl
theorem b5M {l m : List Str} (hm : SS m) (hp : m.Perm l) : I7 l = m := by
 have h1 : (I7 l).Pairwise fun x y => ¬ y < x := a8u l
 have h2 : m.Pairwise fun x y => ¬ y < x := hm.imp fun h h' => List.lt_irrefl _ (List.lt_trans h h')
 have h3 : (I7 l).Perm m := (mergeSort_perm _ _).trans hp.symm; exact h3.eq_of_pairwise (fun a b _ _ h4 h5 => a2T h5 h4) h1 h2
theorem a4B : B9 alL = [idS 49, idS 50, idS 54] := by
 unfold B9; rw [c8c]; exact b5M (by unfold SS; decide) (Perm.swap _ _ _)
theorem c5J : O5 alL [idS 49, idS 50, idS 54] = [(nxS, idS 49), (nyS, idS 54)] := by kernel_rfl
theorem b5t (id : Str) : Z6 alL id = decide (K9 [(nxS, idS 49), (nyS, idS 54)] (M8 alL id) = some id) := by unfold Z6; rw [a4B, c5J]
theorem c5A : a0x alL = [idS 50] := by
 unfold a0x; rw [a4B]; simp only [b5t]
 kernel_rfl
theorem c5n : a2f alL (idS 49) = [(a3z, [[109]])] := by
 kernel_rfl
def nx2 : Str := [99, 110, 61, 120, 35] ++ idS 50 ++ [44, 111, 61, 97, 99, 109, 101]
theorem b9O (id : Str) : G9 alL id = if decide (K9 [(nxS, idS 49), (nyS, idS 54)] (M8 alL id) = some id) then M8 alL id else b0x (M8 alL id) id := by unfold G9; rw [b5t]
theorem b4R : G9 alL (idS 49) = nxS := by rw [b9O]; kernel_rfl
theorem b4T : G9 alL (idS 50) = nx2 := by rw [b9O]; kernel_rfl
theorem b8W : G9 alL (idS 54) = nyS := by rw [b9O]; kernel_rfl
theorem d0K : Q8 alL (idS 49) = ((nxS, [(a3z, [[109]])]), true) := by
 unfold Q8; rw [if_pos (by rw [a4B]; simp), b4R, c5n]
theorem c4N : a2f alL (idS 50) = [] := by kernel_rfl
theorem d0c : Q8 alL (idS 50) = ((nx2, []), true) := by
 unfold Q8; rw [if_pos (by rw [a4B]; simp), b4T, c4N]
theorem c7T : I9 alL = [idS 49, idS 50, idS 54] := by
 unfold I9; rw [a4B]; have hn : [idS 49, idS 50, idS 54].Nodup := (by decide); refine c1o (key := G9 alL) (b0o hn) ?_ (Q5 (b0e _) _).1; unfold KS; have h1 : cfK (G9 alL) (idS 49) (idS 50) = -1 := by
   unfold cfK; rw [b4R, b4T]; kernel_rfl
 have h2 : cfK (G9 alL) (idS 49) (idS 54) = -1 := by
   unfold cfK; rw [b4R, b8W]; kernel_rfl
 have h3 : cfK (G9 alL) (idS 50) (idS 54) = -1 := by
   unfold cfK; rw [b4T, b8W]; kernel_rfl
 simp [h1, h2, h3]
theorem c3q : (V6 alL [idS 49, idS 50, idS 54]).2 = [idS 54] := by
 simp only [V6, foldl_cons, foldl_nil, a1v, a9f, a2a, b4R, b4T, b8W]
 kernel_rfl
theorem c5Q : (a0w alL).length = 1 := by
 unfold a0w I7; rw [length_mergeSort, c7T, c3q]; rfl
theorem c5T : a3s al2 = [idS 50, idS 54] := by kernel_rfl
theorem a6Q : B9 al2 = [idS 50, idS 54] := by
 unfold B9; rw [c5T]; exact b5M (by unfold SS; decide) (Perm.refl _)
theorem c5p : O5 al2 [idS 50, idS 54] = [(nxS, idS 50), (nyS, idS 54)] := by kernel_rfl
theorem b3w (id : Str) : Z6 al2 id = decide (K9 [(nxS, idS 50), (nyS, idS 54)] (M8 al2 id) = some id) := by unfold Z6; rw [a6Q, c5p]
theorem c3U : a0x al2 = [] := by
 unfold a0x; rw [a6Q]; simp only [b3w]
 kernel_rfl
theorem c7A : G9 al2 (idS 50) = nxS := by unfold G9; rw [b3w]; kernel_rfl
theorem c3a : a3B al2 nxS = (idS 50, true) := by
 unfold a3B; rw [a6Q, find?_cons_of_pos (by rw [c7A]; simp)]
theorem c4A : (a0d al2).length = 2 := by
 unfold a0d; rw [length_map, a4L, a6Q]; rfl
theorem a9T {a b : Chg} (ha : opC a = 0 ∨ F7 (opC a) = true) (hb : F7 (opC b) = true) : F7 (opC (O4 a b)) = true := by
 unfold O4; split
 · exact hb
 · rename_i h
   rcases ha with h1 | h1
   · exact absurd (.inl h1) h
   · exact h1
theorem c0U (R : List Chg) (id : Str) : (opC (abF R id).nm = 0 ∨ F7 (opC (abF R id).nm) = true) ∧ ((abF R id).cr = true → F7 (opC (abF R id).nm) = true) := by
 refine U6 (P := fun R => (opC (abF R id).nm = 0 ∨ F7 (opC (abF R id).nm) = true) ∧ ((abF R id).cr = true → F7 (opC (abF R id).nm) = true)) ⟨.inl rfl, by simp [abF, R7]⟩ (fun R c ih => ?_) R; rw [a0S]; split
 · unfold N6; split
   · rename_i h
     have := a9T (b := c) ih.1 (by simp [F7, h]); exact ⟨.inr this, fun _ => this⟩
   · split
     · rename_i h
       have := a9T (b := c) ih.1 (by simp [F7, h]); exact ⟨.inr this, fun _ => this⟩
     · split
       · exact ih
       · exact ih
 · exact ih
theorem c4m (R : List Chg) (id : Str) : (abF R id).vs.length ≤ R.length ∧ ∀ p ∈ (abF R id).vs, ∃ c ∈ R, p.1 = a0D c := by
 refine U6 (P := fun R => (abF R id).vs.length ≤ R.length ∧ ∀ p ∈ (abF R id).vs, ∃ c ∈ R, p.1 = a0D c) ⟨by simp [abF, R7], by simp [abF, R7]⟩ (fun R c ih => ?_) R; have h0 : (abF R id).vs.length ≤ (R ++ [c]).length ∧ ∀ p ∈ (abF R id).vs, ∃ x ∈ R ++ [c], p.1 = a0D x := by
   refine ⟨by have := ih.1; simp; omega, fun p hp => ?_⟩; obtain ⟨x, hx, e⟩ := ih.2 p hp; exact ⟨x, by simp [hx], e⟩
 rw [a0S]; split
 · unfold N6; split
   · exact h0
   · split
     · exact h0
     · split
       · exact h0
       · simp only; unfold a4c; split
         · refine ⟨by simpa using h0.1, fun p hp => ?_⟩; obtain ⟨q, hq, e⟩ := mem_map.1 hp; obtain ⟨x, hx, e2⟩ := h0.2 q hq; refine ⟨x, hx, ?_⟩; rw [← e, ← e2]; split <;> rfl
         · refine ⟨by have := ih.1; simp; omega, fun p hp => ?_⟩; rcases mem_append.1 hp with hp | hp
           · exact h0.2 p hp
           · rw [mem_singleton.1 hp]; exact ⟨c, by simp, rfl⟩
 · exact h0
theorem a5g {R : List Chg} (h : a8y R) : a0y R := by
 refine ⟨by have := b5K R; have := h.few; omega, fun id hid => ?_, fun id => ?_⟩
 · obtain ⟨⟨c, hc, rfl⟩, hl⟩ := a5z.1 hid; have hcr : (abF R (idC c)).cr = true := by
     simp only [a2A, Bool.and_eq_true] at hl; exact hl.1
   have hn := (c0U R (idC c)).2 hcr; obtain ⟨h1, _⟩ := b5d R (idC c); have hm : (abF R (idC c)).nm ∈ R := by
     rcases h1 with h1 | h1
     · exact h1
     · rw [h1] at hn; exact absurd hn (by decide)
   have ho := a1x.1 (h.ok _ hc); have hon := a1x.1 (h.ok _ hm); obtain ⟨h3, h4⟩ := a7A (c := (P0 (idC c)).1) (s := idC c) (by rw [← ho.id]); have hidl : length (idC c) = 22 := by rw [← h3, a5S h4]
   have hb := hon.name; unfold J5 at hb; have hn' : F7 (abF R (idC c)).nm.2.1 = true := hn; simp only [hn', Bool.true_and, Bool.or_eq_false_iff, decide_eq_false_iff_not, Bool.not_eq_false'] at hb; obtain ⟨l, hl2⟩ := a7t.1 hb.1.2; have hpl : (E8 (M8 R (idC c))).1 = l := by
     have h6 := hl2; unfold M4 at h6; split at h6
     · exact Option.some.inj h6
     · cases h6
   refine ⟨?_, (h.fit _ hm).name, by omega, fun e => by rw [e] at hidl; simp at hidl⟩; rw [hpl]; intro e; exact hb.1.1 ((c5u hl2).2 e)
 · obtain ⟨h1, h2⟩ := c4m R id; refine ⟨by have := h.few; omega, fun p hp => ?_⟩; obtain ⟨c, hc, e⟩ := h2 p hp; rw [e]; exact ⟨(h.fit c hc).attr, (h.fit c hc).value⟩
theorem a9t (a b : Chg) : ltM a b = true ↔ H8 a.1 b.1 < 0 ∨ (a.1 = b.1 ∧ (G6 a).1 < (G6 b).1) := by
 unfold ltM orI orI orI; rw [decide_eq_true_eq]; by_cases h : H8 a.1 b.1 = 0
 · rw [if_neg (by simpa using h)]; have h1 := T5.1 h; by_cases h2 : a0r (G6 a).1 (G6 b).1 = 0
   · rw [if_neg (by simpa using h2)]; have h3 := b3C.1 h2; rw [h3]; have : ¬ (G6 b).1 < (G6 b).1 := List.lt_irrefl _; simp [this, h]
   · rw [if_pos h2, b0m]; exact ⟨fun h3 => .inr ⟨h1, h3⟩, fun h3 => h3.elim (fun h4 => by omega) (·.2)⟩
 · rw [if_pos h]; have : a.1 ≠ b.1 := fun e => h (T5.2 e)
   simp [this]
theorem b7K (a : Chg) : ltM a a = false := by
 rw [Bool.eq_false_iff, ne_eq, a9t]; rintro (h | ⟨_, h⟩)
 · rw [T5.2 rfl] at h; omega
 · exact List.lt_irrefl _ h
theorem c1a {a b c : Chg} (h1 : ltM a b = true) (h2 : ltM b c = true) : ltM a c = true := by
 rw [a9t] at *; rcases h1 with h1 | ⟨h1, h3⟩ <;> rcases h2 with h2 | ⟨h2, h4⟩
 · exact .inl (a2O h1 h2)
 · rw [h2] at h1; exact .inl h1
 · rw [← h1] at h2; exact .inl h2
 · exact .inr ⟨h1.trans h2, List.lt_trans h3 h4⟩
theorem c5U {a b : Chg} (ha : F4 a = 0) (hb : F4 b = 0) (h1 : ltM a b = false) (h2 : ltM b a = false) : a = b := by
 have h1' : ¬ (H8 a.1 b.1 < 0 ∨ (a.1 = b.1 ∧ (G6 a).1 < (G6 b).1)) := fun h => by rw [← a9t, h1] at h; cases h
 have h2' : ¬ (H8 b.1 a.1 < 0 ∨ (b.1 = a.1 ∧ (G6 b).1 < (G6 a).1)) := fun h => by rw [← a9t, h2] at h; cases h
 have h3 := W3 a.1 b.1; have h4 : H8 a.1 b.1 = 0 := by
   simp only [not_or] at h1' h2'; omega
 have h5 := T5.1 h4; have h6 : (G6 a).1 = (G6 b).1 := a2T (fun h => h1' (.inr ⟨h5, h⟩)) (fun h => h2' (.inr ⟨h5.symm, h⟩)); rw [a3Y ha, a3Y hb] at h6; exact a5x ha hb h6
theorem c4X {c : Chg} (h : F4 c = 0) : opC c ≠ 0 := by
 have := (a1x.1 h).op1
 show c.2.1 ≠ 0
 omega
def a0F (L : List Chg) : Chg := L.foldl O4 M3
theorem a5v (L : List Chg) (c : Chg) : a0F (L ++ [c]) = O4 (a0F L) c := by simp [a0F]
theorem b4u {L : List Chg} (h : ∀ c ∈ L, F4 c = 0) : (L = [] ∧ a0F L = M3) ∨ (a0F L ∈ L ∧ ∀ c ∈ L, ltM (a0F L) c = false) := by
 have key : ∀ L : List Chg, (∀ c ∈ L, F4 c = 0) → (L = [] ∧ a0F L = M3) ∨ (a0F L ∈ L ∧ ∀ c ∈ L, ltM (a0F L) c = false) := fun L => by
   refine U6 (P := fun L => (∀ c ∈ L, F4 c = 0) → (L = [] ∧ a0F L = M3) ∨ (a0F L ∈ L ∧ ∀ c ∈ L, ltM (a0F L) c = false)) (fun _ => .inl ⟨rfl, rfl⟩) (fun L c ih h => ?_) L; have hc := h c (by simp); refine .inr ?_; rw [a5v]; rcases ih (fun x hx => h x (by simp [hx])) with ⟨rfl, e⟩ | ⟨h1, h2⟩
   · rw [e]; have : O4 M3 c = c := by unfold O4; rw [if_pos (.inl rfl)]
     rw [this]; refine ⟨by simp, fun x hx => ?_⟩; simp only [nil_append, mem_singleton] at hx; rw [hx, b7K]
   · have hm := h _ (mem_append.2 (.inl h1)); unfold O4; by_cases hlt : ltM (a0F L) c = true
     · rw [if_pos (.inr ⟨c4X hc, hlt⟩)]; refine ⟨by simp, fun x hx => ?_⟩; rcases mem_append.1 hx with hx | hx
       · rw [Bool.eq_false_iff]; intro hq; have := c1a hlt hq; rw [h2 x hx] at this; cases this
       · rw [mem_singleton.1 hx, b7K]
     · rw [if_neg (by
         rintro (h5 | ⟨_, h5⟩)
         · exact c4X hm h5
         · exact hlt h5)]
       refine ⟨by simp [h1], fun x hx => ?_⟩; rcases mem_append.1 hx with hx | hx
       · exact h2 x hx
       · rw [mem_singleton.1 hx]; simpa using hlt
 exact key L h
theorem b5Z {L M : List Chg} (h : ∀ c ∈ L, F4 c = 0) (hLM : ∀ c, c ∈ L ↔ c ∈ M) : a0F L = a0F M := by
 have h' : ∀ c ∈ M, F4 c = 0 := fun c hc => h c ((hLM c).2 hc)
 rcases b4u h with ⟨rfl, e1⟩ | ⟨h1, h2⟩ <;> rcases b4u h' with ⟨rfl, e2⟩ | ⟨h3, h4⟩
 · rw [e1]
 · exact absurd ((hLM _).2 h3) (by simp)
 · exact absurd ((hLM _).1 h1) (by simp)
 · exact c5U (h _ h1) (h' _ h3) (h2 _ ((hLM _).2 h3)) (h4 _ ((hLM _).1 h1))
def b1Z (R : List Chg) (id : Str) : List Chg := R.filter fun c => decide (idC c = id) && F7 (opC c)
def U4 (R : List Chg) (id : Str) (k : VK) : List Chg := R.filter fun c => decide (idC c = id) && (F3 (opC c) && decide (a0D c = k))
theorem c4g {c : Chg} (h : F4 c = 0) : opC c = 1 ∨ opC c = 2 ∨ opC c = 3 ∨ opC c = 4 ∨ opC c = 5 := by
 have h1 := (a1x.1 h).op1; have h2 := (a1x.1 h).op5
 show c.2.1 = 1 ∨ c.2.1 = 2 ∨ c.2.1 = 3 ∨ c.2.1 = 4 ∨ c.2.1 = 5
 omega
theorem c1j (R : List Chg) (id : Str) : (abF R id).cr = R.any fun c => decide (idC c = id) && decide (opC c = 1) := by
 refine U6 (P := fun R => (abF R id).cr = R.any fun c => decide (idC c = id) && decide (opC c = 1)) rfl (fun R c ih => ?_) R; rw [a0S, any_append, ← ih]; by_cases h : idC c = id
 · rw [if_pos h]; unfold N6; by_cases h1 : opC c = 1
   · simp [h, h1]
   · rw [if_neg h1]; simp only [h1, decide_false, Bool.and_false, any_cons, any_nil, Bool.or_false]
     (repeat' split) <;> rfl
 · rw [if_neg h]; simp [h]
theorem c1m (R : List Chg) (id : Str) : (abF R id).rm = R.any fun c => decide (idC c = id) && decide (opC c = 2) := by
 refine U6 (P := fun R => (abF R id).rm = R.any fun c => decide (idC c = id) && decide (opC c = 2)) rfl (fun R c ih => ?_) R; rw [a0S, any_append, ← ih]; by_cases h : idC c = id
 · rw [if_pos h]; unfold N6; by_cases h1 : opC c = 1
   · simp [h, h1]
   · by_cases h3 : opC c = 3
     · simp [h, h3]
     · by_cases h2 : opC c = 2
       · simp [h, h2]
       · simp [h, h1, h2, h3]
 · rw [if_neg h]; simp [h]
theorem c1y (R : List Chg) (id : Str) : (abF R id).nm = a0F (b1Z R id) := by
 refine U6 (P := fun R => (abF R id).nm = a0F (b1Z R id)) rfl (fun R c ih => ?_) R; rw [a0S]; unfold b1Z at ih ⊢; rw [filter_append]; by_cases h : idC c = id
 · rw [if_pos h]; unfold N6; by_cases h1 : opC c = 1
   · rw [if_pos h1]; simp only [filter_cons, h, h1, F7, decide_true, Bool.true_or, Bool.and_self, if_true, filter_nil, a5v, ih]
   · rw [if_neg h1]; by_cases h3 : opC c = 3
     · rw [if_pos h3]; simp only [filter_cons, h, h3, F7, decide_true, Bool.or_true, Bool.and_self, if_true, filter_nil, a5v, ih]
     · rw [if_neg h3]; have : F7 (opC c) = false := (by simp [F7, h1, h3]); simp only [filter_cons, h, this, Bool.and_false, Bool.false_eq_true, if_false, filter_nil, append_nil]; split <;> exact ih
 · rw [if_neg h]; simp only [filter_cons, h, decide_false, Bool.false_and, Bool.false_eq_true, if_false, filter_nil, append_nil]; exact ih
theorem b9o (vs : List (VK × Chg)) (k k' : VK) (c : Chg) : a0X (a4c vs k c) k' = if k = k' then some c else a0X vs k' := by
 unfold a0X a4c; by_cases ha : vs.any (fun p => decide (p.1 = k)) = true
 · rw [if_pos ha]; have key : ∀ vs : List (VK × Chg), ((vs.map fun p => if p.1 = k then (p.1, c) else p).find? fun p => decide (p.1 = k')) = (vs.find? fun p => decide (p.1 = k')).map fun p => if p.1 = k then (p.1, c) else p := by
     intro vs
     induction vs with
     | nil => rfl
     | cons p vs ih =>
       rw [map_cons, find?_cons, find?_cons]; by_cases h : p.1 = k
       · rw [if_pos h]; by_cases h2 : p.1 = k'
         · simp only [decide_eq_true h2, Option.map_some, if_pos h]
         · simp only [decide_eq_false h2]; exact ih
       · rw [if_neg h]; by_cases h2 : p.1 = k'
         · simp only [decide_eq_true h2, Option.map_some, if_neg h]
         · simp only [decide_eq_false h2]; exact ih
   rw [key]; by_cases h : k = k'
   · rw [if_pos h]; obtain ⟨p, hp, e⟩ := any_eq_true.1 ha; cases hf : vs.find? fun p => decide (p.1 = k') with
     | none => exact absurd (by rw [← h]; exact e) (find?_eq_none.1 hf p hp)
     | some q =>
       have : q.1 = k' := by simpa using find?_some hf
       simp [this, h]
   · rw [if_neg h]; cases hf : vs.find? fun p => decide (p.1 = k') with
     | none => rfl
     | some q =>
       have hq : q.1 = k' := by simpa using find?_some hf
       have : ¬ q.1 = k := fun e => h (e.symm.trans hq)
       simp [this]
 · rw [if_neg ha, find?_append]; by_cases h : k = k'
   · subst h; rw [if_pos rfl]; have : vs.find? (fun p => decide (p.1 = k)) = none := by
       rw [find?_eq_none]; intro p hp hq; exact ha (any_eq_true.2 ⟨p, hp, hq⟩)
     simp [this]
   · rw [if_neg h]; have : find? (fun p : VK × Chg => decide (p.1 = k')) [(k, c)] = none := by simp [h]
     simp [this]
theorem c1z {R : List Chg} (hR : ∀ c ∈ R, F4 c = 0) (id : Str) (k : VK) : a0X (abF R id).vs k = if U4 R id k = [] then none else some (a0F (U4 R id k)) := by
 have key : ∀ R : List Chg, (∀ c ∈ R, F4 c = 0) → a0X (abF R id).vs k = if U4 R id k = [] then none else some (a0F (U4 R id k)) := fun R => by
   refine U6 (P := fun R => (∀ c ∈ R, F4 c = 0) → a0X (abF R id).vs k = if U4 R id k = [] then none else some (a0F (U4 R id k))) (fun _ => rfl) (fun R c ih h => ?_) R; have ih := ih fun x hx => h x (by simp [hx])
   have hc := h c (by simp); rw [a0S]; have hsn : U4 (R ++ [c]) id k = U4 R id k ++ (if idC c = id ∧ (F3 (opC c) = true ∧ a0D c = k) then [c] else []) := by
     unfold U4; rw [filter_append]; congr 1
     by_cases h1 : idC c = id <;> by_cases h2 : F3 (opC c) = true <;> by_cases h3 : a0D c = k <;> simp [h1, h2, h3]
   by_cases hid : idC c = id
   · rw [if_pos hid]; have hops := c4g hc; unfold N6; by_cases h1 : opC c = 1
     · rw [if_neg (by simp [F3, h1]), append_nil] at hsn; rw [if_pos h1, hsn]; exact ih
     · rw [if_neg h1]; by_cases h3 : opC c = 3
       · rw [if_neg (by simp [F3, h3]), append_nil] at hsn; rw [if_pos h3, hsn]; exact ih
       · rw [if_neg h3]; by_cases h2 : opC c = 2
         · rw [if_neg (by simp [F3, h2]), append_nil] at hsn; rw [if_pos h2, hsn]; exact ih
         · rw [if_neg h2]; have hv : F3 (opC c) = true := by simp only [F3, Bool.or_eq_true, decide_eq_true_eq]; omega
           simp only [b9o]; by_cases hk : a0D c = k
           · rw [if_pos ⟨hid, hv, hk⟩] at hsn; rw [if_pos hk, hsn, if_neg (by simp), a5v]; congr 1
             unfold a0T; rw [hk, ih]; split
             · rename_i e; rw [e]; rfl
             · rfl
           · rw [if_neg (by simp [hk]), append_nil] at hsn; rw [if_neg hk, hsn]; exact ih
   · rw [if_neg (by simp [hid]), append_nil] at hsn; rw [if_neg hid, hsn]; exact ih
 exact key R hR
structure AbE (a b : Abt) : Prop where
 cr : a.cr = b.cr
 rm : a.rm = b.rm
 nm : a.nm = b.nm
 vs : Perm a.vs b.vs
theorem b3J {vs : List (VK × Chg)} (hn : (vs.map (·.1)).Nodup) {k : VK} {c : Chg} : a0X vs k = some c ↔ (k, c) ∈ vs := by
 unfold a0X; constructor
 · intro h; cases hf : vs.find? fun p => decide (p.1 = k) with
   | none => rw [hf] at h; cases h
   | some q =>
     rw [hf] at h; have hq : q.1 = k := by simpa using find?_some hf
     simp only [Option.map_some, Option.some.injEq] at h; have := mem_of_find?_eq_some hf; rw [← hq, ← h]; exact this
 · intro h; cases hf : vs.find? fun p => decide (p.1 = k) with
   | none => exact absurd (by simp) (find?_eq_none.1 hf _ h)
   | some q =>
     have hq : q.1 = k := by simpa using find?_some hf
     have := c8a hn (mem_of_find?_eq_some hf) h hq; rw [this]; rfl
theorem c5i {R1 R2 : List Chg} (h1 : ∀ c ∈ R1, F4 c = 0) (hm : ∀ c, c ∈ R1 ↔ c ∈ R2) (id : Str) : AbE (abF R1 id) (abF R2 id) := by
 have h2 : ∀ c ∈ R2, F4 c = 0 := fun c hc => h1 c ((hm c).2 hc)
 have hany : ∀ f : Chg → Bool, R1.any f = R2.any f := fun f => by
   rw [Bool.eq_iff_iff, any_eq_true, any_eq_true]; exact ⟨fun ⟨c, hc, e⟩ => ⟨c, (hm c).1 hc, e⟩, fun ⟨c, hc, e⟩ => ⟨c, (hm c).2 hc, e⟩⟩
 refine ⟨by rw [c1j, c1j, hany], by rw [c1m, c1m, hany], ?_, ?_⟩
 · rw [c1y, c1y]; refine b5Z (fun c hc => h1 c ((mem_filter.1 hc).1)) fun c => ?_
   simp only [b1Z, mem_filter, hm]
 · refine (perm_ext_iff_of_nodup (a9w (a3T R1 id)) (a9w (a3T R2 id))).2 fun p => ?_
   obtain ⟨k, c⟩ := p; rw [← b3J (a3T R1 id), ← b3J (a3T R2 id), c1z h1, c1z h2]; have hv : ∀ x, x ∈ U4 R1 id k ↔ x ∈ U4 R2 id k := fun x => by simp only [U4, mem_filter, hm]
   have he : U4 R1 id k = [] ↔ U4 R2 id k = [] := by
     rw [eq_nil_iff_forall_not_mem, eq_nil_iff_forall_not_mem]; simp only [hv]
   have hmx := b5Z (L := U4 R1 id k) (fun c hc => h1 c (mem_filter.1 hc).1) hv; rw [hmx]; simp only [he]
theorem c3F {R1 R2 : List Chg} (h1 : ∀ c ∈ R1, F4 c = 0) (hm : ∀ c, c ∈ R1 ↔ c ∈ R2) : b0V R1 R2 := by
 have hA := c5i h1 hm; have hown : M8 R1 = M8 R2 := by funext id; unfold M8; rw [(hA id).nm]
 have hat : a2f R1 = a2f R2 := by funext id; exact a8p (hA id).vs
 have hlive : B9 R1 = B9 R2 := by
   refine a7F (b0h R1) (b0h R2) fun id => ?_
   rw [a5z, a5z]; refine and_congr ⟨fun ⟨c, hc, e⟩ => ⟨c, (hm c).1 hc, e⟩, fun ⟨c, hc, e⟩ => ⟨c, (hm c).2 hc, e⟩⟩ ?_; unfold a2A; rw [(hA id).cr, (hA id).rm]
 have hot : O5 R1 = O5 R2 := by funext l; unfold O5; rw [hown]
 have hob : Z6 R1 = Z6 R2 := by funext id; unfold Z6; rw [hot, hlive, hown]
 have hsh : G9 R1 = G9 R2 := by funext id; unfold G9; rw [hob, hown]
 have hord : I9 R1 = I9 R2 := by unfold I9; rw [hsh, hlive]
 have hpar : a2a R1 = a2a R2 := by funext id; unfold a2a; rw [hsh]
 have hq : a9f R1 = a9f R2 := by funext X id; unfold a9f; rw [hpar]
 have hst : a1v R1 = a1v R2 := by funext p id; unfold a1v; rw [hq, hsh]
 refine ⟨hlive, by unfold a0x; rw [hlive, hob], by unfold a0w V6; rw [hst, hord], ?_, fun id => by unfold Q8; rw [hlive, hsh, hat]⟩; unfold a0d; rw [hord]; refine map_congr_left fun id _ => ?_
 unfold a2c; rw [hsh, hat]
theorem c0P {σ : St} {d B : Nat} {r : AV} {hs : List AV} (hB : 1000000 ≤ B) (hd : d < 1000000) (hH : hs.all isH = true) (hl : hs.length ≤ 500000) (hm : V0 r = true) {τ : St} (hτ : τ = D2 (put (C6 σ []) d r) [] B hs) :
   Fam τ B hs ∧ τ d = r ∧ Oth σ τ d ∧ a4Y σ τ B := by
 have hH' : ∀ x ∈ hs, isH x = true := fun x hx => all_eq_true.1 hH x hx
 have hput : ∀ i, i ∉ a0t [] B hs.length → τ i = F9 (a0t [] B hs.length) (put σ d r i) := fun i hi => by
   rw [hτ]; exact a0f hs [] (put (C6 σ []) d r) B i hi
 have hL : ∀ k ∈ a0t [] B hs.length, B ≤ k ∧ k < B + hs.length := fun k hk => by
   rcases a3b _ _ _ _ hk with h | h
   · simp at h
   · exact h
 refine ⟨⟨hH, hl, fun i hi => ?_⟩, ?_, ⟨a0t [] B hs.length, fun j hj => ?_, fun i hi hid => ?_⟩, (fun B2 hs2 hF2 hB2 hBB => ⟨hF2.1, hF2.2.1, fun i hi => ?_⟩)⟩
 · rw [hτ]; exact a9l hs (put (C6 σ []) d r) B hH' i hi
 · rw [hput d (fun hm => by have := hL d hm; omega)]; simp only [put, if_true]; exact a7H hm d _
 · rw [Bool.eq_false_iff]; intro hc; have := hL j (by simpa using hc); omega
 · rw [hput i (fun hm => by have := hL i hm; omega)]; simp only [put, if_neg hid]
 · have h4 := hF2.2.1; have hH2 := all_eq_true.1 hF2.1 _ (gmm hi); rw [hput _ (fun hm => by have := hL _ hm; omega)]; simp only [put, if_neg (show ¬ B2 + i = d by omega)]; rw [hF2.2.2 i hi, a2H hH2, a1N hH2]
theorem c5k {l : List Chg} (hf : ∀ c ∈ l, O8 c) : ∀ {R : List Chg}, a8y R → a8y (ofR R l) := by
 induction l with
 | nil => intro R h; exact h
 | cons c l ih =>
   intro R h; exact ih (fun x hx => hf x (by simp [hx])) (a7d h (hf c (by simp)))
theorem c9r {σ : St} {d : Nat} {K : St → Prop} (B : Nat) (hB : 1000000 ≤ B) (hd : d < 1000000) {l : List Chg} (hl : l.length < 100000) (hf : ∀ c ∈ l, O8 c) (h0 : ofE [] l = 0)
   (hk : ∀ s τ, StF τ B s (ofR [] l) → τ d = .tup [.d (.raw (va s)), .d (.int .i64 0)] → Oth σ τ d → a4Y σ τ B → K τ) : a3j prog 17 [.d (E6 l)] σ d K := by
 refine ⟨[], B, _, by simp, by simp, c8S l hl hf, fun x hs' hp => ?_⟩; rcases hp with ⟨h1, _⟩ | ⟨_, s, r, m, E, rfl, hE, rfl⟩
 · exact absurd h0 h1
 · have hR := c5k hf b0t; obtain ⟨f1, f2, f3, f4⟩ := c0P (σ := σ) (d := d) (r := .tup [.d (.raw (va s)), .d (.int .i64 0)]) hB hd (a9n s r m (ofR [] l) E) (b6B hR hE) rfl rfl; exact hk s _ ⟨hR, r, m, E, hE, f1⟩ f2 f3 f4
theorem a8m {σ : St} {d : Nat} {K : St → Prop} (B s : Nat) (hB : 1000000 ≤ B) (hd : d < 1000000) {R : List Chg} {c : Chg} (hF : StF σ B s R) (hc : O8 c)
   (hk : ∀ τ, StF τ B s (N4 R c) → τ d = .d (.int .i64 (Q9 R c)) → Oth σ τ d → a4Y σ τ B → K τ) : a3j prog 13 [.d (.raw (va s)), .d (A6 c)] σ d K :=
 b5i B s hB hd hF hc fun τ ks h1 h2 h3 h4 h5 => hk τ h1 h2 ⟨ks, h3, h4⟩ h5
theorem b5T (l : List Str) : a1n (l.map .str) = true := by
 induction l with
 | nil => rfl
 | cons s l ih => simp [a1n, a2K, ih]
theorem c2E (l : List Att) : a1n (l.map att) = true := by
 induction l with
 | nil => rfl
 | cons s l ih =>
   simp only [map_cons, a1n, ih, Bool.and_true]; simp [att, a2K, a1n, C7, b5T]
theorem b7z (s : Str) (a : List Att) : a2K (a2q s a) = true := by simp [a2q, a2K, a1n, H9, c2E]
theorem c3T (l : List (Str × List Att)) : a1n (l.map a1U) = true := by
 induction l with
 | nil => rfl
 | cons s l ih => simp [a1n, ih, a1U, b7z]
theorem b3V (s : Str) (a : List Att) (b : Bool) : V0 (.tup [.d (a2q s a), .d (.bool b)]) = true := by simp [V0, a8i, b7z, a2K]
theorem c7u : ∀ c ∈ alL, O8 c := by
 have h : (alL.all fun c => decide (length c.2.2.1 < 900000) && (decide (length c.2.2.2.1 < 900000) && (decide (length c.2.2.2.2.1 < 900000) && decide (length c.2.2.2.2.2 < 900000)))) = true := by kernel_rfl
 intro c hc; have := all_eq_true.1 h c hc; simp only [Bool.and_eq_true, decide_eq_true_eq] at this; exact ⟨this.1, this.2.1, this.2.2.1, this.2.2.2⟩
theorem c2Z : Ctr prog 10 [] (.d (.bool true)) := by
 have g1 := a5p (1, 0, 0); have g2 := a5p (2, 0, 0); have g6 := a5p (6, 0, 0); rw [c7O] at g1; rw [c7z] at g2; rw [c7w] at g6; have k1 := a9v 2 1 (idS 50) nxS []; have k2 := a9v 1 1 (idS 49) nxS []; have k3 := a9v 5 4 (idS 49) [] [109]; have k4 := a9v 4 5 (idS 49) [] [109]; have k5 := a9v 6 1 (idS 54) nyS []; have k6 := a9v 3 2 (idS 49) [] []; have hal : E6 alL = .sl [A6 (atC 2 1 (idS 50) nxS []), A6 (atC 1 1 (idS 49) nxS []), A6 (atC 5 4 (idS 49) [] [109]), A6 (atC 4 5 (idS 49) [] [109]), A6 (atC 6 1 (idS 54) nyS [])] := rfl; have hw : ∀ c, B6 (A6 c) = 8 := fun _ => rfl
 have hcs : ∀ t : Int, B0 (t, 0, 0) = .agg [.int .i64 t, .int .i64 0, .int .i64 0] := fun _ => rfl
 simp only [hcs] at g1 g2 g6; refine fv (fun i => i == 5000031 || i == 5000043 || i == 5000049 || i == 5000087 || i == 5000093 || i == 5000104 || i == 5000113 || i == 5000116 || i == 5000131 || i == 5000137) func10 (by kernel_rfl) rfl rfl rfl rfl rfl ?_; generalize atC 2 1 (idS 50) nxS [] = C1 at *; generalize atC 1 1 (idS 49) nxS [] = C2 at *; generalize atC 5 4 (idS 49) [] [109] = C3 at *; generalize atC 4 5 (idS 49) [] [109] = C4 at *; generalize atC 6 1 (idS 54) nyS [] = C5 at *; generalize hi1 : idS 49 = i1 at *; generalize hi2 : idS 50 = i2 at *; generalize hi6 : idS 54 = i6 at *; simp only [nxS, nyS] at k1 k2 k3 k4 k5 k6; simp -implicitDefEqProofs; refine A3 g1 ?_; simp -implicitDefEqProofs; refine A3 g2 ?_; simp -implicitDefEqProofs; refine A3 k1 ?_; simp -implicitDefEqProofs; refine A3 k2 ?_; simp -implicitDefEqProofs; refine A3 k3 ?_; simp -implicitDefEqProofs; refine A3 k4 ?_; simp -implicitDefEqProofs; refine A3 g6 ?_; simp -implicitDefEqProofs; refine A3 k5 ?_; simp -implicitDefEqProofs [hw]; refine ⟨by decide, ?_⟩; rw [← hal]; refine c9r 1000000 (Nat.le_refl _) (by omega) (by decide) c7u c9s (fun s τ1 hF1 f1 o1 _ => ?_); rw [d4c] at hF1; have t11 : τ1 1 = .d (.str i1) := o1.dd (by omega) (by omega) (by simp); have t12 : τ1 2 = .d (.str i2) := o1.dd (by omega) (by omega) (by simp); have hG := a5g hF1.1; have nxe : nxS = [99, 110, 61, 120, 44, 111, 61, 97, 99, 109, 101] := rfl; have me : a3z = [109, 97, 105, 108] := rfl; have n2e : nx2 = 99 :: 110 :: 61 :: 120 :: 35 :: (i2 ++ [44, 111, 61, 97, 99, 109, 101]) := by rw [← hi2]; rfl
 have hl2 : length i2 = 22 := by rw [← hi2]; rfl
 have hE1 := d0K; have hE2 := d0c; rw [hi1] at hE1; rw [hi2] at hE2; have en : ∀ id x, StD alL x → _ := fun id x hx => b0a alL x id hx hG
 have enE := enters_of func21 (by kernel_rfl) rfl; simp -implicitDefEqProofs [f1, t11, t12]; refine a2w (ds := [.str i1]) 1000000 s (Nat.le_refl _) (by omega) (by repeat first | exact hF1 | apply StF.put | apply StF.setv | apply StF.clean | omega) enE (fun x hx => en i1 x hx) (b3V _ _ _) (fun τ2 hF2 f2 o2 _ => ?_); rw [hE1] at f2; have hd2 : a2q (nxS, [(a3z, [[109]])]).1 (nxS, [(a3z, [[109]])]).2 = .agg [.str nxS, .sl [.agg [.str a3z, .sl [.str [109]]]]] := rfl; simp only [hd2] at f2; simp only [nxe, me] at f2; have t21 : τ2 1 = .d (.str i1) := o2.dd (by omega) (by omega) (by simp [t11]); have t22 : τ2 2 = .d (.str i2) := o2.dd (by omega) (by omega) (by simp [t12]); have t24 : τ2 4 = .d (.raw (va s)) := o2.dd (by omega) (by omega) (by simp); simp -implicitDefEqProofs [f2, t21, t22, t24]; refine a2w (ds := [.str i2]) 1000000 s (Nat.le_refl _) (by omega) (by repeat first | exact hF2 | apply StF.put | apply StF.setv | apply StF.clean | omega) enE (fun x hx => en i2 x hx) (b3V _ _ _) (fun τ3 hF3 f3 o3 _ => ?_); rw [hE2] at f3; have hd3 : a2q nx2 [] = .agg [.str nx2, .sl []] := rfl; simp only [hd3] at f3; simp only [n2e] at f3; have t31 : τ3 1 = .d (.str i1) := o3.dd (by omega) (by omega) (by simp [t21]); have t32 : τ3 2 = .d (.str i2) := o3.dd (by omega) (by omega) (by simp [t22]); have t34 : τ3 4 = .d (.raw (va s)) := o3.dd (by omega) (by omega) (by simp [t24]); have t36 : τ3 6 = .box (.agg [.str [99, 110, 61, 120, 44, 111, 61, 97, 99, 109, 101], .sl [.agg [.str [109, 97, 105, 108], .sl [.str [109]]]]]) := o3.bx (by omega) (by omega) (by simp); have t37 : τ3 7 = .d (.bool true) := o3.dd (by omega) (by omega) (by simp); simp -implicitDefEqProofs [f3, t31, t32, t34, t36, t37, hl2]; have orp : ∀ x, StD alL x → Ctr prog 29 [.d x] (.d (.sl ((a0w alL).map .str))) := fun x hx => W9 (a6F alL x hx hG)
 have liv : ∀ x, StD alL x → Ctr prog 27 [.d x] (.d (.sl ((B9 alL).map .str))) := fun x hx => W9 (a3m alL x hx hG.lt)
 have con : ∀ x, StD alL x → Ctr prog 28 [.d x] (.d (.sl ((a0x alL).map .str))) := fun x hx => W9 (a2D alL x hx hG)
 have hol : ((a0w alL).map D.str).length = 1 := (by simp [c5Q]); have hmO := b5T (a0w alL); generalize (a0w alL).map D.str = OL at *; rw [a4B, hi1, hi2, hi6] at liv; rw [c5A, hi2] at con; refine a2w (ds := []) (res := .d (.sl OL)) 1000000 s (Nat.le_refl _) (by omega) (by repeat first | exact hF3 | apply StF.put | apply StF.setv | apply StF.clean | omega) (enters_of func29 (by kernel_rfl) rfl) orp hmO (fun τ4 hF4 f4 o4 _ => ?_); have t41 : τ4 1 = .d (.str i1) := o4.dd (by omega) (by omega) (by simp [t31]); have t42 : τ4 2 = .d (.str i2) := o4.dd (by omega) (by omega) (by simp [t32]); have t44 : τ4 4 = .d (.raw (va s)) := o4.dd (by omega) (by omega) (by simp [t34]); have t485 : τ4 85 = .d (.bool false) := o4.dd (by omega) (by omega) (by simp); simp -implicitDefEqProofs [f4, t41, t42, t44, t485, hol]; refine a2w (ds := []) (res := .d (C7 [i1, i2, i6])) 1000000 s (Nat.le_refl _) (by omega) (by repeat first | exact hF4 | apply StF.put | apply StF.setv | apply StF.clean | omega) (enters_of func27 (by kernel_rfl) rfl) liv rfl (fun τ5 hF5 f5 o5 _ => ?_); have t51 : τ5 1 = .d (.str i1) := o5.dd (by omega) (by omega) (by simp [t41]); have t52 : τ5 2 = .d (.str i2) := o5.dd (by omega) (by omega) (by simp [t42]); have t54 : τ5 4 = .d (.raw (va s)) := o5.dd (by omega) (by omega) (by simp [t44]); have t591 : τ5 91 = .d (.bool false) := o5.dd (by omega) (by omega) (by simp); simp -implicitDefEqProofs [f5, t51, t52, t54, t591, C7]; have l1 := a2P [i1, i2, i6] [i1, i2, i6] (by simp) (by simp); have l2 := a2P [i2] [i2] (by simp) (by simp); simp only [C7, map_cons, map_nil, decide_true] at l1 l2; refine A3 g6 ?_; simp -implicitDefEqProofs [f5, t51, t52, t54, t591, C7]; refine ⟨by decide, A3 l1 ?_⟩; simp -implicitDefEqProofs [f5, t51, t52, t54, t591, C7]; refine a2w (ds := []) (res := .d (C7 [i2])) 1000000 s (Nat.le_refl _) (by omega) (by repeat first | exact hF5 | apply StF.put | apply StF.setv | apply StF.clean | omega) (enters_of func28 (by kernel_rfl) rfl) con rfl (fun τ6 hF6 f6 o6 _ => ?_); have t61 : τ6 1 = .d (.str i1) := o6.dd (by omega) (by omega) (by simp [t51]); have t62 : τ6 2 = .d (.str i2) := o6.dd (by omega) (by omega) (by simp [t52]); have t64 : τ6 4 = .d (.raw (va s)) := o6.dd (by omega) (by omega) (by simp [t54]); have t602 : τ6 102 = .d (.bool false) := o6.dd (by omega) (by omega) (by simp); simp -implicitDefEqProofs [f6, t61, t62, t64, t602, C7]; refine A3 l2 ?_; simp -implicitDefEqProofs [f6, t61, t62, t64, t602, C7]; refine A3 k6 ?_; simp -implicitDefEqProofs [f6, t61, t62, t64, t602, C7]; have ha2 := d3e; have hr2 := c9D; have hfc : O8 (atC 3 2 (idS 49) [] []) := by
   rw [hi1]; have h5 : length i1 = 22 := by rw [← hi1]; rfl
   exact ⟨by simp [atC]; omega, by simp [atC], by simp [atC], by simp [atC]⟩
 rw [hi1] at ha2 hr2 hfc; refine a8m 1000000 s (Nat.le_refl _) (by omega) (R := alL) (by repeat first | exact hF6 | apply StF.put | apply StF.setv | apply StF.clean | omega) hfc (fun τ7 hF7 f7 o7 _ => ?_); rw [ha2] at f7; rw [hr2] at hF7; have t72 : τ7 2 = .d (.str i2) := o7.dd (by omega) (by omega) (by simp [t62]); have t74 : τ7 4 = .d (.raw (va s)) := o7.dd (by omega) (by omega) (by simp [t64]); have hG2 := a5g hF7.1; have fnd : ∀ x, StD al2 x → _ := fun x hx => c6m al2 x nxS hx hG2
 rw [c3a, hi2] at fnd; simp only [nxe] at fnd; have hen : ∀ x, StD al2 x → Ctr prog 30 [.d x] (.d (.sl ((a0d al2).map a1U))) := fun x hx => W9 (a6y al2 x hx hG2)
 have con2 : ∀ x, StD al2 x → Ctr prog 28 [.d x] (.d (.sl ((a0x al2).map .str))) := fun x hx => W9 (a2D al2 x hx hG2)
 have hel : ((a0d al2).map a1U).length = 2 := (by simp [c4A]); have hme := c3T (a0d al2); generalize (a0d al2).map a1U = EL at *; rw [c3U] at con2; simp -implicitDefEqProofs [f7, t72, t74]; refine a2w (ds := [.str [99, 110, 61, 120, 44, 111, 61, 97, 99, 109, 101]]) 1000000 s (Nat.le_refl _) (by omega) (by repeat first | exact hF7 | apply StF.put | apply StF.setv | apply StF.clean | omega) (enters_of func15 (by kernel_rfl) rfl) fnd rfl (fun τ8 hF8 f8 o8 _ => ?_); have t82 : τ8 2 = .d (.str i2) := o8.dd (by omega) (by omega) (by simp [t72]); have t84 : τ8 4 = .d (.raw (va s)) := o8.dd (by omega) (by omega) (by simp [t74]); have t810 : τ8 10 = .d (.int .i64 0) := o8.dd (by omega) (by omega) (by simp); simp -implicitDefEqProofs [f8, t82, t84, t810]; refine a2w (ds := []) (res := .d (.sl EL)) 1000000 s (Nat.le_refl _) (by omega) (by repeat first | exact hF8 | apply StF.put | apply StF.setv | apply StF.clean | omega) (enters_of func30 (by kernel_rfl) rfl) hen hme (fun τ9 hF9 f9 o9 _ => ?_); have t94 : τ9 4 = .d (.raw (va s)) := o9.dd (by omega) (by omega) (by simp [t84]); have t929 : τ9 129 = .d (.bool true) := o9.dd (by omega) (by omega) (by simp); simp -implicitDefEqProofs [f9, t94, t929, hel]; refine a2w (ds := []) (res := .d (.sl [])) 1000000 s (Nat.le_refl _) (by omega) (by repeat first | exact hF9 | apply StF.put | apply StF.setv | apply StF.clean | omega) (enters_of func28 (by kernel_rfl) rfl) con2 rfl (fun τ10 hF10 f10 o10 _ => ?_); have tA : τ10 135 = .d (.bool true) := o10.dd (by omega) (by omega) (by simp); simp -implicitDefEqProofs [f10, tA]
theorem c6h {c : Chg} (h : smC c = true) : O8 c := by
 simp only [smC, Bool.and_eq_true, decide_eq_true_eq] at h; exact ⟨by omega, by omega, by omega, by omega⟩
theorem c1d {l : List Chg} (h : a5c l = true) : l.length ≤ 14 ∧ ∀ c ∈ l, O8 c := by
 simp only [a5c, Bool.and_eq_true, decide_eq_true_eq, all_eq_true] at h; exact ⟨h.2, fun c hc => c6h (h.1 c hc)⟩
theorem a4P {l : List Chg} : ∀ {R : List Chg}, R.length + l.length ≤ 4000 → (∀ x, x ∈ ofR R l ↔ x ∈ R ∨ (x ∈ l ∧ F4 x = 0)) ∧ (ofR R l).length ≤ R.length + l.length := by
 induction l with
 | nil => intro R _; exact ⟨fun x => by simp [ofR], by simp [ofR]⟩
 | cons c l ih =>
   intro R h; simp only [length_cons] at h; have hl : (N4 R c).length ≤ R.length + 1 := by
     unfold N4; split <;> simp
   have hm : ∀ x, x ∈ N4 R c ↔ x ∈ R ∨ (x = c ∧ F4 x = 0) := fun x => by
     unfold N4; split
     · rename_i hh
       simp only [mem_append, mem_singleton]; refine or_congr_right ⟨fun e => ⟨e, by rw [e]; exact hh.1⟩, fun e => e.1⟩
     · rename_i hh
       refine ⟨.inl, fun hx => hx.elim id ?_⟩; rintro ⟨rfl, h0⟩; refine Classical.byContradiction fun hn => hh ⟨h0, hn, by omega⟩
   obtain ⟨i1, i2⟩ := ih (R := N4 R c) (by omega); refine ⟨fun x => ?_, ?_⟩
   · show x ∈ ofR (N4 R c) l ↔ _
     rw [i1, hm, or_assoc]; refine or_congr_right ?_; simp only [mem_cons]; constructor
     · rintro (⟨h1, h2⟩ | ⟨h1, h2⟩)
       · exact ⟨.inl h1, h2⟩
       · exact ⟨.inr h1, h2⟩
     · rintro ⟨h1 | h1, h2⟩
       · exact .inl ⟨h1, h2⟩
       · exact .inr ⟨h1, h2⟩
   · show (ofR (N4 R c) l).length ≤ _
     simp only [length_cons]; omega
theorem b1Y {R : List Chg} {c : Chg} (h : R.length < 4096) : Q9 R c = F4 c := by
 unfold Q9; split
 · rfl
 · rename_i h0
   have h0 : F4 c = 0 := (by simpa using h0); split
   · exact h0.symm
   · rw [if_neg (by omega)]; exact h0.symm
def a0o (l : List Chg) : List Chg := l.filter fun c => decide (F4 c = 0)
def a6c (g : List Chg) : Prop := ∀ x ∈ g, ∀ y ∈ g, x.1 = y.1 → x = y
theorem c2s {l : List Chg} {x : Chg} : x ∈ a0o l ↔ x ∈ l ∧ F4 x = 0 := by simp [a0o]
theorem b3z (l : List Chg) : (a0o l).length ≤ l.length := length_filter_le _ _
theorem b9a (l : List Chg) (c : Chg) : a0o (l ++ [c]) = a0o l ++ (if F4 c = 0 then [c] else []) := by
 unfold a0o; rw [a9G]; by_cases h : F4 c = 0 <;> simp [h]
theorem b9S {g : List Chg} {c : Chg} (h : a6c g) (hc : ∀ x ∈ g, x.1 = c.1 → x = c) : a6c (g ++ [c]) := by
 intro x hx y hy e; rcases mem_append.1 hx with q | q <;> rcases mem_append.1 hy with r | r
 · exact h x q y r e
 · rw [mem_singleton] at r; rw [r] at e ⊢; exact hc x q e
 · rw [mem_singleton] at q; rw [q] at e ⊢; exact (hc y r e.symm).symm
 · rw [mem_singleton] at q r; rw [q, r]
theorem b7b {a b : List Chg} (h : a6c (a ++ b)) (hc : ∀ x ∈ a ++ b, F4 x = 0) (x : Chg) : x ∈ a1a a b ↔ x ∈ a ++ b := by
 rw [(a3J a b).mem]; constructor
 · exact fun q => q.1
 · intro hx; refine ⟨hx, hc x hx, fun y hy _ e => ?_⟩; rw [h y hy x hx e]; exact List.le_refl _
theorem b0Y {a b : List Chg} {x : Chg} (h : x ∈ a1a a b) : x ∈ a ++ b ∧ F4 x = 0 := by
 have := ((a3J a b).mem x).1 h; exact ⟨this.1, this.2.1⟩
theorem b2p : ∀ {l K : List Chg}, l.Nodup → (∀ x ∈ l, x ∈ K) → l.length ≤ K.length
 | [], K, _, _ => Nat.zero_le _
 | x :: l, K, hn, hs => by
   obtain ⟨h1, h2⟩ := nodup_cons.1 hn; have hx := hs x (by simp); have := b2p (K := K.erase x) h2 fun y hy => (mem_erase_of_ne fun e => h1 (by rw [← e]; exact hy)).2 (hs y (by simp [hy]))
   rw [length_erase_of_mem hx] at this; have := length_pos_of_mem hx; simp only [length_cons]; omega
theorem c0d (a b : List Chg) : (a1a a b).length ≤ (a ++ b).length := by
 have hn : (a1a a b).Nodup := (a3J a b).asc.imp fun {x y} hxy e => by rw [e, T6] at hxy; omega
 exact b2p hn fun x hx => (b0Y hx).1
theorem b1o {l m : List Chg} (hl : l.length ≤ 4000) (hm : m.length ≤ 4000) (h : ∀ x, (x ∈ l ∧ F4 x = 0) ↔ (x ∈ m ∧ F4 x = 0)) : b0V (ofR [] l) (ofR [] m) := by
 have h1 := (a4P (R := []) (l := l) (by simpa using hl)).1; have h2 := (a4P (R := []) (l := m) (by simpa using hm)).1; refine c3F (fun c hc => ?_) fun c => ?_
 · have := (h1 c).1 hc; simp only [not_mem_nil, false_or] at this; exact this.2
 · rw [h1, h2]; simp only [not_mem_nil, false_or, h]
end Go.Proofs.Tz
namespace Go.Proofs.Tz
open Go.Vw
theorem c1H {α : Type} {s : Sh} (g : α → D) (hs : ∀ d, Sh.Fits s d → ∃ a, d = g a) {d : D} (h : Sh.Fits (.sl s) d) : ∃ l : List α, d = .sl (l.map g) := by
 simp only [Sh.Fits] at h; obtain ⟨ds, rfl, _, h⟩ := h; have : ∀ ds : List D, (∀ x ∈ ds, Sh.Fits s x) → ∃ l : List α, ds = l.map g := by
   intro ds
   induction ds with
   | nil => intro _; exact ⟨[], rfl⟩
   | cons x ds ih =>
     intro h; obtain ⟨a, rfl⟩ := hs x (h x (by simp)); obtain ⟨l, rfl⟩ := ih fun y hy => h y (by simp [hy])
     exact ⟨a :: l, rfl⟩
 obtain ⟨l, rfl⟩ := this ds h; exact ⟨l, rfl⟩
end Go.Proofs.Tz
namespace Go.Proofs.Tz
open Go.Vw Go.RowKit Go.Proofs
theorem c4f {d : D} (h : Sh.Fits (.agg [.int .i64, .int .i64, .int .i64]) d) : ∃ x : Csn, d = B0 x := by
 simp only [Sh.Fits, Sh.FitsL] at h; obtain ⟨ds, rfl, x, xs, rfl, ⟨a, rfl, _⟩, y, ys, rfl, ⟨b, rfl, _⟩, z, zs, rfl, ⟨c, rfl, _⟩, rfl⟩ := h; exact ⟨(a, b, c), rfl⟩
theorem c3J {d : D} (h : Sh.Fits (.agg [.agg [.int .i64, .int .i64, .int .i64], .int .i64, .str, .str, .str, .str]) d) : ∃ x : Chg, d = A6 x := by
 simp only [Sh.Fits, Sh.FitsL] at h; obtain ⟨ds, rfl, n, ns, rfl, hn, o, os, rfl, ⟨ov, rfl, _⟩, i, is, rfl, ⟨iv, rfl, _⟩, m, ms, rfl, ⟨mv, rfl, _⟩, a, az, rfl, ⟨av, rfl, _⟩, v, vs, rfl, ⟨vv, rfl, _⟩, rfl⟩ := h; obtain ⟨c, rfl⟩ := c4f (by simp only [Sh.Fits, Sh.FitsL]; exact hn); exact ⟨(c, ov, iv, mv, av, vv), rfl⟩
theorem fits_chgs {d : D} (h : Sh.Fits (.sl (.agg [.agg [.int .i64, .int .i64, .int .i64], .int .i64, .str, .str, .str, .str])) d) : ∃ x : List Chg, d = E6 x := by
 rw [Sh.Fits] at h; obtain ⟨ds, rfl, _, hd⟩ := h; have key : ∀ (ds : List D), (∀ x ∈ ds, Sh.Fits (.agg [.agg [.int .i64, .int .i64, .int .i64], .int .i64, .str, .str, .str, .str]) x) → ∃ l : List Chg, ds = l.map A6 := by
   intro ds
   induction ds with
   | nil => intro _; exact ⟨[], rfl⟩
   | cons d ds ih =>
     intro h; obtain ⟨x, rfl⟩ := c3J (h d (by simp)); obtain ⟨l, rfl⟩ := ih (fun y hy => h y (by simp [hy])); exact ⟨x :: l, rfl⟩
 obtain ⟨l, rfl⟩ := key ds hd; exact ⟨l, rfl⟩
theorem c3V {l : List Chg} (h : D.lim 140737488351232 (E6 l)) : l.length ≤ 140737488351232 := by
 simpa [E6, D.lim] using h.1
end Go.Proofs.Tz