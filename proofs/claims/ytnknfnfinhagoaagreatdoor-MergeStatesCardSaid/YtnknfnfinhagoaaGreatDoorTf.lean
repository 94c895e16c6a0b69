/-
  What the functions that the statements about merged states reach compute, part 6 of 6, for data of bounded size (each theorem states its bound).
-/import Derived.Test.YtnknfnfinhagoaaGreatDoorTe
import Derived.Test.YtnknfnfinhagoaaGreatDoorTb
import Derived.Test.YtnknfnfinhagoaaGreatDoorWc
import Derived.Test.YtnknfnfinhagoaaGreatDoorTd
import Derived.MakeChecks
import Derived.Test.YtnknfnfinhagoaaGreatDoorWd
open List
open Go.Proofs.Tryz
set_option linter.unusedSimpArgs false
set_option linter.unusedVariables false
set_option maxRecDepth 100000
set_option maxHeartbeats 8000000
namespace Go.Proofs.Tz
open Go.Vw Go.RowKit Go.Proofs Go.Sort
def crB (R : List Chg) (id : Str) (o : Int) : Bool := R.any fun c => decide (idC c = id) && decide (opC c = o)
def a1G (R : List Chg) (id : Str) : Bool := crB R id 1 && !crB R id 2
theorem a9V (R : List Chg) (id : Str) : a1G R id = a1V (abF R id) := by
 unfold a1G a1V crB; rw [c6n, c6D]
theorem c1w {R : List Chg} {id : Str} : id ∈ A9 R ↔ a1G R id = true := by
 rw [a2i, a9V]; refine ⟨fun h => h.2, fun h => ⟨?_, h⟩⟩; rw [<- a9V] at h; unfold a1G crB at h; rw [Bool.and_eq_true, any_eq_true] at h; obtain ⟨⟨c, hc, e⟩, _⟩ := h; simp only [Bool.and_eq_true, decide_eq_true_eq] at e; exact ⟨c, hc, e.1⟩
def T8 (R : List Chg) (l : List Chg) : List Str := l.foldl (fun out c => if a1G R (idC c) = true then Y7 (idC c) out else out) []
theorem a5o (R l : List Chg) (c : Chg) : T8 R (l ++ [c]) = if a1G R (idC c) = true then Y7 (idC c) (T8 R l) else T8 R l := by simp [T8]
theorem b6r (R l : List Chg) : SS (T8 R l) /\ ∀ x, x ∈ T8 R l ↔ a1G R x = true /\ ∃ c ∈ l, idC c = x := by
 refine M2 (P := fun l => SS (T8 R l) /\ ∀ x, x ∈ T8 R l ↔ a1G R x = true /\ ∃ c ∈ l, idC c = x) ⟨Pairwise.nil, by simp [T8]⟩ (fun l c ih => ?_) l; rw [a5o]; split
 . rename_i h
   refine ⟨b1D _ _ ih.1, fun x => ?_⟩; rw [a6W, ih.2]; constructor
   . rintro (rfl | ⟨h1, d, hd, e⟩)
     . exact ⟨h, c, by simp, rfl⟩
     . exact ⟨h1, d, by simp [hd], e⟩
   . rintro ⟨h1, d, hd, e⟩; rcases mem_append.1 hd with hd | hd
     . exact .inr ⟨h1, d, hd, e⟩
     . rw [mem_singleton.1 hd] at e; exact .inl e.symm
 . rename_i h
   refine ⟨ih.1, fun x => ?_⟩; rw [ih.2]; refine and_congr_right fun h1 => ⟨fun ⟨d, hd, e⟩ => ⟨d, by simp [hd], e⟩, fun ⟨d, hd, e⟩ => ?_⟩
   rcases mem_append.1 hd with hd | hd
   . exact ⟨d, hd, e⟩
   . rw [mem_singleton.1 hd] at e; rw [<- e] at h1; exact absurd h1 h
theorem c0j (R : List Chg) : T8 R R = A9 R := by
 obtain ⟨h1, h2⟩ := b6r R R; refine a5C h1 (a2g R) fun x => ?_
 rw [h2, a2i, a9V]; exact and_comm
theorem b7G (R l : List Chg) : (T8 R l).length <= l.length := by
 have hi : ∀ (s : Str) (m : List Str), (Y7 s m).length <= m.length + 1 := fun s m => by
   induction m with
   | nil => simp [Y7]
   | cons x m ih =>
     rw [Y7]; split
     . simp; exact ih
     . split <;> simp
 refine M2 (P := fun l => (T8 R l).length <= l.length) (by simp [T8]) (fun l c ih => ?_) l; rw [a5o]; split
 . have := hi (idC c) (T8 R l); simp; omega
 . simp; omega
theorem c0x (a b : Chg) : ltM b a = true ↔ 0 < R4 a.1 b.1 \/ (R4 a.1 b.1 = 0 /\ (H0 b).1 < (H0 a).1) := by
 rw [a5G]; have h := b3j b.1 a.1; have h0 : b.1 = a.1 ↔ R4 a.1 b.1 = 0 := ⟨fun e => by rw [e]; exact a1q.2 rfl, fun e => (a1q.1 e).symm⟩; rw [h0]; constructor
 . rintro (h1 | h1)
   . exact .inl (by omega)
   . exact .inr h1
 . rintro (h1 | h1)
   . exact .inl (by omega)
   . exact .inr h1
def a1Y (R : List Chg) (id : Str) (k : Nat) (b : Int) : Prop := (b = -1 /\ a0C (R.take k) id = []) \/ ∃ j, ∃ h : j < R.length, b = j /\ R[j] = X4 (a0C (R.take k) id)
theorem c0p (R : List Chg) (id : Str) : a1Y R id 0 (-1) := .inl ⟨rfl, by simp [a0C]⟩
theorem a5q {R : List Chg} {id : Str} {k : Nat} (h : k < R.length) : a0C (R.take (k + 1)) id = a0C (R.take k) id ++ (if (decide (idC R[k] = id) && B9 (opC R[k])) = true then [R[k]] else []) := by
 unfold a0C; rw [F6 h, a1R]
theorem b9x {R : List Chg} {id : Str} {k : Nat} {b : Int} (h : k < R.length) (hb : a1Y R id k b) (hn : (decide (idC R[k] = id) && B9 (opC R[k])) = false) : a1Y R id (k + 1) b := by
 unfold a1Y; rw [a5q h, hn]; simpa [a1Y] using hb
theorem c3b {R : List Chg} {id : Str} {k : Nat} (h : k < R.length) (hb : a1Y R id k (-1)) (hn : (decide (idC R[k] = id) && B9 (opC R[k])) = true) : a1Y R id (k + 1) k := by
 refine .inr ⟨k, h, rfl, ?_⟩; have h0 : a0C (R.take k) id = [] := by
   rcases hb with ⟨_, e⟩ | ⟨j, _, e, _⟩
   . exact e
   . omega
 rw [a5q h, hn, if_pos rfl, h0]; simp [X4, M3, L5]
theorem c2C {R : List Chg} (hR : ∀ c ∈ R, I6 c = 0) {id : Str} {k j : Nat} (h : k < R.length) (hj : j < R.length) (hb : a1Y R id k j) (hn : (decide (idC R[k] = id) && B9 (opC R[k])) = true) : a1Y R id (k + 1) (if ltM R[j] R[k] = true then k else j) := by
 have hm : R[j] = X4 (a0C (R.take k) id) := by
   rcases hb with ⟨e, _⟩ | ⟨i, hi, e, e2⟩
   . omega
   . have : j = i := (by omega); subst this; exact e2
 have e : X4 (a0C (R.take (k + 1)) id) = M3 R[j] R[k] := by
   rw [a5q h, hn, if_pos rfl, a3r, <- hm]
 have o1 := b3C (hR _ (gmm hj)); have o2 := b3C (hR _ (gmm h)); unfold M3 at e; by_cases hl : ltM R[j] R[k] = true
 . rw [if_pos hl]; rw [if_pos (.inr ⟨o2, hl⟩)] at e; exact .inr ⟨k, h, rfl, e.symm⟩
 . rw [if_neg hl]; rw [if_neg (fun q => q.elim o1 fun z => hl z.2)] at e; exact .inr ⟨j, hj, rfl, e.symm⟩
theorem c2Y {R : List Chg} {id : Str} {b : Int} (hb : a1Y R id R.length b) : (b = -1 /\ G2 R id = []) \/ ∃ j, ∃ h : j < R.length, b = j /\ nmC R[j] = G2 R id := by
 unfold a1Y at hb; rw [take_length] at hb; have e : G2 R id = nmC (X4 (a0C R id)) := by unfold G2; rw [c6s]
 rw [e]; rcases hb with ⟨h1, h2⟩ | ⟨j, hj, h1, h2⟩
 . exact .inl ⟨h1, by rw [h2]; rfl⟩
 . exact .inr ⟨j, hj, h1, by rw [h2]⟩
theorem a6c {α : Type} (p : α -> Bool) : ∀ (l : List α) (k : Nat) (h : k < l.length), (∀ i (hi : i < k), p (l[i]'(by omega)) = false) -> p l[k] = true -> l.find? p = some l[k]
 | [], k, h, _, _ => by simp at h
 | x :: l, 0, h, _, h2 => by simp at h2; simp [h2]
 | x :: l, k + 1, h, h1, h2 => by
   have h0 := h1 0 (by omega); simp only [getElem_cons_zero] at h0; rw [find?_cons, h0]; simp only [getElem_cons_succ]; exact a6c p l k (by simpa using h) (fun i hi => by have := h1 (i + 1) (by omega); simpa using this) (by simpa using h2)
theorem b3Z {R : List Chg} {id : Str} (hid : id ∈ A9 R) {y : Str} (hy : y ∈ A9 R) (hlt : y < id) (he : G2 R y = G2 R id) : P4 R id = false := by
 rw [Bool.eq_false_iff, ne_eq, a9t]; intro hf; obtain ⟨i, hi, rfl⟩ := mem_iff_getElem.1 hid; obtain ⟨j, hj, rfl⟩ := mem_iff_getElem.1 hy; have hji : j < i := by
   refine Classical.byContradiction fun hn => ?_
   rcases Nat.lt_or_ge i j with h | h
   . exact a0I _ (Z8 hlt ((pairwise_iff_getElem.1 (a2g R)) i j hi hj h))
   . have : i = j := (by omega); subst this; exact a0I _ hlt
 obtain ⟨k, hk, e1, e2⟩ : ∃ k, ∃ h : k < (A9 R).length, k <= j /\ (A9 R).find? (fun x => decide (G2 R x = G2 R (A9 R)[i])) = some (A9 R)[k] := by
   have : ∀ n, n <= j -> (∀ m (hm : m < n) (hm2 : m < (A9 R).length), (fun x => decide (G2 R x = G2 R (A9 R)[i])) ((A9 R)[m]) = false) \/ ∃ k, ∃ h : k < (A9 R).length, k <= j /\ (A9 R).find? (fun x => decide (G2 R x = G2 R (A9 R)[i])) = some (A9 R)[k] := by
     intro n
     induction n with
     | zero => intro _; exact .inl fun m hm _ => by omega
     | succ n ih =>
       intro hn; rcases ih (by omega) with h | h
       . by_cases hp : (fun x => decide (G2 R x = G2 R (A9 R)[i])) ((A9 R)[n]'(by omega)) = true
         . exact .inr ⟨n, by omega, by omega, a6c _ _ n (by omega) (fun i hi => h i hi (by omega)) hp⟩
         . refine .inl fun m hm hm2 => ?_
           rcases Nat.lt_or_ge m n with q | q
           . exact h m q hm2
           . have : m = n := (by omega); subst this; simpa using hp
       . exact .inr h
   rcases this j (Nat.le_refl _) with h | h
   . exact ⟨j, hj, Nat.le_refl _, a6c _ _ j hj (fun i hi => h i hi (by omega)) (by simpa using he)⟩
   . exact h
 rw [e2] at hf; have h3 : (A9 R)[k] = (A9 R)[i] := Option.some.inj hf; have := (pairwise_iff_getElem.1 (a2g R)) k i hk hi (by omega); rw [h3] at this; exact a0I _ this
theorem c1f {R : List Chg} {id : Str} (hid : id ∈ A9 R) (h : ∀ y ∈ A9 R, y < id -> G2 R y ≠ G2 R id) : P4 R id = true := by
 obtain ⟨y, hy, e1, e2⟩ := c1Y hid; have hf := a9t.1 e2; rw [e1] at hf; by_cases hlt : y < id
 . exact absurd e1 (h y hy hlt)
 . by_cases hyi : y = id
   . rw [<- hyi]; exact e2
   . have hgt : id < y := Classical.byContradiction fun q => hyi (a1f hlt q)
     exact absurd e2 (by rw [b3Z hy hid hgt e1.symm]; simp)
theorem c6q {key : Str -> Str} {L : List Str} {e : Str} {k : Nat} (hk : k <= L.length) (hL : KS key L) (h1 : ∀ x ∈ L.drop k, 0 < R7 (key x) (key e)) (h2 : ∀ h : 0 < k, R7 (key (L[k - 1]'(by omega))) (key e) <= 0) (hlt : ∀ x ∈ L, x < e) : KS key (L.take k ++ e :: L.drop k) := by
 have hp : KS key (L.take k ++ L.drop k) := by rw [take_append_drop]; exact hL
 obtain ⟨p1, p2, p3⟩ := pairwise_append.1 hp; have hb : ∀ x ∈ L.take k, cfK key x e < 0 := fun x hx => by
   have hk0 : 0 < k := by
     rcases Nat.eq_zero_or_pos k with q | q
     . subst q; simp at hx
     . exact q
   obtain ⟨i, hi, rfl⟩ := mem_iff_getElem.1 hx; rw [length_take] at hi; rw [getElem_take]; have hlast : cfK key (L[k - 1]'(by omega)) e < 0 := by
     rw [a4g]; have hm := hlt (L[k - 1]'(by omega)) (gmm _); rcases Int.lt_or_le (R7 (key (L[k - 1]'(by omega))) (key e)) 0 with q | q
     . exact .inl q
     . exact .inr ⟨a3u.1 (by have := h2 hk0; omega), hm⟩
   rcases Nat.lt_or_ge i (k - 1) with q | q
   . exact a3l ((pairwise_iff_getElem.1 hL) i (k - 1) (by omega) (by omega) q) hlast
   . have : i = k - 1 := (by omega); subst this; exact hlast
 have ha : ∀ x ∈ L.drop k, cfK key e x < 0 := fun x hx => by
   rw [a4g]; have := h1 x hx; rw [b2z] at this; exact .inl (by omega)
 refine pairwise_append.2 ⟨p1, pairwise_cons.2 ⟨ha, p2⟩, fun x hx y hy => ?_⟩; rcases mem_cons.1 hy with rfl | hy
 . exact hb x hx
 . exact p3 x hx y hy
theorem c4t {R : List Chg} {L : List Str} (h : KS (C7 R) L) (hp : L.Perm (A9 R)) : L = I2 R :=
 b4q h (a4i (X7 R)) (hp.trans (U4 (a6E (C7 R)) (A9 R)).1.symm)
theorem b6h (R : List Chg) : K6 R = (A9 R).filter fun id => decide (id ∈ K6 R) := by
 have h1 : SS (K6 R) := by
   suffices hnd : (H7 R (I2 R)).2.Nodup by
     have h2 : (K6 R).Nodup := (mergeSort_perm _ _).nodup_iff.2 hnd; have h3 : (K6 R).Pairwise fun x y => ¬ y < x := a4S _
     exact (Pairwise.and h3 h2).imp fun {a b} h => (Classical.byContradiction fun hn => h.2 (a1f hn h.1))
   have := b0c R; refine M2 (P := fun l => l.Nodup -> (H7 R l).2.Nodup) (by simp [H7]) (fun l x ih => ?_) (I2 R) this; intro hn; obtain ⟨a, _, c⟩ := nodup_append.1 hn; have := ih a; rw [a1F]; unfold a0M; split
   . refine nodup_append.2 ⟨this, by simp, fun u hu v hv e => ?_⟩; rw [mem_singleton] at hv; exact c u (a7t R l u hu) v (by simp [hv]) e
   . exact this
 refine a5C h1 ((a2g R).sublist filter_sublist) fun x => ?_
 rw [mem_filter, decide_eq_true_eq]; exact ⟨fun h => ⟨a2P.1 (a7t R _ x (a8w.1 h)), h⟩, fun h => h.2⟩
def rsD (R : List Chg) : D := .ref (.agg [B3 R, .bool true])
theorem a3J (R : List Chg) : Ctr prog 90 [.d (rsD R)] (.d (B3 R)) := by
 refine fv (fun _ => false) func90 (by kernel_rfl) rfl rfl rfl rfl rfl ?_; simp -implicitDefEqProofs [rsD, B3]
theorem b0e (R : List Chg) (hR : R.length < 1000000) (id : Str) (o : Int) : Ctr prog 133 [.d (rsD R), .d (.str id), .d (.int .i64 o)] (.d (.bool (crB R id o))) := by
 refine fv (fun _ => false) func133 (by kernel_rfl) rfl rfl rfl rfl rfl ?_; have c1 := a3J R; simp only [rsD, B3] at c1; obtain ⟨B, hB⟩ : ∃ B, crB R id o = B := ⟨_, rfl⟩; rw [hB]; simp -implicitDefEqProofs [rsD, B3]; refine A0 c1 ?_; simp -implicitDefEqProofs [rsD, B3]; refine F3 R.length (fun k τ => τ 1 = .d (.str id) /\ τ 2 = .d (.int .i64 o) /\ τ 7 = .d (B3 R) /\ τ 8 = .d (.int .i64 k) /\ crB (R.drop k) id o = B) ⟨by simp, by simp, by simp [B3], by simp, by simpa using hB⟩ ?_; rintro k τ hk ⟨h1, h2, h7, h8, hn⟩; rcases Nat.lt_or_ge k R.length with hlt | hlt
 . have hlt' : (k : Int) < R.length := (by omega); obtain ⟨x, hx⟩ : ∃ x, R[k] = x := ⟨_, rfl⟩; have ex : A3 x = .agg [A4 x.1, .int .i64 (opC x), .str (idC x), .str x.2.2.2.1, .str x.2.2.2.2.1, .str x.2.2.2.2.2] := rfl; rw [drop_eq_getElem_cons hlt, hx] at hn; have hn' : ((decide (idC x = id) && decide (opC x = o)) || crB (R.drop (k + 1)) id o) = B := hn; by_cases q1 : idC x = id
   . by_cases q2 : opC x = o
     . simp only [q1, q2, decide_true, Bool.and_self, Bool.true_or] at hn'; subst hn'; simp -implicitDefEqProofs [h1, h2, h7, h8, B3, hlt, hlt', hx, ex, A1, q1, q2]
     . simp only [q1, q2, decide_true, decide_false, Bool.and_false, Bool.false_or] at hn'; simp -implicitDefEqProofs [h1, h2, h7, h8, B3, hlt, hlt', hx, ex, A1, q1, q2]; exact ⟨by omega, B8 hlt ⟨by simp [h1], by simp [h2], by simp [h7, B3], by simp, hn'⟩⟩
   . simp only [q1, decide_false, Bool.false_and, Bool.false_or] at hn'; simp -implicitDefEqProofs [h1, h2, h7, h8, B3, hlt, hlt', hx, ex, A1, q1]; exact ⟨by omega, B8 hlt ⟨by simp [h1], by simp [h2], by simp [h7, B3], by simp, hn'⟩⟩
 . have hlt' : ¬ (k : Int) < R.length := (by omega); have hlt'' : ¬ k < R.length := (by omega); rw [drop_eq_nil_of_le hlt] at hn; have hn' : false = B := hn; subst hn'; simp -implicitDefEqProofs [h1, h2, h7, h8, B3, hlt', hlt'']
theorem b5E (R : List Chg) (hR : R.length < 1000000) (id : Str) : Ctr prog 91 [.d (rsD R), .d (.str id)] (.d (.bool (a1G R id))) := by
 refine fv (fun _ => false) func91 (by kernel_rfl) rfl rfl rfl rfl rfl ?_; have c1 := b0e R hR id 1; have c2 := b0e R hR id 2; unfold a1G; simp only [rsD] at c1 c2; generalize crB R id 1 = b1 at *; generalize crB R id 2 = b2 at *; simp -implicitDefEqProofs [rsD]; refine A0 c1 ?_; cases b1
 . simp -implicitDefEqProofs [rsD]
 . simp -implicitDefEqProofs [rsD]; refine A0 c2 ?_; simp -implicitDefEqProofs [rsD]
theorem b8C (l : List Str) (x : Str) (hl : l.length < 1000000) : Ctr prog 92 [.d (B0 l), .d (.str x)] (.d (B0 (Y7 x l))) := by
 have hws : ∀ u ∈ List.map D.str l, C0 u = 1 := fun u hu => by
   obtain ⟨s, _, rfl⟩ := mem_map.1 hu; rfl
 refine fv (fun i => i == 6) func92 (by kernel_rfl) rfl rfl rfl rfl rfl ?_; simp -implicitDefEqProofs []; refine F3 l.length (fun k τ => τ 0 = .d (B0 l) /\ τ 1 = .d (.str x) /\ τ 5 = .d (.int .i64 k) /\ Y7 x l = l.take k ++ Y7 x (l.drop k)) ⟨by simp, by simp, by simp, by simp⟩ ?_; rintro k τ hk ⟨h0, h1, h5, hn⟩; rcases Nat.lt_or_ge k l.length with hlt | hlt
 . have hlt' : (k : Int) < l.length := (by omega); obtain ⟨y, hy⟩ : ∃ y, l[k] = y := ⟨_, rfl⟩; rw [drop_eq_getElem_cons hlt, hy, Y7] at hn; by_cases q : y < x
   . rw [if_pos q] at hn; have hb := b8h.2 q; simp -implicitDefEqProofs [h0, h1, h5, B0, hlt, hlt', hy, hb]; refine ⟨by omega, B8 hlt ⟨by simp [h0, B0], by simp [h1], by simp, ?_⟩⟩; rw [hn, F6 hlt, hy, append_assoc]; rfl
   . rw [if_neg q] at hn; have hb := a5r.2 q; by_cases e : y = x
     . rw [if_pos e] at hn; have hll : Y7 x l = l := by
         rw [hn]
         conv => rhs; rw [<- take_append_drop k l, drop_eq_getElem_cons hlt, hy]
       rw [hll]; have hxx : Op.bytesLess x x = false := a5r.2 (a0I x); simp -implicitDefEqProofs [h0, h1, h5, B0, hlt, hlt', hy, hb, e, hxx]
     . rw [if_neg e] at hn; have hll : Y7 x l = l.take k ++ [x] ++ l.drop k := by
         rw [hn, drop_eq_getElem_cons hlt, hy]; simp
       rw [hll]; simp -implicitDefEqProofs [h0, h1, h5, B0, hlt, hlt', hy, hb, e]; exact ⟨hk, fun u hu => hws u (mem_of_mem_take hu), by omega, by omega, by omega, by omega, hk, fun u hu => hws u (mem_of_mem_drop (mem_of_mem_take hu)), by omega, by omega, by rw [ttl (by simp)]⟩
 . have hlt' : ¬ (k : Int) < l.length := (by omega); have hlt'' : ¬ k < l.length := (by omega); rw [ttl hlt, drop_eq_nil_of_le hlt] at hn; have hll : Y7 x l = l ++ [x] := hn; rw [hll]; simp -implicitDefEqProofs [h0, h1, h5, B0, hlt', hlt'']; exact ⟨hk, fun u hu => hws u (mem_of_mem_take hu), by omega, by omega, by omega, by omega, hk, fun u hu => hws u (mem_of_mem_drop (mem_of_mem_take hu)), by omega, by omega, by rw [ttl (i := k) (by simp; omega), drop_eq_nil_of_le (by simp; omega)]; simp⟩
def RlI (R : List Chg) (k : Nat) (τ : St) : Prop := τ 0 = .d (rsD R) /\ (τ 3 = .d (B0 (T8 R (R.take k))) \/ (τ 3 = .own false 9 [] /\ T8 R (R.take k) = [])) /\ τ 4 = .d (B3 R) /\ τ 5 = .d (.int .i64 k)
theorem a2h (R : List Chg) (hR : R.length < 1000000) : Ctr prog 43 [.d (rsD R)] (.d (B0 (A9 R))) := by
 refine fv (fun _ => false) func43 (by kernel_rfl) rfl rfl rfl rfl rfl ?_; have c1 := a3J R; have c2 := fun id => b5E R hR id
 have c3 := fun l x hl => b8C l x hl
 rw [<- c0j R]; obtain ⟨rd, hrd⟩ : ∃ rd, rsD R = rd := ⟨_, rfl⟩; have hna : rd.isAgg = false := by rw [<- hrd]; rfl
 rw [hrd] at c1 ⊢; simp only [hrd] at c2; simp only [B3] at c1; simp -implicitDefEqProofs []; refine A0 c1 ?_; simp -implicitDefEqProofs []; refine F3 R.length (RlI R) ⟨by simp [hrd], .inr ⟨by simp, by simp [T8]⟩, by simp [B3], by simp⟩ ?_; rintro k τ hk ⟨h0, h3, h4, h5⟩; rw [hrd] at h0; rcases Nat.lt_or_ge k R.length with hlt | hlt
 . have hlt' : (k : Int) < R.length := (by omega); obtain ⟨x, hx⟩ : ∃ x, R[k] = x := ⟨_, rfl⟩; have ex : A3 x = .agg [A4 x.1, .int .i64 (opC x), .str (idC x), .str x.2.2.2.1, .str x.2.2.2.2.1, .str x.2.2.2.2.2] := rfl; have c2 := c2 (idC x); have hs := a5o R (R.take k) x; rw [show R.take k ++ [x] = R.take (k + 1) by rw [F6 hlt, hx]] at hs; have hll := b7G R (R.take k); rw [length_take] at hll; have c3 := c3 (T8 R (R.take k)) (idC x) (by omega); by_cases hb : a1G R (idC x) = true
   . rw [if_pos hb] at hs; rw [hb] at c2; rcases h3 with h3 | ⟨h3, he⟩
     . simp -implicitDefEqProofs [h0, h3, h4, h5, hlt, hlt', B3, hx, ex, A1]; refine A0 c2 ?_; simp -implicitDefEqProofs [h0, h3, h4, h5, hlt, hlt', B3, hx, ex, A1]; refine A0 c3 ?_; simp -implicitDefEqProofs [h0, h3, h4, h5]; exact ⟨by omega, B8 hlt ⟨by simp [h0, hrd], .inl (by simp [hs]), by simp [h4, B3], by simp⟩⟩
     . rw [he] at c3 hs; simp -implicitDefEqProofs [h0, h3, h4, h5, hlt, hlt', B3, hx, ex, A1]; refine A0 c2 ?_; simp -implicitDefEqProofs [h0, h3, h4, h5, hlt, hlt', B3, hx, ex, A1]; refine A0 c3 ?_; simp -implicitDefEqProofs [h0, h3, h4, h5]; exact ⟨by omega, B8 hlt ⟨by simp [h0, hrd], .inl (by simp [hs]), by simp [h4, B3], by simp⟩⟩
   . rw [if_neg hb] at hs; rw [Bool.not_eq_true] at hb; rw [hb] at c2; rcases h3 with h3 | ⟨h3, he⟩
     . simp -implicitDefEqProofs [h0, h3, h4, h5, hlt, hlt', B3, hx, ex, A1]; refine A0 c2 ?_; simp -implicitDefEqProofs [h0, h3, h4, h5, hlt, hlt', B3, hx, ex, A1]; exact ⟨by omega, B8 hlt ⟨by simp [h0, hrd], .inl (by simp [h3, hs]), by simp [h4, B3], by simp⟩⟩
     . simp -implicitDefEqProofs [h0, h3, h4, h5, hlt, hlt', B3, hx, ex, A1]; refine A0 c2 ?_; simp -implicitDefEqProofs [h0, h3, h4, h5, hlt, hlt', B3, hx, ex, A1]; exact ⟨by omega, B8 hlt ⟨by simp [h0, hrd], .inr ⟨by simp [h3], by rw [hs]; exact he⟩, by simp [h4, B3], by simp⟩⟩
 . have hlt' : ¬ (k : Int) < R.length := (by omega); have hlt'' : ¬ k < R.length := (by omega); rw [ttl hlt] at h3; rcases h3 with h3 | ⟨h3, he⟩
   . simp -implicitDefEqProofs [h0, h3, h4, h5, hlt', hlt'', B3]
   . rw [he]; simp -implicitDefEqProofs [h0, h3, h4, h5, hlt', hlt'', B3, B0]
theorem b2T (a b : Chg) (ha : M8 a) (hb : M8 b) : Ctr prog 134 [.d (A3 a), .d (A3 b)] (.d (.bool (ltM b a))) := by
 refine fv (fun _ => false) func134 (by kernel_rfl) rfl rfl rfl rfl rfl ?_; have c1 := c2I a.1 b.1; have c2 := b5A a ha; have c3 := b5A b hb; have hl := c0x a b; have ea : A3 a = .agg [A4 a.1, .int .i64 (opC a), .str (idC a), .str a.2.2.2.1, .str a.2.2.2.2.1, .str a.2.2.2.2.2] := rfl; have eb : A3 b = .agg [A4 b.1, .int .i64 (opC b), .str (idC b), .str b.2.2.2.1, .str b.2.2.2.2.1, .str b.2.2.2.2.2] := rfl; obtain ⟨r, hr⟩ : ∃ r, ltM b a = r := ⟨_, rfl⟩; rw [hr] at hl ⊢; generalize R4 a.1 b.1 = n at *; obtain ⟨⟨la, xa⟩, hla⟩ : ∃ p, H0 a = p := ⟨_, rfl⟩; obtain ⟨⟨lb, xb⟩, hlb⟩ : ∃ p, H0 b = p := ⟨_, rfl⟩; rw [hla] at c2 hl; rw [hlb] at c3 hl; rw [ea] at c2 ⊢; rw [eb] at c3 ⊢; simp only at hl; simp -implicitDefEqProofs [A1]; refine ⟨rfl, rfl, A0 c1 ?_⟩; rcases Classical.em (n = 0) with h0 | h0
 . subst h0; simp -implicitDefEqProofs [A1]; refine A0 c2 ?_; simp -implicitDefEqProofs [A1]; refine A0 c3 ?_; have e : r = decide (lb < la) := by rw [Bool.eq_iff_iff, decide_eq_true_eq, hl]; simp
   rw [e]; have e2 : (!decide (la < lb) && !decide (la = lb)) = decide (lb < la) := by
     rw [Bool.eq_iff_iff, Bool.and_eq_true, Bool.not_eq_true', Bool.not_eq_true', decide_eq_false_iff_not, decide_eq_false_iff_not, decide_eq_true_eq]; exact ⟨fun h => Classical.byContradiction fun q => h.2 (a1f h.1 q), fun h => ⟨fun q => a0I _ (Z8 q h), fun e => by subst e; exact a0I _ h⟩⟩
   simp -implicitDefEqProofs [A1, e2, bl]
 . have e : r = decide (0 < n) := by rw [Bool.eq_iff_iff, decide_eq_true_eq, hl]; simp [h0]
   rw [e]; simp -implicitDefEqProofs [A1, h0]
def OwJ (R : List Chg) (id : Str) (k : Nat) (τ : St) : Prop := ∃ b, a1Y R id k b /\ τ 0 = .d (rsD R) /\ τ 1 = .d (.str id) /\ τ 5 = .d (B3 R) /\ τ 6 = .d (.int .i64 b) /\ τ 7 = .d (.int .i64 k)
theorem b7c (R : List Chg) (hB : U5 R) (id : Str) : Ctr prog 93 [.d (rsD R), .d (.str id)] (.d (.str (G2 R id))) := by
 refine fv (fun _ => false) func93 (by kernel_rfl) rfl rfl rfl rfl rfl ?_; have hR := hB.few; have c1 := a3J R; have c2 := fun a b ha hb => b2T a b ha hb
 have hna : (rsD R).isAgg = false := rfl; simp only [B3] at c1; have hrd : rsD R = .ref (.agg [B3 R, .bool true]) := rfl; rw [hrd] at c1 ⊢; simp -implicitDefEqProofs [B3]; simp only [B3] at c1; refine A0 c1 ?_; simp -implicitDefEqProofs [B3]; refine F3 R.length (OwJ R id) ⟨-1, c0p R id, by simp [rsD, B3], by simp, by simp [B3], by simp, by simp⟩ ?_; rintro k τ hk ⟨b, hb, h0, h1, h5, h6, h7⟩; rcases Nat.lt_or_ge k R.length with hlt | hlt
 . have hlt' : (k : Int) < R.length := (by omega); have hfx := hB.fit R[k] (gmm _); have sk := b9x hlt hb; have sn := c3b (R := R) (id := id) hlt; have sc : ∀ j (hj : j < R.length), b = j -> _ := fun j hj e => c2C hB.ok (id := id) hlt hj (by rw [<- e]; exact hb)
   obtain ⟨x, hx⟩ : ∃ x, R[k] = x := ⟨_, rfl⟩; rw [hx] at sk sn hfx; simp only [hx] at sc; have ex : A3 x = .agg [A4 x.1, .int .i64 (opC x), .str (idC x), .str x.2.2.2.1, .str x.2.2.2.2.1, .str x.2.2.2.2.2] := rfl; by_cases q1 : idC x = id
   case neg =>
     have hn' := sk (by simp [q1]); simp -implicitDefEqProofs [h0, h1, h5, h6, h7, hlt, hlt', B3, hx, ex, A1, q1]; exact ⟨by omega, B8 hlt ⟨b, hn', by simp [h0], by simp [h1], by simp [h5, B3], by simp [h6], by simp⟩⟩
   by_cases q2 : opC x = 1 \/ opC x = 3
   case neg =>
     have q3 : ¬ opC x = 1 := fun e => q2 (.inl e)
     have q4 : ¬ opC x = 3 := fun e => q2 (.inr e)
     have hn' := sk (by simp [B9, q3, q4]); simp -implicitDefEqProofs [h0, h1, h5, h6, h7, hlt, hlt', B3, hx, ex, A1, q1, q3, q4]; exact ⟨by omega, B8 hlt ⟨b, hn', by simp [h0], by simp [h1], by simp [h5, B3], by simp [h6], by simp⟩⟩
   have hnk : (decide (idC x = id) && B9 (opC x)) = true := by rcases q2 with q | q <;> simp [B9, q, q1]
   rcases hb with ⟨rfl, hb0⟩ | ⟨j, hj, rfl, hjm⟩
   . have hn' := sn (.inl ⟨rfl, hb0⟩) hnk; rcases q2 with q | q
     . simp -implicitDefEqProofs [h0, h1, h5, h6, h7, hlt, hlt', B3, hx, ex, A1, q1, q]; exact ⟨by omega, B8 hlt ⟨k, hn', by simp [h0], by simp [h1], by simp [h5, B3], by simp, by simp⟩⟩
     . simp -implicitDefEqProofs [h0, h1, h5, h6, h7, hlt, hlt', B3, hx, ex, A1, q1, q]; exact ⟨by omega, B8 hlt ⟨k, hn', by simp [h0], by simp [h1], by simp [h5, B3], by simp, by simp⟩⟩
   . have hn' := sc j hj rfl hnk; have hj' : (j : Int) < R.length := (by omega); have hj0 : ¬ (j : Int) < 0 := (by omega); have hfy := hB.fit R[j] (gmm _); obtain ⟨y, hy⟩ : ∃ x, R[j] = x := ⟨_, rfl⟩; rw [hy] at hn' hfy; have ey : A3 y = .agg [A4 y.1, .int .i64 (opC y), .str (idC y), .str y.2.2.2.1, .str y.2.2.2.2.1, .str y.2.2.2.2.2] := rfl; have c2 := c2 x y hfx hfy; rw [ex, ey] at c2; cases hl : ltM y x with
     | true =>
       rw [hl] at c2 hn'; rw [if_pos rfl] at hn'; rcases q2 with q | q
       . rw [q, q1] at c2; simp -implicitDefEqProofs [h0, h1, h5, h6, h7, hlt, hlt', B3, hx, ex, A1, q1, q, hj, hj', hj0, hy, ey]; refine B6 c2 ?_; simp -implicitDefEqProofs [h0, h1, h5, h6, h7, hlt, hlt', B3, hx, ex, A1, q1, q, hj, hj', hj0, hy, ey]; exact ⟨by omega, B8 hlt ⟨k, hn', by simp [h0], by simp [h1], by simp [h5, B3], by simp, by simp⟩⟩
       . rw [q, q1] at c2; simp -implicitDefEqProofs [h0, h1, h5, h6, h7, hlt, hlt', B3, hx, ex, A1, q1, q, hj, hj', hj0, hy, ey]; refine B6 c2 ?_; simp -implicitDefEqProofs [h0, h1, h5, h6, h7, hlt, hlt', B3, hx, ex, A1, q1, q, hj, hj', hj0, hy, ey]; exact ⟨by omega, B8 hlt ⟨k, hn', by simp [h0], by simp [h1], by simp [h5, B3], by simp, by simp⟩⟩
     | false =>
       rw [hl] at c2 hn'; rw [if_neg (by simp)] at hn'; rcases q2 with q | q
       . rw [q, q1] at c2; simp -implicitDefEqProofs [h0, h1, h5, h6, h7, hlt, hlt', B3, hx, ex, A1, q1, q, hj, hj', hj0, hy, ey]; refine B6 c2 ?_; simp -implicitDefEqProofs [h0, h1, h5, h6, h7, hlt, hlt', B3, hx, ex, A1, q1, q, hj, hj', hj0, hy, ey]; exact ⟨by omega, B8 hlt ⟨j, hn', by simp [h0], by simp [h1], by simp [h5, B3], by simp [h6], by simp⟩⟩
       . rw [q, q1] at c2; simp -implicitDefEqProofs [h0, h1, h5, h6, h7, hlt, hlt', B3, hx, ex, A1, q1, q, hj, hj', hj0, hy, ey]; refine B6 c2 ?_; simp -implicitDefEqProofs [h0, h1, h5, h6, h7, hlt, hlt', B3, hx, ex, A1, q1, q, hj, hj', hj0, hy, ey]; exact ⟨by omega, B8 hlt ⟨j, hn', by simp [h0], by simp [h1], by simp [h5, B3], by simp [h6], by simp⟩⟩
 . have hlt' : ¬ (k : Int) < R.length := (by omega); have hlt'' : ¬ k < R.length := (by omega); have hkl : k = R.length := (by omega); subst hkl; rcases c2Y hb with ⟨rfl, e⟩ | ⟨j, hj, rfl, e⟩
   . rw [e]; simp -implicitDefEqProofs [h0, h1, h5, h6, h7, B3]
   . have hj' : (j : Int) < R.length := (by omega); have hj0 : ¬ (j : Int) < 0 := (by omega); obtain ⟨y, hy⟩ : ∃ x, R[j] = x := ⟨_, rfl⟩; rw [hy] at e; have ey : A3 y = .agg [A4 y.1, .int .i64 (opC y), .str (idC y), .str y.2.2.2.1, .str y.2.2.2.2.1, .str y.2.2.2.2.2] := rfl; rw [<- e]; simp -implicitDefEqProofs [h0, h1, h5, h6, h7, B3, hj, hj', hj0, hy, ey, A1]
theorem b4w (R : List Chg) (hB : U5 R) (id : Str) (hid : id ∈ A9 R) : Ctr prog 94 [.d (rsD R), .d (.str id)] (.d (.bool (!P4 R id))) := by
 refine fv (fun _ => false) func94 (by kernel_rfl) rfl rfl rfl rfl rfl ?_; have hfw := hB.few; have c1 := a2h R (by omega); have c2 := fun i => b7c R hB i
 have hit := fun {y : Str} (hy : y ∈ A9 R) => b3Z hid hy
 have miss := c1f hid; have hll := (T9 hB).lt; have hlen := Q6 R; obtain ⟨B, hBq⟩ : ∃ B, P4 R id = B := ⟨_, rfl⟩; rw [hBq] at hit miss ⊢; have c2i := c2 id; generalize G2 R id = oi at *; obtain ⟨V, hV⟩ : ∃ V, A9 R = V := ⟨_, rfl⟩; rw [hV] at c1 hit miss hlen; simp only [B0] at c1; obtain ⟨rd, hrd⟩ : ∃ rd, rsD R = rd := ⟨_, rfl⟩; have hna : rd.isAgg = false := by rw [<- hrd]; rfl
 rw [hrd] at c1 c2i ⊢; simp only [hrd] at c2; simp -implicitDefEqProofs []; refine A0 c1 ?_; simp -implicitDefEqProofs []; refine F3 V.length (fun k τ => τ 0 = .d rd /\ τ 1 = .d (.str id) /\ τ 5 = .d (B0 V) /\ τ 6 = .d (.int .i64 k) /\ ∀ y ∈ V.take k, G2 R y ≠ oi) ⟨by simp, by simp, by simp [B0], by simp, by simp⟩ ?_; rintro k τ hk ⟨h0, h1, h5, h6, hn⟩; rcases Nat.lt_or_ge k V.length with hlt | hlt
 . have hlt' : (k : Int) < V.length := (by omega); obtain ⟨y, hy⟩ : ∃ x, V[k] = x := ⟨_, rfl⟩; have hyV : y ∈ V := by rw [<- hy]; exact gmm _
   have c2y := c2 y; by_cases q : y < id
   . have hb := b8h.2 q; by_cases e : G2 R y = oi
     . have hf := hit hyV q e; rw [hf]; rw [e] at c2y; simp -implicitDefEqProofs [h0, h1, h5, h6, B0, hlt, hlt', hy, hb]; refine A0 c2y ?_; simp -implicitDefEqProofs [h0, h1, h5, h6, B0, hlt, hlt', hy, hb]; refine A0 c2i ?_; simp -implicitDefEqProofs [h0, h1, h5, h6]
     . generalize hoy : G2 R y = oy at *; simp -implicitDefEqProofs [h0, h1, h5, h6, B0, hlt, hlt', hy, hb]; refine A0 c2y ?_; simp -implicitDefEqProofs [h0, h1, h5, h6, B0, hlt, hlt', hy, hb]; refine A0 c2i ?_; simp -implicitDefEqProofs [h0, h1, h5, h6, e]; refine ⟨by omega, B8 hlt ⟨by simp [h0], by simp [h1], by simp [h5, B0], by simp, fun z hz => ?_⟩⟩; rw [F6 hlt, hy] at hz; rcases mem_append.1 hz with hz | hz
       . exact hn z hz
       . rw [mem_singleton.1 hz, hoy]; exact e
   . have hb := a5r.2 q; have hm := miss fun z hz hzi => by
       obtain ⟨i, hi, rfl⟩ := mem_iff_getElem.1 hz; refine hn _ ?_; rw [mem_iff_getElem]; have hik : i < k := by
         refine Classical.byContradiction fun hc => ?_
         rcases Nat.lt_or_ge k i with h2 | h2
         . have hS := a2g R; rw [hV] at hS; have := (pairwise_iff_getElem.1 hS) k i hlt hi h2; rw [hy] at this; exact q (Z8 this hzi)
         . have : i = k := (by omega); subst this; rw [hy] at hzi; exact q hzi
       exact ⟨i, by simp; omega, by simp⟩
     rw [hm]; simp -implicitDefEqProofs [h0, h1, h5, h6, B0, hlt, hlt', hy, hb]
 . have hlt' : ¬ (k : Int) < V.length := (by omega); have hlt'' : ¬ k < V.length := (by omega); rw [ttl hlt] at hn; rw [miss fun z hz _ => hn z hz]; simp -implicitDefEqProofs [h0, h1, h5, h6, B0, hlt', hlt'']
def cfF (R : List Chg) (l : List Str) : List Str := l.filter fun id => !P4 R id
theorem c1r (R : List Chg) (hB : U5 R) : Ctr prog 45 [.d (rsD R)] (.d (B0 (Z1 R))) := by
 have hfw := hB.few; have c1 := a2h R (by omega); have c2 := fun i hi => b4w R hB i hi
 have hll := (T9 hB).lt; have hlen := Q6 R; have hcf : Z1 R = cfF R (A9 R) := rfl; rw [hcf]; refine Z9 (e := 9) ?_; refine fv (fun i => i == 3 || i == 2) func45 (by kernel_rfl) rfl rfl rfl rfl rfl ?_; obtain ⟨V, hV⟩ : ∃ V, A9 R = V := ⟨_, rfl⟩; rw [hV] at c1 hlen ⊢; simp only [hV] at c2; simp only [B0] at c1; obtain ⟨rd, hrd⟩ : ∃ rd, rsD R = rd := ⟨_, rfl⟩; have hna : rd.isAgg = false := by rw [<- hrd]; rfl
 rw [hrd] at c1 ⊢; simp only [hrd] at c2; simp -implicitDefEqProofs []; refine A0 c1 ?_; simp -implicitDefEqProofs []; refine F3 V.length (fun k τ => τ 0 = .d rd /\ τ 4 = .d (B0 V) /\ τ 5 = .d (.int .i64 k) /\ τ 3 = .own true 9 ((cfF R (V.take k)).map .str)) ⟨by simp, by simp [B0], by simp, by simp [cfF]⟩ ?_; rintro k τ hk ⟨h0, h4, h5, h3⟩; have hcl : (cfF R (V.take k)).length <= k := by
   have := length_filter_le (fun id => !P4 R id) (V.take k); simp only [length_take] at this; unfold cfF; omega
 rcases Nat.lt_or_ge k V.length with hlt | hlt
 . have hlt' : (k : Int) < V.length := (by omega); obtain ⟨y, hy⟩ : ∃ x, V[k] = x := ⟨_, rfl⟩; have c2y := c2 y (by rw [<- hy]; exact gmm _); have hs : cfF R (V.take (k + 1)) = cfF R (V.take k) ++ (if (!P4 R y) = true then [y] else []) := by
     unfold cfF; rw [F6 hlt, hy, a1R]
   have hcm : ((cfF R (V.take k)).map D.str).length <= 1000000 := by simp; omega
   generalize cfF R (V.take k) = T at *; cases hb : P4 R y with
   | true =>
     rw [hb] at c2y hs; simp at hs; simp -implicitDefEqProofs [h0, h3, h4, h5, B0, hlt, hlt', hy]; refine A0 c2y ?_; simp -implicitDefEqProofs [h0, h3, h4, h5]; exact ⟨by omega, B8 hlt ⟨by simp [h0], by simp [h4, B0], by simp, by simp [h3, hs]⟩⟩
   | false =>
     rw [hb] at c2y hs; simp at hs; simp -implicitDefEqProofs [h0, h3, h4, h5, B0, hlt, hlt', hy]; refine A0 c2y ?_; simp -implicitDefEqProofs [h0, h3, h4, h5, B0, hlt, hlt', hy]; exact ⟨by omega, by omega, by omega, B8 hlt ⟨by simp [h0], by simp [h4, B0], by simp, by simp [hs]⟩⟩
 . have hlt' : ¬ (k : Int) < V.length := (by omega); have hlt'' : ¬ k < V.length := (by omega); rw [ttl hlt] at h3; simp -implicitDefEqProofs [h0, h3, h4, h5, B0, hlt', hlt'']
end Go.Proofs.Tz
namespace Go.Vw
open Go.RowKit Go.Proofs
theorem Ctr.lendO {P : Program} {f : FuncId} {ds : List D} {e : TypeId} {y z : D} (h : Ctr P f [.d (.sl ds)] (.tup [.d y, .d z])) (hy : a3M y = true) (hz : a3M z = true) : Ctr P f [.own true e ds] (.tup [.d y, .d z]) := by
 refine ⟨h.1, fun w L og vals hl hg hog hrc => ?_⟩; simp only [RCs] at hrc; obtain ⟨v, us, rfl, hv, hus⟩ := hrc; have hv' : F0 P w L og true e ds v := by simpa only [RC] using hv
 have hb : ∀ b, v.ownBlock = some b -> b < w.heap.size /\ ∀ q, ¬ L b q := fun b hb => ⟨(hog b (hv'.blk hb).1).1, (hv'.blk hb).2⟩
 have hext : Ext w L w (fun b q => L b q \/ v.ownBlock = some b) := fun b q hq => ⟨.inl hq, fun _ hv => hv⟩
 refine (h.2 w (fun b q => L b q \/ v.ownBlock = some b) none (v :: us) (fun b q hq => hq.elim (hl b q) fun h => (hb b h).1) (hg.mono hext) (by simp) ?_).mono ?_
 . simp only [RCs, RC]; exact ⟨v, us, rfl, hv'.lend hext (fun g hg q => .inr hg), hus⟩
 . rintro x w' ⟨v', L', og', rfl, hgr, hlok', hold', hog', hres⟩; refine ⟨v', fun b q => L' b q /\ v.ownBlock ≠ some b, none, rfl, hgr.sub (fun b hb => by simp [H1] at hb), fun b q hq => hlok' b q hq.1, fun b q hbs hne => ?_, by simp, ?_⟩
   . show (L' b q /\ v.ownBlock ≠ some b) ↔ L b q
     rw [hold' b q hbs (by simp [H1])]; exact ⟨fun ⟨h1, h2⟩ => h1.elim id fun h => absurd h h2, fun h1 => ⟨.inl h1, fun h2 => (hb b h2).2 q h1⟩⟩
   . simp only [RC, RCs] at hres ⊢; obtain ⟨vs, h1, v1, u1, h2, h3, v2, u2, h4, h5, h6⟩ := hres; exact ⟨vs, h1, v1, u1, h2, a9s hy h3, v2, u2, h4, a9s hz h5, h6⟩
end Go.Vw
namespace Go.Proofs.Tz
open Go.Vw Go.RowKit Go.Proofs Go.Sort
theorem c3u (n : Nat) : a0H (Z6 (n % 16)) = Z6 (n % 16) := by
 have h : ∀ m : Fin 16, a0H (Z6 m.1) = Z6 m.1 := (by decide); exact h ⟨n % 16, Nat.mod_lt _ (by omega)⟩
theorem a7l (a b : Str) : D2 (a ++ b) = D2 a ++ D2 b := by simp [D2]
theorem a6q (w : Nat) : ∀ n, D2 (M7 n w) = M7 n w := by
 induction w with
 | zero => intro n; rfl
 | succ w ih => intro n; rw [M7, a7l, ih]; simp [D2, c3u]
theorem b5l (c : Csn) : D2 (G8 c) = G8 c := by
 unfold G8; split
 . have h45 : ∀ s, D2 (45 :: s) = 45 :: D2 s := fun s => rfl
   rw [a7l, h45, a7l, h45, a6q, a6q, a6q]
 . rfl
theorem c2M {R : List Chg} (h : U5 R) {id : Str} (hid : id ∈ A9 R) : D2 id = id := by
 obtain ⟨⟨c, hc, rfl⟩, _⟩ := a2i.1 hid; have ho := U7.1 (h.ok _ hc); obtain ⟨h3, h4⟩ := a2B (c := (J5 (idC c)).1) (s := idC c) (by rw [<- ho.id]); rw [<- h3, b5l]
def NpO (R : List F8 × Int) (s : Str) (m : Nat) (τ : St) : Prop := ∃ (rest : Str) (R5 : Bool) (out : List F8), m = (if R5 = true then List.length rest + 1 else 0) /\ τ 5 = .d (.str rest) /\ τ 6 = .d (.bool R5) /\ τ 4 = .own true 121 (out.map E9) /\
 List.length rest <= List.length s /\ out.length <= List.length s + 1 - (if R5 = true then List.length rest + 1 else 0) + 0 /\ J0 out (if R5 = true then M4 rest else []) = R
theorem b7S (s : Str) (hs : List.length s < 900000) : Ctr prog 95 [.d (.str s)] (.tup [.own true 121 ((D3 s).1.map E9), .d (.int .i64 (D3 s).2)]) := by
 refine G6 (rv := .tmp 2) (rs := [.tmp 3]) (r := .own true 121 ((D3 s).1.map E9)) (ys := [.d (.int .i64 (D3 s).2)]) (fun i => i == 2 || i == 4) (by kernel_rfl) func95 (by kernel_rfl) rfl rfl (by simp) (nbl rfl) (by kernel_rfl) rfl rfl ?_; obtain ⟨R, hR⟩ : ∃ R, D3 s = R := ⟨_, rfl⟩; rw [hR]; have hP : J0 [] (if (!decide (s = [])) = true then M4 s else []) = R := by
   rw [<- hR, D3]; by_cases h : s = []
   . simp [h, J0]
   . simp [h]
 simp -implicitDefEqProofs; refine a2s (NpO R s) (if (!decide (s = [])) = true then List.length s + 1 else 0) ⟨s, !decide (s = []), [], rfl, by simp, by simp, by simp, by omega, by simp, hP⟩ ?_; clear hP hR; rintro m τ ⟨rest, R5, out, rfl, h5, h6, h4, hl, ho, hI⟩; cases R5 with
 | false =>
   simp only [Bool.false_eq_true, if_false, J0] at hI ho; by_cases h8 : 8 < out.length
   . rw [if_pos h8] at hI; subst hI; have h8' : (8 : Int) < out.length := (by omega); simp -implicitDefEqProofs [h5, h6, h4, h8', F2]; try omega
   . rw [if_neg h8] at hI; subst hI; have h8' : ¬ (8 : Int) < out.length := (by omega); simp -implicitDefEqProofs [h5, h6, h4, h8', F2]; try omega
 | true =>
   simp only [if_true] at hI ho; have hno := b2o _ rest (Nat.le_refl _); have hle := a6r 44 rest; have hbl : List.length (rest.take (D7 44 rest)) < 1000000 := by simp; omega
   have c1 := b2t (rest.take (D7 44 rest)) hbl; by_cases hlt : D7 44 rest < rest.length
   . rw [a1E hlt] at hI hno; rw [a5O (hno _ (by simp))] at c1; simp only [J0] at hI; simp -implicitDefEqProofs [h5, h6, h4]; refine A0 (a4j rest 44 (by omega)) ?_; generalize D7 44 rest = j at *; have htk : List.take (List.length rest - (j + 1)) (List.drop (j + 1) rest) = List.drop (j + 1) rest := ttl (by simp); have i1 : (0 : Int) <= (j : Int) + 1 := (by omega); have j1 : ((j : Int) + 1).toNat = j + 1 := (by omega); have hlt' : (j : Int) < List.length rest := (by omega); have hdl : List.length (rest.drop (j + 1)) = List.length rest - (j + 1) := (by simp); simp -implicitDefEqProofs [h5, h6, h4]; (repeat refine ai (by omega) ?_); refine A0 c1 ?_; generalize Q2 (rest.take j) = C at *; obtain ⟨⟨n, v⟩, e⟩ := C; by_cases he : e = 0
     . simp only [he, if_true] at hI; simp -implicitDefEqProofs [h5, h6, h4, he, E9, hlt', hlt, i1, j1, htk]; (repeat refine ai (by omega) ?_); refine ⟨List.length (rest.drop (j + 1)) + 1, by omega, rest.drop (j + 1), true, out ++ [(n, v)], by simp, by simp, by simp, by simp [E9], by omega, by simp; omega, by simpa using hI⟩
     . simp only [he, if_false] at hI; subst hI; simp -implicitDefEqProofs [h5, h6, h4, he, E9, F2]
   . have hje : D7 44 rest = List.length rest := (by omega); rw [X6 hlt] at hI hno; have hte : rest.take (D7 44 rest) = rest := by rw [hje]; simp
     rw [hte, a5O (hno rest (by simp))] at c1; simp only [J0] at hI; simp -implicitDefEqProofs [h5, h6, h4]; refine A0 (a4j rest 44 (by omega)) ?_; rw [hje]; simp -implicitDefEqProofs [h5, h6, h4]; refine A0 c1 ?_; generalize Q2 rest = C at *; obtain ⟨⟨n, v⟩, e⟩ := C; by_cases he : e = 0
     . simp only [he, if_true] at hI; simp -implicitDefEqProofs [h5, h6, h4, he, E9]; (repeat refine ai (by omega) ?_); refine ⟨0, by omega, rest, false, out ++ [(n, v)], by simp, by simp [h5], by simp, by simp [E9], by omega, by simp; omega, by simpa [J0] using hI⟩
     . simp only [he, if_false] at hI; subst hI; simp -implicitDefEqProofs [h5, h6, h4, he, E9, F2]
theorem a7I (R : List Chg) (hB : U5 R) (id : Str) (hid : id ∈ A9 R) : Ctr prog 44 [.d (rsD R), .d (.str id)] (.d (.str (C7 R id))) := by
 refine fv (fun i => i == 6 || i == 20 || i == 23) func44 (by kernel_rfl) rfl rfl rfl rfl rfl ?_; have c1 := b7c R hB id; have c2 := b4w R hB id hid; have hN := (T9 hB).name id hid; have hlow := c2M hB hid; have hi22 := c4A hB hid; have c4 := a0l id (by omega); rw [hlow] at c4; have hsh : C7 R id = if P4 R id then G2 R id else a5x (G2 R id) id := rfl
 obtain ⟨Sx, hS⟩ : ∃ S, C7 R id = S := ⟨_, rfl⟩; rw [hS] at hsh ⊢; obtain ⟨ow, how⟩ : ∃ x, G2 R id = x := ⟨_, rfl⟩; rw [how] at c1 hN hsh; obtain ⟨rd, hrd⟩ : ∃ rd, rsD R = rd := ⟨_, rfl⟩; have hna : rd.isAgg = false := by rw [<- hrd]; rfl
 rw [hrd] at c1 c2 ⊢; have c3 := b7S ow hN.own; simp -implicitDefEqProofs []; refine A0 c1 ?_; simp -implicitDefEqProofs []; refine A0 c2 ?_; cases hob : P4 R id with
 | true =>
   rw [hob, if_pos rfl] at hsh; subst hsh; simp -implicitDefEqProofs []
 | false =>
   rw [hob, if_neg (by simp)] at hsh; have hfit := S2 ow; obtain ⟨p, l, hpl⟩ : ∃ p l, (D3 ow).1 = p :: l := by
     cases h : (D3 ow).1 with
     | nil => exact absurd h hN.parse
     | cons p l => exact ⟨p, l, rfl⟩
   have hoth : a7v ow id = (p.1, a2D p.2 id) :: l := (by simp [a7v, hpl]); have hos : a5x ow id = (F9 ((p.1, a2D p.2 id) :: l)).1 := by unfold a5x; rw [hoth]
   rw [hpl] at c3 hfit; generalize (D3 ow).2 = pe at *; simp -implicitDefEqProofs []; refine A0 c3 ?_; have hl0 : ¬ (l.length : Int) + 1 = 0 := (by omega); have hpv := (hfit.2 p (by simp)).2; have hl8 := hfit.1; simp only [map_cons] at c3; rw [hos] at hsh; simp -implicitDefEqProofs [hl0]; refine A0 c4 ?_; simp -implicitDefEqProofs [E9]; have hpE : E9 p = .agg [.str p.1, .str p.2] := rfl; rcases Nat.lt_or_ge 233 (List.length p.2) with hgt | hle
   . have hgt' : (256 : Int) < (List.length p.2 : Nat) + 23 := (by omega); have hcut : a2D p.2 id = p.2.take 233 ++ 35 :: id := by
       unfold a2D; rw [hi22, Nat.min_eq_right (by omega)]
     have hle2 : 233 <= List.length p.2 := (by omega); have c5 := a3i ((p.1, a2D p.2 id) :: l) (by
       refine ⟨by simpa using hl8, fun q hq => ?_⟩; rcases mem_cons.1 hq with rfl | hq
       . exact ⟨(hfit.2 p (by simp)).1, by rw [hcut]; simp; omega⟩
       . exact hfit.2 q (by simp [hq]))
     rw [<- hsh] at c5; rw [hcut] at c5; simp -implicitDefEqProofs [E9, hi22, hgt', hle2]; (repeat refine ai (by omega) ?_); refine A0 (c5.lendO rfl rfl) ?_; simp -implicitDefEqProofs [E9]
   . have hgt' : ¬ (256 : Int) < (List.length p.2 : Nat) + 23 := (by omega); have hcut : a2D p.2 id = p.2 ++ 35 :: id := by
       unfold a2D; rw [hi22, Nat.min_eq_left (by omega), take_length]
     have c5 := a3i ((p.1, a2D p.2 id) :: l) (by
       refine ⟨by simpa using hl8, fun q hq => ?_⟩; rcases mem_cons.1 hq with rfl | hq
       . exact ⟨(hfit.2 p (by simp)).1, by rw [hcut]; simp; omega⟩
       . exact hfit.2 q (by simp [hq]))
     rw [<- hsh] at c5; rw [hcut] at c5; simp -implicitDefEqProofs [E9, hi22, hgt']; (repeat refine ai (by omega) ?_); refine A0 (c5.lendO rfl rfl) ?_; simp -implicitDefEqProofs [E9]
theorem c1n {s : Str} (h : 1 < K8 (H5 s).1) : K8 (H5 s).1 < K8 s := by
 cases hs : K3 s with
 | none =>
   have : H5 s = ([], false) := by unfold H5; rw [hs]
   rw [this] at h; exact absurd h (by decide)
 | some l =>
   cases l with
   | nil =>
     have : H5 s = ([], false) := by unfold H5; rw [hs]
     rw [this] at h; exact absurd h (by decide)
   | cons p l =>
     obtain ⟨t, h1, h2⟩ := a5y hs; rw [h1]; unfold K8; rw [h2, hs]; simp
def a0i (R : List Chg) (id : Str) : Bool := decide (id ∈ K6 R)
theorem c5R (R : List Chg) (hB : U5 R) (id : Str) (hid : id ∈ A9 R) (IH : ∀ y ∈ A9 R, K8 (C7 R y) < K8 (C7 R id) -> Ctr prog 97 [.d (rsD R), .d (.str y)] (.d (.bool (a0i R y)))) : Ctr prog 97 [.d (rsD R), .d (.str id)] (.d (.bool (a0i R id))) := by
 refine fv (fun _ => false) func97 (by kernel_rfl) rfl rfl rfl rfl rfl ?_; have hfw := hB.few; have hG := T9 hB; have c1 := a2h R (by omega); have c2 := fun y hy => a7I R hB y hy
 have hlen := Q6 R; have hll := (T9 hB).lt; have hsl := a4W (hG.name id hid); have c3 := b6y (C7 R id) hsl; have hpl := b0R (C7 R id); have c4 := b8Y (H5 (C7 R id)).1 (by omega); have hiff := c3C hid; have hdp := c1n (s := C7 R id); have c2i := c2 id hid; unfold Y6 at hiff; obtain ⟨B, hBq⟩ : ∃ B, a0i R id = B := ⟨_, rfl⟩; have hBi : B = true ↔ 1 < K8 (H5 (C7 R id)).1 /\ ∀ y ∈ A9 R, C7 R y = (H5 (C7 R id)).1 -> y ∈ K6 R := by rw [<- hBq, <- hiff]; simp [a0i]
 rw [hBq]; generalize K8 (C7 R id) = n at *; generalize C7 R id = s at *; generalize (H5 s).2 = pb at *; generalize (H5 s).1 = p at *; obtain ⟨V, hV⟩ : ∃ V, A9 R = V := ⟨_, rfl⟩; rw [hV] at c1 hlen hBi IH; simp only [hV] at c2; simp only [B0] at c1; obtain ⟨rd, hrd⟩ : ∃ rd, rsD R = rd := ⟨_, rfl⟩; have hna : rd.isAgg = false := by rw [<- hrd]; rfl
 rw [hrd] at c1 c2i ⊢; simp only [hrd] at c2 IH; simp -implicitDefEqProofs []; refine A0 c2i ?_; simp -implicitDefEqProofs []; refine A0 c3 ?_; simp -implicitDefEqProofs []; refine A0 c4 ?_; by_cases hd : K8 p <= 1
 . have hd' : ((K8 p : Nat) : Int) <= 1 := (by omega); have : B = false := by rw [Bool.eq_false_iff, ne_eq, hBi]; omega
   rw [this]; simp -implicitDefEqProofs [hd']
 have hd' : ¬ ((K8 p : Nat) : Int) <= 1 := (by omega); have hd1 : 1 < K8 p := (by omega); have hit : ∀ y ∈ V, C7 R y = p -> a0i R y = false -> B = false := fun y hy e h => by
   rw [Bool.eq_false_iff, ne_eq, hBi]; intro q; have := q.2 y hy e; simp [a0i, this] at h
 have miss : (∀ y ∈ V, C7 R y = p -> a0i R y = true) -> B = true := fun h => hBi.2 ⟨hd1, fun y hy e => by have := h y hy e; simpa [a0i] using this⟩
 have hdq := hdp hd1; simp -implicitDefEqProofs [hd']; refine A0 c1 ?_; simp -implicitDefEqProofs []; refine F3 V.length (fun k τ => τ 0 = .d rd /\ τ 5 = .d (.str p) /\ τ 7 = .d (B0 V) /\ τ 8 = .d (.int .i64 k) /\ ∀ y ∈ V.take k, C7 R y = p -> a0i R y = true) ⟨by simp, by simp, by simp [B0], by simp, by simp⟩ ?_; clear hBi hBq hiff; rintro k τ hk ⟨h0, h5, h7, h8, hn⟩; rcases Nat.lt_or_ge k V.length with hlt | hlt
 . have hlt' : (k : Int) < V.length := (by omega); obtain ⟨y, hy⟩ : ∃ x, V[k] = x := ⟨_, rfl⟩; have hyV : y ∈ V := by rw [<- hy]; exact gmm _
   have c2y := c2 y hyV; have hiy := hit y hyV; have IHy := IH y hyV; have hgo : (C7 R y = p -> a0i R y = true) -> ∀ z ∈ V.take (k + 1), C7 R z = p -> a0i R z = true := fun h z hz => by
     rw [F6 hlt, hy] at hz; rcases mem_append.1 hz with hz | hz
     . exact hn z hz
     . rw [mem_singleton.1 hz]; exact h
   by_cases q : C7 R y = p
   . have c5 := IHy (by rw [q]; exact hdq); rw [q] at c2y; obtain ⟨b, hb⟩ : ∃ b, a0i R y = b := ⟨_, rfl⟩; rw [hb] at c5; cases b with
     | true =>
       have hg := hgo fun _ => hb
       simp -implicitDefEqProofs [h0, h5, h7, h8, B0, hlt, hlt', hy]; refine A0 c2y ?_; simp -implicitDefEqProofs [h0, h5, h7, h8, B0, hlt, hlt', hy]; refine A0 c5 ?_; simp -implicitDefEqProofs [h0, h5, h7, h8]; exact ⟨by omega, B8 hlt ⟨by simp [h0], by simp [h5], by simp [h7, B0], by simp, hg⟩⟩
     | false =>
       rw [hiy q hb]; simp -implicitDefEqProofs [h0, h5, h7, h8, B0, hlt, hlt', hy]; refine A0 c2y ?_; simp -implicitDefEqProofs [h0, h5, h7, h8, B0, hlt, hlt', hy]; refine A0 c5 ?_; simp -implicitDefEqProofs [h0, h5, h7, h8]
   . have hg := hgo fun e => absurd e q
     generalize C7 R y = sy at *; simp -implicitDefEqProofs [h0, h5, h7, h8, B0, hlt, hlt', hy]; refine A0 c2y ?_; simp -implicitDefEqProofs [h0, h5, h7, h8, q]; exact ⟨by omega, B8 hlt ⟨by simp [h0], by simp [h5], by simp [h7, B0], by simp, hg⟩⟩
 . have hlt' : ¬ (k : Int) < V.length := (by omega); have hlt'' : ¬ k < V.length := (by omega); rw [ttl hlt] at hn; rw [miss hn]; simp -implicitDefEqProofs [h0, h5, h7, h8, B0, hlt', hlt'']
theorem c2h (R : List Chg) (hB : U5 R) (id : Str) (hid : id ∈ A9 R) : Ctr prog 97 [.d (rsD R), .d (.str id)] (.d (.bool (a0i R id))) := by
 obtain ⟨n, hn⟩ : ∃ n, K8 (C7 R id) = n := ⟨_, rfl⟩
 induction n using Nat.strongRecOn generalizing id with
 | _ n ih => exact c5R R hB id hid fun y hy hl => ih _ (by rw [<- hn]; exact hl) y hy rfl
def orF (R : List Chg) (l : List Str) : List Str := l.filter fun id => a0i R id
theorem b9z (R : List Chg) (hB : U5 R) : Ctr prog 46 [.d (rsD R)] (.d (B0 (K6 R))) := by
 have hfw := hB.few; have c1 := a2h R (by omega); have c2 := fun i hi => c2h R hB i hi
 have hlen := Q6 R; have hll := (T9 hB).lt; have hcf : K6 R = orF R (A9 R) := b6h R; rw [hcf]; refine Z9 (e := 9) ?_; refine fv (fun i => i == 3 || i == 2) func46 (by kernel_rfl) rfl rfl rfl rfl rfl ?_; obtain ⟨V, hV⟩ : ∃ V, A9 R = V := ⟨_, rfl⟩; rw [hV] at c1 hlen ⊢; simp only [hV] at c2; simp only [B0] at c1; obtain ⟨rd, hrd⟩ : ∃ rd, rsD R = rd := ⟨_, rfl⟩; have hna : rd.isAgg = false := by rw [<- hrd]; rfl
 rw [hrd] at c1 ⊢; simp only [hrd] at c2; simp -implicitDefEqProofs []; refine A0 c1 ?_; simp -implicitDefEqProofs []; refine F3 V.length (fun k τ => τ 0 = .d rd /\ τ 4 = .d (B0 V) /\ τ 5 = .d (.int .i64 k) /\ τ 3 = .own true 9 ((orF R (V.take k)).map .str)) ⟨by simp, by simp [B0], by simp, by simp [orF]⟩ ?_; rintro k τ hk ⟨h0, h4, h5, h3⟩; have hcl : (orF R (V.take k)).length <= k := by
   have := length_filter_le (fun id => a0i R id) (V.take k); simp only [length_take] at this; unfold orF; omega
 rcases Nat.lt_or_ge k V.length with hlt | hlt
 . have hlt' : (k : Int) < V.length := (by omega); obtain ⟨y, hy⟩ : ∃ x, V[k] = x := ⟨_, rfl⟩; have c2y := c2 y (by rw [<- hy]; exact gmm _); have hs : orF R (V.take (k + 1)) = orF R (V.take k) ++ (if a0i R y = true then [y] else []) := by
     unfold orF; rw [F6 hlt, hy, a1R]
   have hcm : ((orF R (V.take k)).map D.str).length <= 1000000 := by simp; omega
   generalize orF R (V.take k) = T at *; cases hb : a0i R y with
   | false =>
     rw [hb] at c2y hs; simp at hs; simp -implicitDefEqProofs [h0, h3, h4, h5, B0, hlt, hlt', hy]; refine A0 c2y ?_; simp -implicitDefEqProofs [h0, h3, h4, h5]; exact ⟨by omega, B8 hlt ⟨by simp [h0], by simp [h4, B0], by simp, by simp [h3, hs]⟩⟩
   | true =>
     rw [hb] at c2y hs; simp at hs; simp -implicitDefEqProofs [h0, h3, h4, h5, B0, hlt, hlt', hy]; refine A0 c2y ?_; simp -implicitDefEqProofs [h0, h3, h4, h5, B0, hlt, hlt', hy]; exact ⟨by omega, by omega, by omega, B8 hlt ⟨by simp [h0], by simp [h4, B0], by simp, by simp [hs]⟩⟩
 . have hlt' : ¬ (k : Int) < V.length := (by omega); have hlt'' : ¬ k < V.length := (by omega); rw [ttl hlt] at h3; simp -implicitDefEqProofs [h0, h3, h4, h5, B0, hlt', hlt'']
theorem b4W (R : List Chg) (hB : U5 R) (n : Str) : Ctr prog 16 [.d (rsD R), .d (.str n)] (.tup [.d (.str (O8 R n).1), .d (.bool (O8 R n).2)]) := by
 refine G6 (rv := .tmp 4) (rs := [.tmp 5]) (r := .d (.str (O8 R n).1)) (ys := [.d (.bool (O8 R n).2)]) (fun i => false) (by kernel_rfl) func16 (by kernel_rfl) rfl rfl (by simp) (nbl rfl) (by kernel_rfl) rfl rfl ?_; have hfw := hB.few; have c1 := a2h R (by omega); have c2 := fun i hi => a7I R hB i hi
 have hlen := Q6 R; have hll := (T9 hB).lt; have n0 := b3V R n; have nh := fun k (h : noF R n k) => b6Z (k := k) h
 have nm := fun k (h : noF R n k) => b4u (k := k) h
 have ne := fun k (h : noF R n k) => b6O (k := k) h
 obtain ⟨F, hF⟩ : ∃ F, O8 R n = F := ⟨_, rfl⟩; simp only [hF] at nh ne ⊢; obtain ⟨V, hV⟩ : ∃ V, A9 R = V := ⟨_, rfl⟩; rw [hV] at c1 hlen; simp only [hV] at c2 nh nm ne; simp only [B0] at c1; obtain ⟨rd, hrd⟩ : ∃ rd, rsD R = rd := ⟨_, rfl⟩; have hna : rd.isAgg = false := by rw [<- hrd]; rfl
 rw [hrd] at c1 ⊢; simp only [hrd] at c2; simp -implicitDefEqProofs []; refine A0 c1 ?_; simp -implicitDefEqProofs []; refine F3 V.length (fun k τ => τ 0 = .d rd /\ τ 1 = .d (.str n) /\ τ 6 = .d (B0 V) /\ τ 7 = .d (.int .i64 k) /\ noF R n k) ⟨by simp, by simp, by simp [B0], by simp, n0⟩ ?_; rintro k τ hk ⟨h0, h1, h6, h7, hn⟩; rcases Nat.lt_or_ge k V.length with hlt | hlt
 . have hlt' : (k : Int) < V.length := (by omega); have hh := nh k hn hlt; have hm0 := nm k hn hlt; obtain ⟨y, hy⟩ : ∃ x, V[k] = x := ⟨_, rfl⟩; rw [hy] at hh hm0; have c2y := c2 y (by rw [<- hy]; exact gmm _); by_cases q : C7 R y = n
   . rw [hh q]; rw [q] at c2y; simp -implicitDefEqProofs [h0, h1, h6, h7, B0, hlt, hlt', hy]; refine A0 c2y ?_; simp -implicitDefEqProofs [h0, h1, h6, h7, B0, hlt, hlt', hy]
   . have hm := hm0 q; generalize C7 R y = sy at *; simp -implicitDefEqProofs [h0, h1, h6, h7, B0, hlt, hlt', hy]; refine A0 c2y ?_; simp -implicitDefEqProofs [h0, h1, h6, h7, q]; exact ⟨by omega, B8 hlt ⟨by simp [h0], by simp [h1], by simp [h6, B0], by simp, hm⟩⟩
 . have hlt' : ¬ (k : Int) < V.length := (by omega); have hlt'' : ¬ k < V.length := (by omega); rw [ne k hn hlt]; simp -implicitDefEqProofs [h0, h1, h6, h7, B0, hlt', hlt'']
abbrev anC (c : Chg) : Str := c.2.2.2.2.1
abbrev avC (c : Chg) : Str := c.2.2.2.2.2
def a3K (c x : Chg) : Bool := decide (idC x = idC c) && ((decide (opC x = 4) || decide (opC x = 5)) && (decide (D2 (anC x) = D2 (anC c)) && decide (avC x = avC c)))
def a3S (c : Chg) (l : List Chg) : Bool := l.all fun x => !(a3K c x && ltM c x)
abbrev b0f (R : List Chg) (c : Chg) : Bool := a3S c R
def a6K (R : List Chg) (id : Str) (c : Chg) : Bool := decide (idC c = id) && (decide (opC c = 4) && b0f R c)
def a2c (R l : List Chg) (id : Str) : List Att := (l.filter fun c => a6K R id c).map fun c => (anC c, [avC c])
theorem b6S {c : Chg} (h : I6 c = 0) (hv : opC c = 4 \/ opC c = 5) : D2 (anC c) = anC c := by
 have hb := (U7.1 h).name; have hk : B7 c.2.1 = true := by unfold B7; rcases hv with q | q <;> simp [q]
 unfold E8 at hb; simp only [hk, Bool.true_and, Bool.or_eq_false_iff, decide_eq_false_iff_not, Bool.not_eq_false', ne_eq, Decidable.not_not] at hb; exact hb.2.2
theorem b2Z {c x : Chg} (hc : I6 c = 0) (hx : I6 x = 0) (h4 : opC c = 4) : a3K c x = true ↔ idC x = idC c /\ B7 (opC x) = true /\ T1 x = T1 c := by
 unfold a3K B7; simp only [Bool.and_eq_true, Bool.or_eq_true, decide_eq_true_eq]; refine and_congr_right fun _ => ?_
 constructor
 . rintro ⟨h1, h2, h3⟩; rw [b6S hc (.inl h4), b6S hx h1] at h2; exact ⟨h1, Prod.ext h2 h3⟩
 . rintro ⟨h1, h2⟩; have e1 : anC x = anC c := congrArg Prod.fst h2; have e2 : avC x = avC c := congrArg Prod.snd h2; exact ⟨h1, by rw [e1], e2⟩
theorem b9o {R : List Chg} (hR : ∀ c ∈ R, I6 c = 0) (id : Str) : G5 (a2c R R id) = a0d R id := by
 unfold a0d; refine a6F fun n v => ?_
 have hvm : ∀ {k : VK} {c : Chg}, c ∈ S9 R id k ↔ c ∈ R /\ idC c = id /\ B7 (opC c) = true /\ T1 c = k := fun {k c} => by simp [S9]
 constructor
 . rintro ⟨a, ha, h1, h2⟩; obtain ⟨c, hc, rfl⟩ := mem_map.1 ha; obtain ⟨hcR, hq⟩ := mem_filter.1 hc; simp only [a6K, Bool.and_eq_true, decide_eq_true_eq] at hq; obtain ⟨q1, q2, q3⟩ := hq; have hcv : c ∈ S9 R id (T1 c) := hvm.2 ⟨hcR, q1, by simp [B7, q2], rfl⟩; have hne : S9 R id (T1 c) ≠ [] := fun e => by rw [e] at hcv; cases hcv
   have hm : X4 (S9 R id (T1 c)) = c := by
     rcases b2d (L := S9 R id (T1 c)) (fun c hc => hR c (hvm.1 hc).1) with ⟨e, _⟩ | ⟨hm, hmx⟩
     . exact absurd e hne
     . obtain ⟨g1, g2, g3, g4⟩ := hvm.1 hm; refine c4m (hR _ g1) (hR _ hcR) (hmx c hcv) ?_; have := all_eq_true.1 q3 _ g1; rw [(b2Z (hR _ hcR) (hR _ g1) q2).2 ⟨by rw [g2, q1], g3, g4⟩] at this; simpa using this
   have hv := c1t hR id (T1 c); rw [if_neg hne, hm, b2X (a7k R id)] at hv; exact ⟨_, mem_filterMap.2 ⟨_, hv, by unfold b1p; rw [if_pos q2]⟩, h1, h2⟩
 . rintro ⟨a, ha, h1, h2⟩; obtain ⟨p, hp, e⟩ := mem_filterMap.1 ha; unfold b1p at e; split at e
   case isFalse => cases e
   rename_i h4
   simp only [Option.some.injEq] at e; subst e; have hv : a0v (abF R id).vs p.1 = some p.2 := (b2X (a7k R id)).2 hp; rw [c1t hR] at hv; split at hv
   . cases hv
   . rename_i hne
     simp only [Option.some.injEq] at hv; rcases b2d (L := S9 R id p.1) (fun c hc => hR c (hvm.1 hc).1) with ⟨e, _⟩ | ⟨hm, hmx⟩
     . exact absurd e hne
     rw [hv] at hm hmx; obtain ⟨g1, g2, g3, g4⟩ := hvm.1 hm; refine ⟨(anC p.2, [avC p.2]), mem_map.2 ⟨p.2, mem_filter.2 ⟨g1, ?_⟩, rfl⟩, ?_, ?_⟩
     . simp only [a6K, Bool.and_eq_true, decide_eq_true_eq]; refine ⟨g2, h4, all_eq_true.2 fun x hx => ?_⟩; cases hs : a3K p.2 x with
       | false => rfl
       | true =>
         obtain ⟨s1, s2, s3⟩ := (b2Z (hR _ g1) (hR _ hx) h4).1 hs; have := hmx x (hvm.2 ⟨hx, by rw [s1, g2], s2, by rw [s3, g4]⟩); rw [this]; rfl
     . rw [<- h1, <- g4]
     . rw [<- g4] at h2; exact h2
theorem c1H (R : List Chg) (hB : U5 R) (i : Nat) (hi : i < R.length) : Ctr prog 99 [.d (B3 R), .d (.int .i64 i)] (.d (.bool (b0f R R[i]))) := by
 refine fv (fun _ => false) func99 (by kernel_rfl) rfl rfl rfl rfl rfl ?_; have hfw := hB.few; have hi' : (i : Int) < R.length := (by omega); have hfc := hB.fit R[i] (gmm _); obtain ⟨c, hc⟩ : ∃ x, R[i] = x := ⟨_, rfl⟩; rw [hc] at hfc ⊢; have ec : A3 c = .agg [A4 c.1, .int .i64 (opC c), .str (idC c), .str c.2.2.2.1, .str c.2.2.2.2.1, .str c.2.2.2.2.2] := rfl; have c1 := a0l (anC c) (Nat.lt_trans hfc.attr (by omega)); have hnz : a3S c (R.drop 0) = b0f R c := rfl; obtain ⟨B, hBq⟩ : ∃ B, b0f R c = B := ⟨_, rfl⟩; rw [hBq] at hnz ⊢; simp -implicitDefEqProofs [B3]; refine F3 R.length (fun k τ => τ 0 = .d (B3 R) /\ τ 1 = .d (.int .i64 i) /\ τ 5 = .d (.int .i64 k) /\ a3S c (R.drop k) = B) ⟨by simp [B3], by simp, by simp, hnz⟩ ?_; clear hnz hBq; rintro k τ hk ⟨h0, h1, h5, hn⟩; rcases Nat.lt_or_ge k R.length with hlt | hlt
 . have hlt' : (k : Int) < R.length := (by omega); have hfx := hB.fit R[k] (gmm _); rw [drop_eq_getElem_cons hlt] at hn; obtain ⟨x, hx⟩ : ∃ x, R[k] = x := ⟨_, rfl⟩; rw [hx] at hfx hn; have ex : A3 x = .agg [A4 x.1, .int .i64 (opC x), .str (idC x), .str x.2.2.2.1, .str x.2.2.2.2.1, .str x.2.2.2.2.2] := rfl; have c2 := a0l (anC x) (Nat.lt_trans hfx.attr (by omega)); have c3 := b2T x c hfx hfc; rw [ex, ec] at c3; have hn : (!(a3K c x && ltM c x) && a3S c (R.drop (k + 1))) = B := hn; by_cases q1 : idC x = idC c
   case neg =>
     have hn' : a3S c (R.drop (k + 1)) = B := by rw [<- hn]; simp [a3K, q1]
     simp -implicitDefEqProofs [h0, h1, h5, B3, hlt, hlt', hx, ex, hi, hi', hc, ec, A1, q1]; exact ⟨by omega, B8 hlt ⟨by simp [h0, B3], by simp [h1], by simp, hn'⟩⟩
   by_cases q2 : opC x = 4 \/ opC x = 5
   case neg =>
     have q3 : ¬ opC x = 4 := fun e => q2 (.inl e)
     have q4 : ¬ opC x = 5 := fun e => q2 (.inr e)
     have hn' : a3S c (R.drop (k + 1)) = B := by rw [<- hn]; simp [a3K, q1, q3, q4]
     simp -implicitDefEqProofs [h0, h1, h5, B3, hlt, hlt', hx, ex, hi, hi', hc, ec, A1, q1, q3, q4]; exact ⟨by omega, B8 hlt ⟨by simp [h0, B3], by simp [h1], by simp, hn'⟩⟩
   obtain ⟨la, hla⟩ : ∃ l, D2 (anC x) = l := ⟨_, rfl⟩; obtain ⟨lc, hlc⟩ : ∃ l, D2 (anC c) = l := ⟨_, rfl⟩; have hsv : a3K c x = (decide (la = lc) && decide (avC x = avC c)) := by unfold a3K; rw [hla, hlc]; rcases q2 with q | q <;> simp [q1, q]
   rw [hsv] at hn; rw [hla] at c2; rw [hlc] at c1; obtain ⟨lt, hlt2⟩ : ∃ b, ltM c x = b := ⟨_, rfl⟩; rw [hlt2] at c3 hn; by_cases q5 : la = lc
   case neg =>
     have hn' : a3S c (R.drop (k + 1)) = B := by rw [<- hn]; simp [q5]
     rcases q2 with q | q
     . simp -implicitDefEqProofs [h0, h1, h5, B3, hlt, hlt', hx, ex, hi, hi', hc, ec, A1, q1, q]; refine B6 c2 ?_; simp -implicitDefEqProofs [h0, h1, h5, B3, hlt, hlt', hx, ex, hi, hi', hc, ec, A1, q1, q]; refine B6 c1 ?_; simp -implicitDefEqProofs [h0, h1, h5, B3, hlt, hlt', hx, ex, hi, hi', hc, ec, A1, q1, q, q5]; exact ⟨by omega, B8 hlt ⟨by simp [h0, B3], by simp [h1], by simp, hn'⟩⟩
     . simp -implicitDefEqProofs [h0, h1, h5, B3, hlt, hlt', hx, ex, hi, hi', hc, ec, A1, q1, q]; refine B6 c2 ?_; simp -implicitDefEqProofs [h0, h1, h5, B3, hlt, hlt', hx, ex, hi, hi', hc, ec, A1, q1, q]; refine B6 c1 ?_; simp -implicitDefEqProofs [h0, h1, h5, B3, hlt, hlt', hx, ex, hi, hi', hc, ec, A1, q1, q, q5]; exact ⟨by omega, B8 hlt ⟨by simp [h0, B3], by simp [h1], by simp, hn'⟩⟩
   subst q5; by_cases q6 : avC x = avC c
   case neg =>
     have hn' : a3S c (R.drop (k + 1)) = B := by rw [<- hn]; simp [q6]
     rcases q2 with q | q
     . simp -implicitDefEqProofs [h0, h1, h5, B3, hlt, hlt', hx, ex, hi, hi', hc, ec, A1, q1, q, q6]; refine B6 c2 ?_; simp -implicitDefEqProofs [h0, h1, h5, B3, hlt, hlt', hx, ex, hi, hi', hc, ec, A1, q1, q, q6]; refine B6 c1 ?_; simp -implicitDefEqProofs [h0, h1, h5, B3, hlt, hlt', hx, ex, hi, hi', hc, ec, A1, q1, q, q6]; exact ⟨by omega, B8 hlt ⟨by simp [h0, B3], by simp [h1], by simp, hn'⟩⟩
     . simp -implicitDefEqProofs [h0, h1, h5, B3, hlt, hlt', hx, ex, hi, hi', hc, ec, A1, q1, q, q6]; refine B6 c2 ?_; simp -implicitDefEqProofs [h0, h1, h5, B3, hlt, hlt', hx, ex, hi, hi', hc, ec, A1, q1, q, q6]; refine B6 c1 ?_; simp -implicitDefEqProofs [h0, h1, h5, B3, hlt, hlt', hx, ex, hi, hi', hc, ec, A1, q1, q, q6]; exact ⟨by omega, B8 hlt ⟨by simp [h0, B3], by simp [h1], by simp, hn'⟩⟩
   cases lt with
   | false =>
     have hn' : a3S c (R.drop (k + 1)) = B := by rw [<- hn]; simp
     rcases q2 with q | q
     all_goals
       rw [q, q1, show x.2.2.2.2.2 = c.2.2.2.2.2 from q6] at c3; simp -implicitDefEqProofs [h0, h1, h5, B3, hlt, hlt', hx, ex, hi, hi', hc, ec, A1, q1, q, q6]; refine B6 c2 ?_; simp -implicitDefEqProofs [h0, h1, h5, B3, hlt, hlt', hx, ex, hi, hi', hc, ec, A1, q1, q, q6]; refine B6 c1 ?_; simp -implicitDefEqProofs [h0, h1, h5, B3, hlt, hlt', hx, ex, hi, hi', hc, ec, A1, q1, q, q6]; refine B6 c3 ?_; simp -implicitDefEqProofs [h0, h1, h5, B3, hlt, hlt', hx, ex, hi, hi', hc, ec, A1, q1, q, q6]; exact ⟨by omega, B8 hlt ⟨by simp [h0, B3], by simp [h1], by simp, hn'⟩⟩
   | true =>
     simp only [q6, decide_true, Bool.and_self, Bool.not_true, Bool.false_and] at hn; subst hn; rcases q2 with q | q
     all_goals
       rw [q, q1, show x.2.2.2.2.2 = c.2.2.2.2.2 from q6] at c3; simp -implicitDefEqProofs [h0, h1, h5, B3, hlt, hlt', hx, ex, hi, hi', hc, ec, A1, q1, q, q6]; refine B6 c2 ?_; simp -implicitDefEqProofs [h0, h1, h5, B3, hlt, hlt', hx, ex, hi, hi', hc, ec, A1, q1, q, q6]; refine B6 c1 ?_; simp -implicitDefEqProofs [h0, h1, h5, B3, hlt, hlt', hx, ex, hi, hi', hc, ec, A1, q1, q, q6]; refine B6 c3 ?_; simp -implicitDefEqProofs [h0, h1, h5, B3, hlt, hlt', hx, ex, hi, hi', hc, ec, A1, q1, q, q6]
 . have hlt' : ¬ (k : Int) < R.length := (by omega); have hlt'' : ¬ k < R.length := (by omega); rw [drop_eq_nil_of_le hlt] at hn; have hn' : true = B := hn; subst hn'; simp -implicitDefEqProofs [h0, h1, h5, B3, hlt', hlt'']
theorem c4F {R : List Chg} (hB : U5 R) (id : Str) : a4m (a2c R R id) := by
 have hfw := hB.few; have hl : (a2c R R id).length <= R.length := by unfold a2c; rw [length_map]; exact length_filter_le _ _
 have hm : ∀ a ∈ a2c R R id, List.length a.1 < 900000 /\ a.2.length = 1 := fun a ha => by
   obtain ⟨c, hc, rfl⟩ := mem_map.1 ha; exact ⟨(hB.fit c (mem_filter.1 hc).1).attr, rfl⟩
 refine ⟨⟨by omega, fun a ha => ⟨by have := (hm a ha).1; omega, by have := (hm a ha).2; omega⟩⟩, ?_⟩; have : ∀ l : List Att, (∀ a ∈ l, a.2.length = 1) -> H8 l = l.length := by
   intro l
   induction l with
   | nil => intro _; rfl
   | cons a l ih =>
     intro h; have := ih fun b hb => h b (by simp [hb])
     simp only [H8, map_cons, sum_cons, length_cons] at this ⊢; rw [this, h a (by simp)]; omega
 rw [this _ fun a ha => (hm a ha).2]; omega
theorem b9T (R l : List Chg) (id : Str) (c : Chg) : a2c R (l ++ [c]) id = a2c R l id ++ (if a6K R id c = true then [(anC c, [avC c])] else []) := by
 unfold a2c; rw [a1R, map_append]; split <;> rfl
theorem b2f (R : List Chg) (hB : U5 R) (id : Str) : Ctr prog 49 [.d (rsD R), .d (.str id)] (.tup [.d (a0p (H9 R id).1.1 (H9 R id).1.2), .d (.bool (H9 R id).2)]) := by
 have hfw := hB.few; have c1 := b5E R (by omega) id; have c2 := a3J R; have c3 := fun i hi => c1H R hB i hi
 have c4 := fun h => a7I R hB id h
 have hao := b9o hB.ok id; have c5 := a6T (a2c R R id) (c4F hB id); rw [hao] at c5; have hlm := c1w (R := R) (id := id); have hsn := fun l c => b9T R l id c
 obtain ⟨rd, hrd⟩ : ∃ rd, rsD R = rd := ⟨_, rfl⟩; have hna : rd.isAgg = false := by rw [<- hrd]; rfl
 rw [hrd] at c1 c2 ⊢; simp only [hrd] at c4; simp only [B3] at c2; by_cases hin : id ∈ A9 R
 case neg =>
   have he : H9 R id = (([], []), false) := (by simp [H9, hin]); have hl : a1G R id = false := by rw [Bool.eq_false_iff, ne_eq, <- hlm]; exact hin
   rw [hl] at c1; rw [he]; refine G6 (rv := .cell 4 48) (rs := [.tmp 5]) (r := .d (a0p [] [])) (ys := [.d (.bool false)]) (fun i => false) (by kernel_rfl) func49 (by kernel_rfl) rfl rfl (by simp) (nbl rfl) (by kernel_rfl) rfl rfl ?_; simp -implicitDefEqProofs []; refine A0 c1 ?_; simp -implicitDefEqProofs [a0p, H6]
 have he : H9 R id = ((C7 R id, a0d R id), true) := (by simp [H9, hin]); have hl : a1G R id = true := hlm.1 hin; have c4 := c4 hin; rw [hl] at c1; rw [he]; refine G6 (rv := .cell 4 48) (rs := [.tmp 5]) (r := .d (a0p (C7 R id) (a0d R id))) (ys := [.d (.bool true)]) (fun i => false) (by kernel_rfl) func49 (by kernel_rfl) rfl rfl (by simp) (nbl rfl) (by kernel_rfl) rfl rfl ?_; generalize C7 R id = sh at *; generalize a0d R id = at_ at *; simp -implicitDefEqProofs []; refine A0 c1 ?_; simp -implicitDefEqProofs []; refine A0 c2 ?_; simp -implicitDefEqProofs []; refine F3 R.length (fun k τ => τ 0 = .d rd /\ τ 1 = .d (.str id) /\ τ 4 = .box (.agg [.str [], .sl []]) /\ τ 5 = .d (.bool false) /\ τ 6 = .own false 72 ((a2c R (R.take k) id).map att) /\ τ 7 = .d (B3 R) /\ τ 8 = .d (.int .i64 k)) ⟨by simp, by simp, by simp, by simp, by simp [a2c], by simp [B3], by simp⟩ ?_; rintro k τ hk ⟨h0, h1, h4, h5, h6, h7, h8⟩; rcases Nat.lt_or_ge k R.length with hlt | hlt
 . have hlt' : (k : Int) < R.length := (by omega); have c3k := c3 k hlt; have hs := hsn (R.take k) R[k]; rw [<- F6 hlt] at hs; have hol : (a2c R (R.take k) id).length <= k := by
     have := length_filter_le (fun c => a6K R id c) (R.take k); simp only [length_take] at this; unfold a2c; rw [length_map]; omega
   obtain ⟨x, hx⟩ : ∃ x, R[k] = x := ⟨_, rfl⟩; rw [hx] at c3k hs; simp only [B3] at c3k; have ex : A3 x = .agg [A4 x.1, .int .i64 (opC x), .str (idC x), .str x.2.2.2.1, .str x.2.2.2.2.1, .str x.2.2.2.2.2] := rfl; generalize a2c R (R.take k) id = T at *; by_cases q1 : idC x = id
   case neg =>
     rw [if_neg (by simp [a6K, q1])] at hs; simp only [append_nil] at hs; simp -implicitDefEqProofs [h0, h1, h4, h5, h6, h7, h8, B3, hlt, hlt', hx, ex, A1, q1]; exact ⟨by omega, B8 hlt ⟨by simp [h0], by simp [h1], by simp [h4], by simp [h5], by simp [h6, hs], by simp [h7, B3], by simp⟩⟩
   by_cases q2 : opC x = 4
   case neg =>
     rw [if_neg (by simp [a6K, q2])] at hs; simp only [append_nil] at hs; simp -implicitDefEqProofs [h0, h1, h4, h5, h6, h7, h8, B3, hlt, hlt', hx, ex, A1, q1, q2]; exact ⟨by omega, B8 hlt ⟨by simp [h0], by simp [h1], by simp [h4], by simp [h5], by simp [h6, hs], by simp [h7, B3], by simp⟩⟩
   obtain ⟨b, hb⟩ : ∃ b, b0f R x = b := ⟨_, rfl⟩; rw [hb] at c3k; cases b with
   | false =>
     rw [if_neg (by simp [a6K, hb])] at hs; simp only [append_nil] at hs; simp -implicitDefEqProofs [h0, h1, h4, h5, h6, h7, h8, B3, hlt, hlt', hx, ex, A1, q1, q2]; refine A0 c3k ?_; simp -implicitDefEqProofs [h0, h1, h4, h5, h6, h7, h8, B3, hlt, hlt', hx, ex, A1, q1, q2]; exact ⟨by omega, B8 hlt ⟨by simp [h0], by simp [h1], by simp [h4], by simp [h5], by simp [h6, hs], by simp [h7, B3], by simp⟩⟩
   | true =>
     rw [if_pos (by simp [a6K, hb, q1, q2])] at hs; simp -implicitDefEqProofs [h0, h1, h4, h5, h6, h7, h8, B3, hlt, hlt', hx, ex, A1, q1, q2]; refine A0 c3k ?_; simp -implicitDefEqProofs [h0, h1, h4, h5, h6, h7, h8, B3, hlt, hlt', hx, ex, A1, q1, q2]; refine ⟨by omega, by omega, by omega, B8 hlt ⟨by simp [h0], by simp [h1], by simp [h4], by simp [h5], by simp [hs, att, B0], by simp [h7, B3], by simp⟩⟩
 . have hlt' : ¬ (k : Int) < R.length := (by omega); have hlt'' : ¬ k < R.length := (by omega); rw [ttl hlt] at h6; simp only [H6] at c5; generalize a2c R R id = T at *; simp -implicitDefEqProofs [h0, h1, h4, h5, h6, h7, h8, B3, hlt', hlt'']; refine A0 c4 ?_; simp -implicitDefEqProofs [h0, h1, h4, h5, h6, h7, h8]; refine A0 c5 ?_; simp -implicitDefEqProofs [h0, h1, h4, h5, h6, h7, h8, a0p, H6]
theorem c2L {key : Str -> Str} {V L : List Str} {k j : Nat} (hS : SS V) (hk : k < V.length) (hL : KS key L) (hp : L.Perm (V.take k)) (hj : j <= L.length) (h1 : ∀ x ∈ L.drop j, 0 < R7 (key x) (key V[k])) (h2 : ∀ h : 0 < j, R7 (key (L[j - 1]'(by omega))) (key V[k]) <= 0) :
   KS key (L.take j ++ V[k] :: L.drop j) /\ (L.take j ++ V[k] :: L.drop j).Perm (V.take (k + 1)) := by
 refine ⟨c6q hj hL h1 h2 fun x hx => ?_, ?_⟩
 . obtain ⟨i, hi, rfl⟩ := mem_iff_getElem.1 (hp.mem_iff.1 hx); rw [length_take] at hi; rw [getElem_take]; exact (pairwise_iff_getElem.1 hS) i k (by omega) hk (by omega)
 . rw [F6 hk]; refine perm_middle.trans ?_; rw [take_append_drop]; exact ((hp.cons _).trans (perm_append_singleton _ _).symm)
def ReI (R : List Chg) (V : List Str) (k : Nat) (τ : St) : Prop := ∃ L, KS (C7 R) L /\ L.Perm (V.take k) /\ τ 0 = .d (rsD R) /\ τ 3 = .own false 48 (L.map fun id => Y2 (W8 R id)) /\ τ 4 = .d (B0 V) /\ τ 5 = .d (.int .i64 k)
def ReJ (R : List Chg) (V L : List Str) (e : Str) (k : Nat) (j : Nat) (τ : St) : Prop := j <= L.length /\ (∀ x ∈ L.drop j, 0 < R7 (C7 R x) (C7 R e)) /\ τ 0 = .d (rsD R) /\ τ 3 = .own false 48 (L.map fun id => Y2 (W8 R id)) /\ τ 4 = .d (B0 V) /\ τ 5 = .d (.int .i64 k) /\ τ 6 = .box (Y2 (W8 R e)) /\ τ 8 = .d (.int .i64 j)
theorem c2R (R : List Chg) (hB : U5 R) : Ctr prog 48 [.d (rsD R)] (.d (T6 (V9 R))) := by
 have hfw := hB.few; have hll := (T9 hB).lt; have hG := T9 hB; have c1 := a2h R (by omega); have c2 := fun i => b2f R hB i
 have hlen := Q6 R; have hSS := a2g R; have hend : ∀ L, KS (C7 R) L -> L.Perm (A9 R) -> T6 (V9 R) = .sl (L.map fun id => Y2 (W8 R id)) := fun L h1 h2 => by rw [c4t h1 h2]; simp [T6, V9, Function.comp_def]
 have hee : ∀ y ∈ A9 R, a0p (H9 R y).1.1 (H9 R y).1.2 = Y2 (W8 R y) /\ Y2 (W8 R y) = .agg [.str (C7 R y), H6 (a0d R y)] /\ List.length (C7 R y) < 900000 := fun y hy => by
   refine ⟨?_, rfl, a4W (hG.name y hy)⟩; unfold H9; rw [if_pos hy]; rfl
 have c3 := fun a b ha hb => b5G a b ha hb
 obtain ⟨E, hE⟩ : ∃ E, T6 (V9 R) = E := ⟨_, rfl⟩; rw [hE] at hend ⊢; obtain ⟨V, hV⟩ : ∃ V, A9 R = V := ⟨_, rfl⟩; rw [hV] at c1 hlen hSS hend hee; simp only [B0] at c1; have hrd : rsD R = .ref (.agg [B3 R, .bool true]) := rfl; have hna : (rsD R).isAgg = false := rfl; refine fv (fun _ => false) func48 (by kernel_rfl) rfl rfl rfl rfl rfl ?_; rw [hrd] at c1 ⊢; simp only [hrd] at c2; simp -implicitDefEqProofs []; refine A0 c1 ?_; simp -implicitDefEqProofs []; refine F3 V.length (ReI R V) ⟨[], Pairwise.nil, by simp, by simp [hrd], by simp, by simp [B0], by simp⟩ ?_; rintro k τ hk ⟨L, hKS, hp, h0, h3, h4, h5⟩; rw [hrd] at h0; have hLl : L.length = k := by rw [hp.length_eq, length_take]; omega
 have hws : ∀ u ∈ L.map (fun id => Y2 (W8 R id)), C0 u = 2 := fun u hu => by
   obtain ⟨s, _, rfl⟩ := mem_map.1 hu; rfl
 rcases Nat.lt_or_ge k V.length with hlt | hlt
 . have hlt' : (k : Int) < V.length := (by omega); have hst := fun j => c2L (key := C7 R) (j := j) hSS hlt hKS hp
   obtain ⟨e, he⟩ : ∃ x, V[k] = x := ⟨_, rfl⟩; have heV : e ∈ V := by rw [<- he]; exact gmm _
   simp only [he] at hst; have c2e := c2 e; obtain ⟨ee1, ee2, ee3⟩ := hee e heV; rw [ee1, ee2] at c2e; generalize (H9 R e).2 = eb at *; simp -implicitDefEqProofs [h0, h3, h4, h5, B0, hlt, hlt', he]; refine A0 c2e ?_; simp -implicitDefEqProofs [h0, h3, h4, h5]; refine ⟨rfl, rfl, ?_⟩; refine a2s (ReJ R V L e k) L.length ⟨Nat.le_refl _, by simp, by simp [hrd, h0], by simp [h3], by simp [h4, B0], by simp [h5], by simp [ee2], by simp⟩ ?_; rintro J τ2 ⟨hj, hd, g0, g3, g4, g5, g6, g8⟩; rw [hrd] at g0; rw [ee2] at g6; have hfin : (∀ h : 0 < J, R7 (C7 R (L[J - 1]'(by omega))) (C7 R e) <= 0) -> _ := hst J hj hd; have hall : ∀ y ∈ L, y ∈ V := fun y hy => mem_of_mem_take (hp.mem_iff.1 hy)
   rcases Nat.eq_zero_or_pos J with rfl | hJ
   . obtain ⟨n1, n2⟩ := hfin (fun h => absurd h (by omega)); simp -implicitDefEqProofs [g0, g3, g4, g5, g6, g8, B0]; exact ⟨fun _ _ => rfl, rfl, rfl, fun _ _ => rfl, fun u hu => hws u (mem_of_mem_take hu), by omega, by omega, by omega, B8 hlt ⟨_, n1, n2, by simp [g0, hrd], by simp [ee2, ttl], by simp [g4, B0], by simp⟩⟩
   . obtain ⟨j, hjJ⟩ : ∃ j, J = j + 1 := ⟨J - 1, by omega⟩; have hjl : j < L.length := (by omega); have hjl' : (j : Int) < L.length := (by omega); have hj1 : (J : Int) - 1 = j := (by omega); have hj0 : (0 : Int) < (J : Int) := (by omega); obtain ⟨x, hx⟩ : ∃ x, L[j] = x := ⟨_, rfl⟩; have hxL : x ∈ L := by rw [<- hx]; exact gmm _
     obtain ⟨ex1, ex2, ex3⟩ := hee x (hall x hxL); have c98 := c3 (C7 R x) (C7 R e) ex3 ee3; rcases Int.lt_or_le 0 (R7 (C7 R x) (C7 R e)) with q | q
     . have hd2 : ∀ y ∈ L.drop j, 0 < R7 (C7 R y) (C7 R e) := fun y hy => by
         rw [drop_eq_getElem_cons hjl, hx] at hy; rcases mem_cons.1 hy with rfl | hy
         . exact q
         . exact hd y (by rw [hjJ]; exact hy)
       simp -implicitDefEqProofs [g0, g3, g4, g5, g6, g8, B0, hj1, hj0, hJ, hjl, hjl', hx, ex2]; refine ⟨by omega, rfl, B6 c98 ?_⟩; simp -implicitDefEqProofs [g0, g3, g4, g5, g6, g8, B0, hj1, hj0, hJ, hjl, hjl', hx, ex2, ee2, q]; exact ⟨by omega, j, by omega, by omega, hd2, by simp [g0, hrd], by simp [g3], by simp [g4, B0], by simp [g5], by simp [g6, ee2], by simp⟩
     . have q' : ¬ 0 < R7 (C7 R x) (C7 R e) := (by omega); obtain ⟨n1, n2⟩ := hfin (fun h => by
         have : J - 1 = j := (by omega); simp only [this, hx]; exact q)
       simp -implicitDefEqProofs [g0, g3, g4, g5, g6, g8, B0, hj1, hj0, hJ, hjl, hjl', hx, ex2]; refine ⟨by omega, rfl, B6 c98 ?_⟩; simp -implicitDefEqProofs [g0, g3, g4, g5, g6, g8, B0, hj1, hj0, hJ, hjl, hjl', hx, ex2, ee2, q']; exact ⟨hj, fun _ _ => rfl, fun u hu => hws u (mem_of_mem_take hu), by omega, by omega, rfl, rfl, by omega, by omega, hj, fun _ _ => rfl, fun u hu => hws u (mem_of_mem_drop (mem_of_mem_take hu)), by omega, by omega, by omega, B8 hlt ⟨_, n1, n2, by simp [g0, hrd], by simp [ee2, map_take, map_drop, ttl], by simp [g4, B0], by simp⟩⟩
 . have hlt' : ¬ (k : Int) < V.length := (by omega); have hlt'' : ¬ k < V.length := (by omega); rw [ttl hlt] at hp; rw [hend L hKS hp]; simp -implicitDefEqProofs [h0, h3, h4, h5, B0, hlt', hlt'']
def rH (s : Nat) (u : Value) (R : List Chg) : List AV := [.hb (va s) 74 (.agg [.raw u, .bool true]), .hs u 35 (R.map A3)]
theorem c4Q (x c : Chg) : O5 [A4 x.1, .int .i64 (opC x), .str (idC x), .str x.2.2.2.1, .str x.2.2.2.2.1, .str x.2.2.2.2.2] [A4 c.1, .int .i64 (opC c), .str (idC c), .str c.2.2.2.1, .str c.2.2.2.2.1, .str c.2.2.2.2.2] = decide (x = c) := by
 obtain ⟨⟨x1, x2, x3⟩, xo, xi, xn, xa, xv⟩ := x; obtain ⟨⟨c1, c2, c3⟩, co, ci, cn, ca, cv⟩ := c; rw [Bool.eq_iff_iff]; simp [O5, A4, and_assoc]
theorem b6I (x c : Chg) : P7 prog (Program.fieldsOf prog 35).toList 0 [A4 x.1, .int .i64 (opC x), .str (idC x), .str x.2.2.2.1, .str x.2.2.2.2.1, .str x.2.2.2.2.2] [A4 c.1, .int .i64 (opC c), .str (idC c), .str c.2.2.2.1, .str c.2.2.2.2.1, .str c.2.2.2.2.2] = true := Tryz.lf_35 _ _ _ _ _ _ _ _ _ _ _ _ _ _ _ _
theorem d0n : a0n prog true 74 = some [.raw (.slice none 0 0), .bool false] := by kernel_rfl
theorem c5c : G1 prog 12 [] [] (fun x hs' => ∃ s u, x = .d (.raw (va s)) /\ hs' = rH s u []) := by
 have h : G1 prog 12 [] [] (fun x hs' => ∃ s, x = .d (.raw (va s)) /\ hs' = [.hb (va s) 74 (.agg [.raw (.slice none 0 0), .bool true])]) := by
   refine S3 (fun i => i == 1000001 || i == 1000002) (by kernel_rfl) func12 (by kernel_rfl) rfl rfl (nbl rfl) (by kernel_rfl) rfl ?_; simp -implicitDefEqProofs [A5, d0n]; refine ⟨1000000, by simp [A5], fun s => ?_⟩; simp -implicitDefEqProofs [A5]; exact ⟨.d (.raw (va s)), [1000000], by simp, by simp [A5, isH], by simp [a0A, A5], s, rfl, by simp [A5]⟩
 exact h.addNil (e := 35) ⟨8, by kernel_rfl⟩ (by rintro r hs' ⟨s, rfl, rfl⟩; exact ⟨s, _, rfl, rfl⟩)
theorem c1E (s : Nat) (u : Value) (R : List Chg) (hB : U5 R) (c : Chg) (hc : M8 c) : G1 prog 14 [.d (.raw (va s)), .d (A3 c)] (rH s u R) (fun x hs' => x = .d (.int .i64 (I0 R c)) /\ ∃ u', hs' = rH s u' (K1 R c)) := by
 refine G1.head (u := u) (e := 35) (l := R.map A3) (by simp [rH]) (enters_of func14 (by kernel_rfl) rfl) (fun A cp hu => ?_); subst hu; refine S3 (fun i => false) (by kernel_rfl) func14 (by kernel_rfl) rfl rfl (nbl rfl) (by kernel_rfl) rfl ?_; have ec : A3 c = .agg [A4 c.1, .int .i64 (opC c), .str (idC c), .str c.2.2.2.1, .str c.2.2.2.2.1, .str c.2.2.2.2.2] := rfl; have c1 := b4x c hc; have hfw := hB.few; rw [ec] at c1 ⊢; simp -implicitDefEqProofs [A5, rH, A1]; refine L4 (e := 74) (ds := [.raw (.slice A R.length cp), .bool true]) 1000000 ((by simp [A5])) (by omega) (by simp) (by kernel_rfl) ?_; simp -implicitDefEqProofs [A5, A1]; refine A0 c1 ?_; obtain ⟨ck, hck⟩ : ∃ n, I6 c = n := ⟨_, rfl⟩; rw [hck]; by_cases hc0 : ck = 0
 case neg =>
   have e1 : I0 R c = ck := by unfold I0; rw [hck, if_pos hc0]
   have e2 : K1 R c = R := by unfold K1; rw [hck, if_neg (fun h => hc0 h.1)]
   rw [e1, e2]; simp -implicitDefEqProofs [A5, hc0]; exact ⟨.d (.int .i64 ck), [1000000, 1000001], by simp, by simp [A5, isH], by simp [a0A, A5], rfl, .slice A R.length cp, by simp [A5]⟩
 subst hc0; simp -implicitDefEqProofs [A5]; refine F3 R.length (fun k τ => τ 0 = .d (.raw (va s)) /\ τ 3 = .box (A3 c) /\ τ 6 = .d (.int .i64 k) /\ τ 1000000 = .hb (va s) 74 (.agg [.raw (.slice A R.length cp), .bool true]) /\ τ 1000001 = .hs (.slice A R.length cp) 35 (R.map A3) /\ c ∉ R.take k) ⟨by simp [A5], by simp [ec], by simp, by simp [A5], by simp [A5], by simp⟩ ?_; rintro k τ hk ⟨h0, h3, h6, hs1, hs2, hn⟩; rw [ec] at h3; simp -implicitDefEqProofs [h0, h3, h6]; refine L4 (e := 74) (ds := [.raw (.slice A R.length cp), .bool true]) 1000000 ((by simp [hs1])) (by omega) (by simp) (by kernel_rfl) ?_; rcases Nat.lt_or_ge k R.length with hlt | hlt
 . have hlt' : (k : Int) < R.length := (by omega); obtain ⟨x, hx⟩ : ∃ x, R[k] = x := ⟨_, rfl⟩; have ex : A3 x = .agg [A4 x.1, .int .i64 (opC x), .str (idC x), .str x.2.2.2.1, .str x.2.2.2.2.1, .str x.2.2.2.2.2] := rfl; simp -implicitDefEqProofs [h0, h3, h6, hs1, hs2, hlt, hlt']; refine L4 (e := 74) (ds := [.raw (.slice A R.length cp), .bool true]) 1000000 ((by simp [hs1])) (by omega) (by simp) (by kernel_rfl) ?_; simp -implicitDefEqProofs [h0, h3, h6, hs1, hs2, hlt, hlt']; refine ⟨1000001, 35, R.map A3, by omega, by simp [hs2], rfl, by simpa using hlt, ?_⟩; have hle := c4Q x c; by_cases hxc : x = c
   . rw [decide_eq_true hxc] at hle; have hmem : c ∈ R := by rw [<- hxc, <- hx]; exact gmm _
     have e1 : I0 R c = 0 := by unfold I0; rw [hck, if_neg (by simp), if_pos hmem]
     have e2 : K1 R c = R := by unfold K1; rw [if_neg (fun h => h.2.1 hmem)]
     rw [e1, e2]; simp -implicitDefEqProofs [h0, h3, h6, hs1, hs2, hlt, hlt', hx, ex, A1, hle, b6I]; exact ⟨.d (.int .i64 0), [1000000, 1000001], by simp, by simp [hs1, hs2, isH], by simp [a0A], rfl, .slice A R.length cp, by simp [hs1, hs2]⟩
   . rw [decide_eq_false hxc] at hle; have hnn : c ∉ R.take (k + 1) := by rw [F6 hlt, hx]; simp [hn]; exact fun h => hxc h.symm
     simp -implicitDefEqProofs [h0, h3, h6, hs1, hs2, hlt, hlt', hx, ex, A1, hle, b6I]; exact ⟨by omega, B8 hlt ⟨by simp [h0], by simp [h3, ec], by simp, by simp [hs1], by simp [hs2], hnn⟩⟩
 . have hlt' : ¬ (k : Int) < R.length := (by omega); have hlt'' : ¬ k < R.length := (by omega); simp -implicitDefEqProofs [h0, h3, h6, hs1, hs2, hlt']; rw [ttl hlt] at hn; refine L4 (e := 74) (ds := [.raw (.slice A R.length cp), .bool true]) 1000000 ((by simp [hs1])) (by omega) (by simp) (by kernel_rfl) ?_; by_cases h4 : 4096 <= R.length
   . have h4' : (4096 : Int) <= R.length := (by omega); have e1 : I0 R c = 3 := by unfold I0; rw [hck, if_neg (by simp), if_neg hn, if_pos h4]
     have e2 : K1 R c = R := by unfold K1; rw [if_neg (fun h => by omega)]
     rw [e1, e2]; simp -implicitDefEqProofs [h0, h3, h6, hs1, hs2, h4']; exact ⟨.d (.int .i64 3), [1000000, 1000001], by simp, by simp [hs1, hs2, isH], by simp [a0A], rfl, .slice A R.length cp, by simp [hs1, hs2]⟩
   . have h4' : ¬ (4096 : Int) <= R.length := (by omega); have e1 : I0 R c = 0 := by unfold I0; rw [hck, if_neg (by simp), if_neg hn, if_neg h4]
     have e2 : K1 R c = R ++ [c] := by unfold K1; rw [if_pos ⟨hck, hn, by omega⟩]
     rw [e1, e2]; simp -implicitDefEqProofs [h0, h3, h6, hs1, hs2, h4']; refine L4 (e := 74) (ds := [.raw (.slice A R.length cp), .bool true]) 1000000 ((by simp [hs1])) (by omega) (by simp) (by kernel_rfl) ?_; simp -implicitDefEqProofs [h0, h3, h6, hs1, hs2, h4', A1]; refine c3G (l := R.map A3) 1000001 (by simp [hs2]) (by simp [A1]) (by simp; omega) (by simp; omega) (fun A2 c2 => ?_); simp -implicitDefEqProofs [h0, h3, h6, hs1, hs2]; refine L4 (e := 74) (ds := [.raw (.slice A R.length cp), .bool true]) 1000000 ((by simp [hs1])) (by omega) (by simp) (by kernel_rfl) ?_; simp -implicitDefEqProofs [h0, h3, h6, hs1, hs2]; exact ⟨.d (.int .i64 0), [1000000, 1000001], by simp, by simp [hs1, hs2, isH], by simp [a0A], rfl, .slice A2 (R.length + 1) c2, by simp [hs1, hs2, ec]⟩
theorem b9S (R1 : List Chg) (hB : U5 R1) (d1 : D) (h1 : StD R1 d1) (l : List Str) (hl : l.length < 1000000) :
   Ctr prog 19 [.d d1, .d (rsD R1), .d (B0 l)] (.d (.bool true)) := by
 have hG1 := T9 hB; have hl1 := hG1.lt; have hfw := hB.few; have hll := Q6 R1; have a1 := Z9 (a4f R1 d1 h1 hG1.lt); have a2 := a2h R1 (by omega); have b1 := Z9 (a4w R1 d1 h1 hG1); have b2 := c1r R1 hB; have o1 := Z9 (b1l R1 d1 h1 hG1); have o2 := b9z R1 hB; have e1 := Z9 (b0P R1 d1 h1 hG1); have e2 := c2R R1 hB; have n1 : ∀ id, _ := fun id => b5O R1 d1 id h1 hG1
 have n2 : ∀ id, _ := fun id => b2f R1 hB id
 have f1 : ∀ n, _ := fun n => b1L R1 d1 n h1 hG1
 have f2 : ∀ n, _ := fun n => b4W R1 hB n
 have hcl : (Z1 R1).length < 1000000 := by
   have : (Z1 R1).length <= (A9 R1).length := length_filter_le _ _; omega
 have hol : (K6 R1).length < 1000000 := by
   have h3 := a7p R1 (I2 R1); have h4 := a4r (R := R1); unfold K6 I3; rw [length_mergeSort]; omega
 have hel : (V9 R1).length < 1000000 := by
   have h4 := a4r (R := R1); unfold V9; rw [length_map]; omega
 have hnS : ∀ id, a9Q (H9 R1 id).1 := c2S hG1; have heB : ∀ x ∈ V9 R1, a9Q x := fun x hx => by
   obtain ⟨id, _, rfl⟩ := mem_map.1 hx; exact b4z hG1 id
 have c1 := a2I (A9 R1) (A9 R1) (by omega) (by omega); have c2 := a2I (Z1 R1) (Z1 R1) hcl hcl; have c3 := a2I (K6 R1) (K6 R1) hol hol; have c4 := b2s (V9 R1) (V9 R1) heB heB hel hel; have c5 : ∀ id, _ := fun id => b2s [(H9 R1 id).1] [(H9 R1 id).1] (by simpa using hnS id) (by simpa using hnS id) (by simp) (by simp)
 simp only [decide_true, B0, T6] at c1 c2 c3 c4 c5; obtain ⟨x1, hx1, hy1⟩ : ∃ x, d1 = x /\ StD R1 x := ⟨_, rfl, h1⟩; obtain ⟨y1, rfl⟩ : ∃ y, d1 = .ref y := by
   obtain ⟨u1, R1', bs1, c1, u2, M, bs2, c2, rfl, _⟩ := h1.open; exact ⟨_, rfl⟩
 obtain ⟨y2, hrd⟩ : ∃ y, rsD R1 = .ref y := ⟨_, rfl⟩; clear h1 hx1 hy1 hnS heB; simp only [hrd, B0, T6] at a2 b2 o2 e2 n2 f2 ⊢; generalize A9 R1 = V1 at *; generalize Z1 R1 = V2 at *; generalize K6 R1 = V3 at *; generalize V9 R1 = V4 at *; refine fv (fun i => false) func19 (by kernel_rfl) rfl rfl rfl rfl rfl ?_; simp -implicitDefEqProofs; refine A0 a1 ?_; simp -implicitDefEqProofs; refine A0 a2 ?_; simp -implicitDefEqProofs; refine A0 c1 ?_; simp -implicitDefEqProofs; refine A0 b1 ?_; simp -implicitDefEqProofs; refine A0 b2 ?_; simp -implicitDefEqProofs; refine A0 c2 ?_; simp -implicitDefEqProofs; refine A0 o1 ?_; simp -implicitDefEqProofs; refine A0 o2 ?_; simp -implicitDefEqProofs; refine A0 c3 ?_; simp -implicitDefEqProofs; refine A0 e1 ?_; simp -implicitDefEqProofs; refine A0 e2 ?_; simp -implicitDefEqProofs; refine A0 c4 ?_; simp -implicitDefEqProofs; refine F3 l.length (fun k τ => τ 0 = .d (.ref y1) /\ τ 1 = .d (.ref y2) /\ τ 2 = .d (B0 l) /\ τ 7 = .d (.int .i64 k)) ⟨by simp, by simp, by simp [B0], by simp⟩ ?_; rintro k τ hk ⟨h0, h1, h2, h7⟩; rcases Nat.lt_or_ge k l.length with hlt | hlt
 . have hlt' : (k : Int) < l.length := (by omega); obtain ⟨id, hx⟩ : ∃ x, l[k] = x := ⟨_, rfl⟩; have n1 := n1 id; have n2 := n2 id; have c5 := c5 id; generalize H9 R1 id = p at *; obtain ⟨⟨s, a⟩, ok⟩ := p; have f1 := f1 s; have f2 := f2 s; generalize O8 R1 s = q at *; obtain ⟨q1, q2⟩ := q; have hE : Y2 (s, a) = .agg [.str s, .sl (a.map att)] := rfl; have hE2 : a0p s a = .agg [.str s, .sl (a.map att)] := rfl; simp only [map_cons, map_nil, hE, hE2] at n1 n2 c5; simp -implicitDefEqProofs [h0, h1, h2, h7, B0, hlt, hlt', hx]; refine A0 n1 ?_; simp -implicitDefEqProofs [h0, h1, h2, h7, B0, hlt, hlt', hx]; refine A0 n2 ?_; simp -implicitDefEqProofs [h0, h1, h2, h7, B0, hlt, hlt', hx]; refine A0 c5 ?_; simp -implicitDefEqProofs [h0, h1, h2, h7, B0, hlt, hlt', hx]; refine A0 f1 ?_; simp -implicitDefEqProofs [h0, h1, h2, h7, B0, hlt, hlt', hx]; refine A0 f2 ?_; simp -implicitDefEqProofs [h0, h1, h2, h7, B0, hlt, hlt', hx]; exact ⟨by omega, B8 hlt ⟨by simp [h0], by simp [h1], by simp [h2, B0], by simp⟩⟩
 . have hlt' : ¬ (k : Int) < l.length := (by omega); have hlt'' : ¬ k < l.length := (by omega); simp -implicitDefEqProofs [h0, h1, h2, h7, B0, hlt', hlt'']
theorem b9C (s : Nat) (u : Value) (R : List Chg) : (rH s u R).all isH = true := rfl
def zH (s : Nat) (R : List Chg) : List AV := [.hb (va s) 74 (.agg [B3 R, .bool true])]
def RfF (σ : St) (B s : Nat) (R : List Chg) : Prop := U5 R /\ ∃ u, Fam σ B (rH s u R)
theorem RfF.put {σ : St} {B s d : Nat} {R : List Chg} {x : AV} (h : RfF σ B s R) (hd : d < B) : RfF (Vw.put σ d x) B s R := ⟨h.1, h.2.elim fun u hF => ⟨u, hF.put hd⟩⟩
theorem Y1.rf {σ τ : St} {B B2 s : Nat} {R : List Chg} (h : Y1 σ τ B) (hF : RfF σ B2 s R) (hB : 1000000 <= B2) (hBB : B2 + 1000000 <= B \/ B + 1000000 <= B2) : RfF τ B2 s R := ⟨hF.1, hF.2.elim fun u hF => ⟨u, h B2 _ hF hB hBB⟩⟩
theorem b6G {σ : St} {d : Nat} {K : St -> Prop} (B : Nat) (hB : 1000000 <= B) (hd : d < 1000000)
   (hk : ∀ s τ, RfF τ B s [] -> τ d = .d (.raw (va s)) -> Oth σ τ d -> Y1 σ τ B -> K τ) : a0S prog 12 [] σ d K := by
 refine ⟨[], B, _, by simp, by simp, c5c, fun x hs' hp => ?_⟩; obtain ⟨s, u, rfl, rfl⟩ := hp; obtain ⟨f1, f2, f3, f4⟩ := a3y (σ := σ) (d := d) (r := .d (.raw (va s))) hB hd (b9C s u []) (by simp [rH]) rfl rfl; exact hk s _ ⟨a6z, u, f1⟩ f2 f3 f4
theorem b6F {σ : St} {d : Nat} {K : St -> Prop} (B s : Nat) (hB : 1000000 <= B) (hd : d < 1000000) {R : List Chg} {c : Chg} (hF : RfF σ B s R) (hc : M8 c)
   (hk : ∀ τ, RfF τ B s (K1 R c) -> τ d = .d (.int .i64 (I0 R c)) -> Oth σ τ d -> Y1 σ τ B -> K τ) : a0S prog 14 [.d (.raw (va s)), .d (A3 c)] σ d K := by
 obtain ⟨hR, u, hFam⟩ := hF; refine b4H B hB hd hFam (c1E s u R hR c hc) (fun x hs' hp => ?_) (fun x hs' τ ks ls hp hF' h1 h2 h3 h4 => ?_)
 . obtain ⟨_, u', rfl⟩ := hp; exact ⟨rfl, by simp [rH]⟩
 . obtain ⟨rfl, u', rfl⟩ := hp; refine hk τ ⟨a3R hR hc, u', hF'⟩ ?_ ⟨ks, h1, fun i hi hne => ?_⟩ h4
   . rw [h3 d hd, if_pos rfl]; rfl
   . rw [h3 i hi, if_neg hne]
theorem c3K {σ : St} {d : Nat} {K : St -> Prop} (B s : Nat) (hB : 1000000 <= B) (hd : d < 1000000) {R : List Chg} {n : Str} (hF : RfF σ B s R)
   (hk : ∀ τ, U5 R -> Fam τ B (zH s R) -> τ d = .tup [.d (.str (O8 R n).1), .d (.bool (O8 R n).2)] -> Oth σ τ d -> Y1 σ τ B -> K τ) : a0S prog 16 [.d (.raw (va s)), .d (.str n)] σ d K := by
 obtain ⟨hR, u, hFam⟩ := hF; have h1 : G1 prog 16 [.d (.raw (va s)), .d (.str n)] (zH s R) (fun r' hs' => r' = .tup [.d (.str (O8 R n).1), .d (.bool (O8 R n).2)] /\ hs' = zH s R) :=
   G1.lendL (ds := [.raw (va s), .str n]) (enters_of func16 (by kernel_rfl) rfl) (fun w L hr => ⟨[rsD R, .str n], .cons (.box (e := 74) (d := .agg [B3 R, .bool true]) (by simp [zH]) (.same _)) (a4e _), b4W R hR n⟩) rfl
 have h2 := G1.frzIn (zs := [.hs u 35 (R.map A3)]) (hs2 := []) (d := .agg [.raw u, .bool true]) h1 (by simp) (by simp) (.agg (.cons (.sl (e := 35) (by simp)) (.cons (.same _) .nil))); refine b4H B hB hd hFam h2 (fun x hs' hp => ?_) (fun x hs' τ ks ls hp hF' h1 h2 h3 h4 => ?_)
 . obtain ⟨_, rfl⟩ := hp; exact ⟨rfl, by simp [zH]⟩
 . obtain ⟨rfl, rfl⟩ := hp; refine hk τ hR hF' ?_ ⟨ks, h1, fun i hi hne => ?_⟩ h4
   . rw [h3 d hd, if_pos rfl]; rfl
   . rw [h3 i hi, if_neg hne]
def RoI (l : List Chg) (s : Nat) (e : Int) (k : Nat) (τ : St) : Prop := τ 0 = .d (B3 l) /\ τ 4 = .d (.raw (va s)) /\ τ 5 = .d (.int .i64 k) /\ ofE (ofR [] (l.take k)) (l.drop k) = e /\ RfF τ 1000000 s (ofR [] (l.take k))
theorem c0k (l : List Chg) (hl : l.length < 100000) (hf : ∀ c ∈ l, M8 c) : G1 prog 18 [.d (B3 l)] [] (fun x hs' => (ofE [] l ≠ 0 /\ x = .tup [.d .nilp, .d (.int .i64 (ofE [] l))] /\ hs' = []) \/ (ofE [] l = 0 /\ ∃ s u, x = .tup [.d (.raw (va s)), .d (.int .i64 0)] /\ hs' = rH s u (ofR [] l))) := by
 refine a1O (rs := [.tmp 2, .tmp 3]) (fun i => i == 5000007 || i == 5000019) (by kernel_rfl) func18 (by kernel_rfl) rfl rfl (by simp) (nbl rfl) (by kernel_rfl) rfl ?_; simp -implicitDefEqProofs [A5]; refine b6G 1000000 (Nat.le_refl _) (by omega) (fun s τ1 hF1 f1 o1 p1 => ?_); have t10 : τ1 0 = .d (B3 l) := o1.dd (by omega) (by omega) (by simp [B3, A5, a8G]); simp -implicitDefEqProofs [f1, t10]; refine F3 l.length (RoI l s (ofE [] l)) ⟨by simp [t10], by simp, by simp, by simp [ofR], (by (repeat (first | exact hF1 | refine RfF.put ?_ (by omega) | refine RfF.setv ?_ (by omega) | refine RfF.clean ?_ _)))⟩ ?_; clear f1 t10 o1 p1 hF1; rintro k τ hk ⟨h0, h4, h5, hE, hF⟩; rcases Nat.lt_or_ge k l.length with hlt | hlt
 . have hlt' : (k : Int) < l.length := (by omega); obtain ⟨x, hx⟩ : ∃ x, l[k] = x := ⟨_, rfl⟩; have hfx : M8 x := by rw [<- hx]; exact hf _ (gmm _)
   have ex : A3 x = .agg [A4 x.1, .int .i64 (opC x), .str (idC x), .str x.2.2.2.1, .str x.2.2.2.2.1, .str x.2.2.2.2.2] := rfl; rw [drop_eq_getElem_cons hlt, hx, ofE] at hE; have hR2 : ofR [] (l.take (k + 1)) = K1 (ofR [] (l.take k)) x := by rw [F6 hlt, hx]; simp [ofR]
   simp -implicitDefEqProofs [h0, h4, h5, hlt, hlt', B3, hx, ex, A1]; rw [<- ex]; refine b6F (R := ofR [] (l.take k)) 1000000 s (by omega) (by omega) (by (repeat (first | exact hF | refine RfF.put ?_ (by omega) | refine RfF.setv ?_ (by omega) | refine RfF.clean ?_ _))) hfx (fun τ3 hF3 f3 o3 p3 => ?_); have u0 : τ3 0 = .d (B3 l) := o3.dd (by omega) (by omega) (by simp [h0]); have u4 : τ3 4 = .d (.raw (va s)) := o3.dd (by omega) (by omega) (by simp [h4]); have u5 : τ3 5 = .d (.int .i64 k) := o3.dd (by omega) (by omega) (by simp [h5]); by_cases he : I0 (ofR [] (l.take k)) x = 0
   . rw [if_neg (by simpa using he)] at hE; rw [<- hR2] at hE hF3; rw [he] at f3; simp -implicitDefEqProofs [u0, u4, u5, f3]; exact ⟨by omega, B8 hlt ⟨by simp [u0], by simp [u4], by simp, hE, (by (repeat (first | exact hF3 | refine RfF.put ?_ (by omega) | refine RfF.setv ?_ (by omega) | refine RfF.clean ?_ _)))⟩⟩
   . rw [if_pos he] at hE; rw [hE] at f3 he; simp -implicitDefEqProofs [u0, u4, u5, f3, he]; exact ⟨[.d .nilp, .d (.int .i64 (ofE [] l))], [], by simp, by simp, by simp [T3, a0Z], rfl, rfl⟩
 . have hlt' : ¬ (k : Int) < l.length := (by omega); rw [drop_eq_nil_of_le (by omega), ofE] at hE; rw [ttl (by omega)] at hF; obtain ⟨hB, u2, hF2⟩ := hF; simp -implicitDefEqProofs [h0, h4, h5, hlt', B3]; have hP := ((((((hF2.put (x := .d (.int .i64 k)) (d := 8) (by omega)).put (x := .d (.sl (l.map A3))) (d := 9) (by omega)).put (x := .d (.int .i64 l.length)) (d := 10) (by omega)).put (x := .d (.bool false)) (d := 11) (by omega)).put (x := .d (.raw (va s))) (d := 23) (by omega)).put (x := .d (.raw (va s))) (d := 2) (by omega)).put (x := .d (.int .i64 0)) (d := 3) (by omega); exact ⟨[.d (.raw (va s)), .d (.int .i64 0)], V6 1000000 (rH s u2 (ofR [] l)).length, a1B _ _, fun k hk => hP.isH k hk, by simp [T3, a0Z], .inr ⟨hE.symm, s, rfl, u2, hP.map⟩⟩
theorem c6o {σ : St} {d : Nat} {K : St -> Prop} (B : Nat) (hB : 1000000 <= B) (hd : d < 1000000) {l : List Chg} (hl : l.length < 100000) (hf : ∀ c ∈ l, M8 c) (h0 : ofE [] l = 0)
   (hk : ∀ s τ, τ d = .tup [.d (.raw (va s)), .d (.int .i64 0)] -> Oth σ τ d -> Y1 σ τ B -> K τ) : a0S prog 18 [.d (B3 l)] σ d K := by
 refine ⟨[], B, _, by simp, by simp, c0k l hl hf, fun x hs' hp => ?_⟩; rcases hp with ⟨h1, _⟩ | ⟨_, s, u, rfl, rfl⟩
 . exact absurd h0 h1
 . obtain ⟨f1, f2, f3, f4⟩ := a3y (σ := σ) (d := d) (r := .tup [.d (.raw (va s)), .d (.int .i64 0)]) hB hd (b9C s u (ofR [] l)) (by simp [rH]) rfl rfl; exact hk s _ f2 f3 f4
theorem b4d {σ : St} {d : Nat} {K : St -> Prop} (B1 s1 B2 s2 : Nat) (hB1 : 1000000 <= B1) (hB2 : 1000000 <= B2) (hBB : B1 + 1000000 <= B2) (hd : d < 1000000) {R : List Chg} {l : List Str} (hF1 : StF σ B1 s1 R) (hF2 : Fam σ B2 (zH s2 R)) (hl : l.length < 1000000)
   (hk : ∀ τ, τ d = .d (.bool true) -> Oth σ τ d -> K τ) : a0S prog 19 [.d (.raw (va s1)), .d (.raw (va s2)), .d (B0 l)] σ d K := by
 obtain ⟨hR1, r1, m1, E1, hE1, hFam1⟩ := hF1; have hl1 := hFam1.2.1; refine b6Y (V6 B1 (stH s1 r1 m1 R E1).length ++ V6 B2 (zH s2 R).length) (fun k hk => ?_) hd ?_ (fun k hk => ?_) (r := .d (.bool true)) ?_ (fun τ h1 h2 h3 => ?_)
 . rcases mem_append.1 hk with hk | hk
   . obtain ⟨j, _, rfl⟩ := mem_map.1 hk; omega
   . obtain ⟨j, _, rfl⟩ := mem_map.1 hk; omega
 . refine nodup_append.2 ⟨a1B _ _, a1B _ _, fun a ha b hb e => ?_⟩; obtain ⟨i, hi, rfl⟩ := mem_map.1 ha; obtain ⟨j, hj, rfl⟩ := mem_map.1 hb; have : i < (stH s1 r1 m1 R E1).length := (by simpa using hi); omega
 . rcases mem_append.1 hk with hk | hk
   . exact hFam1.isH k hk
   . exact hF2.isH k hk
 . rw [map_append, hFam1.map, hF2.map]; refine G1.lendL (ds := [.raw (va s1), .raw (va s2), B0 l]) (enters_of func19 (by kernel_rfl) rfl) (fun w L hr => ?_) rfl; obtain ⟨x, hx, hln⟩ := b5M (s := s1) (r := r1) (m := m1) hr hE1 (fun x hx => mem_append.2 (.inl hx)); exact ⟨[x, rsD R, B0 l], .cons hln (.cons (.box (e := 74) (d := .agg [B3 R, .bool true]) (by simp [zH]) (.same _)) (a4e _)), b9S R hR1 x hx l hl⟩
 . refine hk τ (by rw [h2]; rfl) ⟨_, fun j hj => ?_, fun i hi hid => h3 i (fun hm => ?_) hid⟩
   . have e1 := a2O (n := (stH s1 r1 m1 R E1).length) hB1 hj; have e2 := a2O (n := (zH s2 R).length) hB2 hj; simp [e1, e2]
   . rcases mem_append.1 hm with hm | hm
     . exact a2O hB1 hi hm
     . exact a2O hB2 hi hm
end Go.Proofs.Tz
namespace Go.Proofs.Tz
open Go.Vw
theorem fits_str {d : D} (h : Sh.Fits .str d) : ∃ s : Str, d = .str s := by
 simp only [Sh.Fits] at h; obtain ⟨s, rfl, _⟩ := h; exact ⟨s, rfl⟩
end Go.Proofs.Tz
namespace Go.Proofs.Tz
open Go.Vw Go.RowKit Go.Proofs
theorem c3q {d : D} (h : Sh.Fits (.agg [.int .i64, .int .i64, .int .i64]) d) : ∃ x : Csn, d = A4 x := by
 simp only [Sh.Fits, Sh.FitsL] at h; obtain ⟨ds, rfl, x, xs, rfl, ⟨a, rfl, _⟩, y, ys, rfl, ⟨b, rfl, _⟩, z, zs, rfl, ⟨c, rfl, _⟩, rfl⟩ := h; exact ⟨(a, b, c), rfl⟩
theorem c1Z {d : D} (h : Sh.Fits (.agg [.agg [.int .i64, .int .i64, .int .i64], .int .i64, .str, .str, .str, .str]) d) : ∃ x : Chg, d = A3 x := by
 simp only [Sh.Fits, Sh.FitsL] at h; obtain ⟨ds, rfl, n, ns, rfl, hn, o, os, rfl, ⟨ov, rfl, _⟩, i, is, rfl, ⟨iv, rfl, _⟩, m, ms, rfl, ⟨mv, rfl, _⟩, a, az, rfl, ⟨av, rfl, _⟩, v, vs, rfl, ⟨vv, rfl, _⟩, rfl⟩ := h; obtain ⟨c, rfl⟩ := c3q (by simp only [Sh.Fits, Sh.FitsL]; exact hn); exact ⟨(c, ov, iv, mv, av, vv), rfl⟩
theorem fits_chgs {d : D} (h : Sh.Fits (.sl (.agg [.agg [.int .i64, .int .i64, .int .i64], .int .i64, .str, .str, .str, .str])) d) : ∃ x : List Chg, d = B3 x := by
 rw [Sh.Fits] at h; obtain ⟨ds, rfl, _, hd⟩ := h; have key : ∀ (ds : List D), (∀ x ∈ ds, Sh.Fits (.agg [.agg [.int .i64, .int .i64, .int .i64], .int .i64, .str, .str, .str, .str]) x) -> ∃ l : List Chg, ds = l.map A3 := by
   intro ds
   induction ds with
   | nil => intro _; exact ⟨[], rfl⟩
   | cons d ds ih =>
     intro h; obtain ⟨x, rfl⟩ := c1Z (h d (by simp)); obtain ⟨l, rfl⟩ := ih (fun y hy => h y (by simp [hy])); exact ⟨x :: l, rfl⟩
 obtain ⟨l, rfl⟩ := key ds hd; exact ⟨l, rfl⟩
theorem c3w {l : List Chg} (h : D.lim 140737488351232 (B3 l)) : l.length <= 140737488351232 := by
 simpa [B3, D.lim] using h.1
end Go.Proofs.Tz
namespace Go.Proofs.Tz
open Go.Vw Go.RowKit Go.Proofs Go.Sort
def stW (l : List Chg) (s t k : Nat) (x : Chg) (e : Int) : Nat -> AV
 | 0 => .d (.raw (va s))
 | 1 => .d (B3 l)
 | 2 => .d (.int .i64 k)
 | 3 => .d (.ref (A3 x))
 | 4 => .d (A3 x)
 | 5 => .d (.int .i64 e)
 | 6 => .d (.raw (va t))
 | 7 => .d (B3 l)
 | 8 => .d (.int .i64 k)
 | 9 => .d (.ref (A3 x))
 | 10 => .d (A3 x)
 | 11 => .d (.int .i64 e)
 | _ => .d (.bool false)
theorem b8A (l : List Chg) (s t k : Nat) (x : Chg) (e : Int) : ∀ i, ∃ y, stW l s t k x e i = .d y
 | 0 | 1 | 2 | 3 | 4 | 5 | 6 | 7 | 8 | 9 | 10 | 11 => ⟨_, rfl⟩
 | _ + 12 => ⟨_, rfl⟩
def StJ (l : List Chg) (n : Str) (s t k : Nat) (x : Chg) (R : List Chg) (b : Nat -> Bool) (σ : St) : Prop :=
 (σ 0 = .d (B3 l) /\ σ 1 = .d (.str n) /\ σ 5 = .d (.raw (va s)) /\ σ 6 = .d (.raw (va t)) /\ σ 7 = .d (.int .i64 k)) /\ StF σ 1000000 s (if b 5 = true then K1 R x else R) /\ RfF σ 3000000 t (if b 11 = true then K1 R x else R) /\ ∀ i, i < 13 -> b i = true -> σ (35 + i) = stW l s t k x (I0 R x) i
section
variable {l : List Chg} {n : Str} {s t k : Nat} {x : Chg} {R : List Chg} {b : Nat -> Bool} {σ : St}
theorem StJ.put (h : StJ l n s t k x R b σ) (i : Nat) (hi : i < 13) (h5 : i ≠ 5) (h11 : i ≠ 11) {v : AV} (hv : v = stW l s t k x (I0 R x) i) : StJ l n s t k x R (fun j => if j = i then true else b j) (Vw.put σ (35 + i) v) := by
 obtain ⟨⟨a0, a1, a5, a6, a7⟩, hF, hG, hW⟩ := h; have z : ∀ j y, j < 35 -> σ j = .d y -> Vw.put σ (35 + i) v j = .d y := fun j y hj e => by
   simp only [Vw.put, if_neg (show ¬ j = 35 + i by omega), e, a8G]
 refine ⟨⟨z _ _ (by omega) a0, z _ _ (by omega) a1, z _ _ (by omega) a5, z _ _ (by omega) a6, z _ _ (by omega) a7⟩, ?_, ?_, fun j hj hb => ?_⟩
 . simp only [if_neg (Ne.symm h5)]; exact hF.put (by omega)
 . simp only [if_neg (Ne.symm h11)]; exact hG.put (by omega)
 . by_cases q : j = i
   . subst q; obtain ⟨y, hy⟩ := b8A l s t k x (I0 R x) j; rw [hv, hy]; simp only [Vw.put, if_true, a8G]
   . simp only [if_neg q] at hb; obtain ⟨y, hy⟩ := b8A l s t k x (I0 R x) j; rw [hy]; simp only [Vw.put, if_neg (show ¬ 35 + j = 35 + i by omega), hW j hj hb, hy, a8G]
theorem StJ.oth {τ : St} (h : StJ l n s t k x R b σ) (i : Nat) (hi : i < 13) (ho : Oth σ τ (35 + i)) (hd : τ (35 + i) = stW l s t k x (I0 R x) i)
   (hF : StF τ 1000000 s (if (if 5 = i then true else b 5) = true then K1 R x else R)) (hG : RfF τ 3000000 t (if (if 11 = i then true else b 11) = true then K1 R x else R)) : StJ l n s t k x R (fun j => if j = i then true else b j) τ := by
 obtain ⟨⟨a0, a1, a5, a6, a7⟩, _, _, hW⟩ := h; refine ⟨⟨ho.dd (by omega) (by omega) a0, ho.dd (by omega) (by omega) a1, ho.dd (by omega) (by omega) a5, ho.dd (by omega) (by omega) a6, ho.dd (by omega) (by omega) a7⟩, hF, hG, fun j hj hb => ?_⟩; by_cases q : j = i
 . subst q; exact hd
 . simp only [if_neg q] at hb; obtain ⟨y, hy⟩ := b8A l s t k x (I0 R x) j; rw [hy]; exact ho.dd (by omega) (by omega) (by rw [hW j hj hb, hy])
end
theorem c5I {σ : St} {d : Nat} {K : St -> Prop} (B : Nat) (hB : 1000000 <= B) (hd : d < 1000000) {l : List Chg} (hl : l.length < 100000) (hf : ∀ c ∈ l, M8 c) (h0 : ofE [] l ≠ 0)
   (hk : ∀ τ, τ d = .tup [.d .nilp, .d (.int .i64 (ofE [] l))] -> Oth σ τ d -> Y1 σ τ B -> K τ) : a0S prog 17 [.d (B3 l)] σ d K := by
 refine ⟨[], B, _, by simp, by simp, c3V l hl hf, fun x hs' hp => ?_⟩; rcases hp with ⟨_, rfl, rfl⟩ | ⟨h1, _⟩
 . obtain ⟨f1, f2, f3, f4⟩ := a3y (σ := σ) (d := d) (hs := []) (r := .tup [.d .nilp, .d (.int .i64 (ofE [] l))]) hB hd rfl (by simp) rfl rfl; exact hk _ f2 f3 f4
 . exact absurd h1 h0
theorem c4C {σ : St} {d : Nat} {K : St -> Prop} (B : Nat) (hB : 1000000 <= B) (hd : d < 1000000) {l : List Chg} (hl : l.length < 100000) (hf : ∀ c ∈ l, M8 c) (h0 : ofE [] l ≠ 0)
   (hk : ∀ τ, τ d = .tup [.d .nilp, .d (.int .i64 (ofE [] l))] -> Oth σ τ d -> Y1 σ τ B -> K τ) : a0S prog 18 [.d (B3 l)] σ d K := by
 refine ⟨[], B, _, by simp, by simp, c0k l hl hf, fun x hs' hp => ?_⟩; rcases hp with ⟨_, rfl, rfl⟩ | ⟨h1, _⟩
 . obtain ⟨f1, f2, f3, f4⟩ := a3y (σ := σ) (d := d) (hs := []) (r := .tup [.d .nilp, .d (.int .i64 (ofE [] l))]) hB hd rfl (by simp) rfl rfl; exact hk _ f2 f3 f4
 . exact absurd h1 h0
def StI (l : List Chg) (n : Str) (s t : Nat) (k : Nat) (τ : St) : Prop := τ 0 = .d (B3 l) /\ τ 1 = .d (.str n) /\ τ 5 = .d (.raw (va s)) /\ τ 6 = .d (.raw (va t)) /\ τ 7 = .d (.int .i64 k) /\ StF τ 1000000 s (ofR [] (l.take k)) /\ RfF τ 3000000 t (ofR [] (l.take k))
theorem b5P (l : List Chg) (n : Str) (hl : l.length <= 140737488351232) (hn : List.length n <= 140737488351232) : Ctr prog 3 [.d (B3 l), .d (.str n)] (.d (.bool true)) := by
 have a1 := c2F; have s1 := c2g l hl; simp only [B3] at s1; refine fv (fun i => i == 8000009 || i == 5000025 || i == 5000026 || i == 5000040 || i == 5000046 || i == 5000051 || i == 5000057 || i == 5000062 || i == 5000067 || i == 5000083) func3 (by kernel_rfl) rfl rfl rfl rfl rfl ?_; rcases Classical.em (a4F l = true) with q1 | q1
 case inr =>
   have q1' : a4F l = false := (by simpa using q1); rw [q1'] at s1; simp -implicitDefEqProofs [B3]; refine A0 s1 ?_; simp -implicitDefEqProofs [B3]; refine A0 a1 ?_; simp -implicitDefEqProofs [B3]
 rw [q1] at s1; obtain ⟨hl14, hfl⟩ := c0K q1; rcases Classical.em (300 < List.length n) with q2 | q2
 . have q2' : (300 : Int) < List.length n := (by omega); simp -implicitDefEqProofs [B3]; refine A0 s1 ?_; simp -implicitDefEqProofs [B3, q2']; refine A0 a1 ?_; simp -implicitDefEqProofs [B3]
 have q2' : ¬ (300 : Int) < List.length n := (by omega); simp -implicitDefEqProofs [B3]; refine A0 s1 ?_; simp -implicitDefEqProofs [B3, q2']; refine c6g 1000000 (Nat.le_refl _) (by omega) (fun s τ1 hF1 f1 o1 p1 => ?_); have t10 : τ1 0 = .d (B3 l) := o1.dd (by omega) (by omega) (by simp [B3]); have t11 : τ1 1 = .d (.str n) := o1.dd (by omega) (by omega) (by simp); simp -implicitDefEqProofs [f1, t10, t11]; refine b6G 3000000 (by omega) (by omega) (fun t τ2 hG2 f2 o2 p2 => ?_); have hF2 := p2.st (by repeat first | exact hF1 | apply StF.put | apply StF.setv | apply StF.clean | omega) (by omega) (by omega); have t20 : τ2 0 = .d (B3 l) := o2.dd (by omega) (by omega) (by simp [t10]); have t21 : τ2 1 = .d (.str n) := o2.dd (by omega) (by omega) (by simp [t11]); have t25 : τ2 25 = .d (.raw (va s)) := o2.dd (by omega) (by omega) (by simp [f1]); simp -implicitDefEqProofs [f2, t20, t21, t25]; refine F3 l.length (StI l n s t) ⟨by simp [t20], by simp [t21], by simp, by simp, by simp, (by repeat first | exact hF2 | apply StF.put | apply StF.setv | apply StF.clean | omega), (by (repeat (first | exact hG2 | refine RfF.put ?_ (by omega) | refine RfF.setv ?_ (by omega) | refine RfF.clean ?_ _)))⟩ ?_; clear f1 t10 t11 o1 p1 hF1 f2 t20 t21 t25 o2 p2 hF2 hG2 s1; rintro k τ hk ⟨h0, h1, h5, h6, h7, hF, hG⟩; rcases Nat.lt_or_ge k l.length with hlt | hlt
 . have hlt' : (k : Int) < l.length := (by omega); obtain ⟨x, hx⟩ : ∃ x, l[k] = x := ⟨_, rfl⟩; have hfx : M8 x := by rw [<- hx]; exact hfl _ (gmm _)
   have ec : A3 x = .agg [A4 x.1, .int .i64 (opC x), .str (idC x), .str x.2.2.2.1, .str x.2.2.2.2.1, .str x.2.2.2.2.2] := rfl; have hR2 : ofR [] (l.take (k + 1)) = K1 (ofR [] (l.take k)) x := by rw [F6 hlt, hx]; simp [ofR]
   generalize hR1 : ofR [] (l.take k) = R1 at *; simp -implicitDefEqProofs [h0, h1, h5, h6, h7, hlt', B3]; refine c2k (StJ l n s t k x R1) (by kernel_rfl) ⟨⟨by simp [h0, B3], by simp [h1], by simp [h5], by simp [h6], by simp [h7]⟩, (by repeat first | exact hF | apply StF.put | apply StF.setv | apply StF.clean | omega), (by (repeat (first | exact hG | refine RfF.put ?_ (by omega) | refine RfF.setv ?_ (by omega) | refine RfF.clean ?_ _))), fun _ _ h => by cases h⟩ ?_ (fun b σ hb hJ => ?_)
   . intro b i o ho hbi hdep σ hJ K' hK; have hi : i < 13 := (Array.getElem?_eq_some_iff.1 ho).1; obtain ⟨⟨a0, a1, a5, a6, a7⟩, hS, hU, hW⟩ := id hJ
     match i, hi with
     | 0, _ =>
       simp only [getElem?_toArray, getElem?_cons_zero, getElem?_cons_succ, Option.some.injEq] at ho; subst ho; simp [Region.binds] at hdep; simp -implicitDefEqProofs [a5, ec, A1]; exact hK _ (hJ.put 0 (by omega) (by omega) (by omega) rfl)
     | 1, _ =>
       simp only [getElem?_toArray, getElem?_cons_zero, getElem?_cons_succ, Option.some.injEq] at ho; subst ho; simp [Region.binds] at hdep; simp -implicitDefEqProofs [a0, B3, ec, A1]; exact hK _ (hJ.put 1 (by omega) (by omega) (by omega) rfl)
     | 2, _ =>
       simp only [getElem?_toArray, getElem?_cons_zero, getElem?_cons_succ, Option.some.injEq] at ho; subst ho; simp [Region.binds] at hdep; simp -implicitDefEqProofs [a7, ec, A1]; exact hK _ (hJ.put 2 (by omega) (by omega) (by omega) rfl)
     | 3, _ =>
       simp only [getElem?_toArray, getElem?_cons_zero, getElem?_cons_succ, Option.some.injEq] at ho; subst ho; simp [Region.binds] at hdep; have w1 : σ 36 = .d (B3 l) := hW 1 (by omega) (by simp [hdep]); have w2 : σ 37 = .d (.int .i64 k) := hW 2 (by omega) (by simp [hdep]); simp -implicitDefEqProofs [w1, w2, B3, hlt, hlt', hx, ec, A1]; exact hK _ (hJ.put 3 (by omega) (by omega) (by omega) rfl)
     | 4, _ =>
       simp only [getElem?_toArray, getElem?_cons_zero, getElem?_cons_succ, Option.some.injEq] at ho; subst ho; simp [Region.binds] at hdep; have w3 : σ 38 = .d (.ref (A3 x)) := hW 3 (by omega) (by simp [hdep]); simp -implicitDefEqProofs [w3, ec, A1]; exact hK _ (hJ.put 4 (by omega) (by omega) (by omega) rfl)
     | 5, _ =>
       simp only [getElem?_toArray, getElem?_cons_zero, getElem?_cons_succ, Option.some.injEq] at ho; subst ho; simp [Region.binds] at hdep; have w0 : σ 35 = .d (.raw (va s)) := hW 0 (by omega) (by simp [hdep]); have w4 : σ 39 = .d (A3 x) := hW 4 (by omega) (by simp [hdep]); simp -implicitDefEqProofs [w0, w4, ec, A1]; rw [<- ec]; simp only [hbi, Bool.false_eq_true, if_false] at hS; exact c1j (R := R1) 1000000 s (by omega) (by omega) hS hfx fun τ3 hF3 f3 o3 p3 => hK _ (hJ.oth 5 (by omega) o3 f3 (by simpa using hF3) (by simpa using p3.rf hU (by omega) (by omega)))
     | 6, _ =>
       simp only [getElem?_toArray, getElem?_cons_zero, getElem?_cons_succ, Option.some.injEq] at ho; subst ho; simp [Region.binds] at hdep; simp -implicitDefEqProofs [a6, ec, A1]; exact hK _ (hJ.put 6 (by omega) (by omega) (by omega) rfl)
     | 7, _ =>
       simp only [getElem?_toArray, getElem?_cons_zero, getElem?_cons_succ, Option.some.injEq] at ho; subst ho; simp [Region.binds] at hdep; simp -implicitDefEqProofs [a0, B3, ec, A1]; exact hK _ (hJ.put 7 (by omega) (by omega) (by omega) rfl)
     | 8, _ =>
       simp only [getElem?_toArray, getElem?_cons_zero, getElem?_cons_succ, Option.some.injEq] at ho; subst ho; simp [Region.binds] at hdep; simp -implicitDefEqProofs [a7, ec, A1]; exact hK _ (hJ.put 8 (by omega) (by omega) (by omega) rfl)
     | 9, _ =>
       simp only [getElem?_toArray, getElem?_cons_zero, getElem?_cons_succ, Option.some.injEq] at ho; subst ho; simp [Region.binds] at hdep; have w7 : σ 42 = .d (B3 l) := hW 7 (by omega) (by simp [hdep]); have w8 : σ 43 = .d (.int .i64 k) := hW 8 (by omega) (by simp [hdep]); simp -implicitDefEqProofs [w7, w8, B3, hlt, hlt', hx, ec, A1]; exact hK _ (hJ.put 9 (by omega) (by omega) (by omega) rfl)
     | 10, _ =>
       simp only [getElem?_toArray, getElem?_cons_zero, getElem?_cons_succ, Option.some.injEq] at ho; subst ho; simp [Region.binds] at hdep; have w9 : σ 44 = .d (.ref (A3 x)) := hW 9 (by omega) (by simp [hdep]); simp -implicitDefEqProofs [w9, ec, A1]; exact hK _ (hJ.put 10 (by omega) (by omega) (by omega) rfl)
     | 11, _ =>
       simp only [getElem?_toArray, getElem?_cons_zero, getElem?_cons_succ, Option.some.injEq] at ho; subst ho; simp [Region.binds] at hdep; have w5 : σ 40 = .d (.int .i64 (I0 R1 x)) := hW 5 (by omega) (by simp [hdep]); have w6 : σ 41 = .d (.raw (va t)) := hW 6 (by omega) (by simp [hdep]); have w10 : σ 45 = .d (A3 x) := hW 10 (by omega) (by simp [hdep]); simp -implicitDefEqProofs [w5, w6, w10, ec, A1]; rw [<- ec]; simp only [hbi, Bool.false_eq_true, if_false] at hU; exact b6F (R := R1) 3000000 t (by omega) (by omega) hU hfx fun τ3 hF3 f3 o3 p3 => hK _ (hJ.oth 11 (by omega) o3 f3 (by simpa using p3.st hS (by omega) (by omega)) (by simpa using hF3))
     | 12, _ =>
       simp only [getElem?_toArray, getElem?_cons_zero, getElem?_cons_succ, Option.some.injEq] at ho; subst ho; simp [Region.binds] at hdep; have w5 : σ 40 = .d (.int .i64 (I0 R1 x)) := hW 5 (by omega) (by simp [hdep]); have w11 : σ 46 = .d (.int .i64 (I0 R1 x)) := hW 11 (by omega) (by simp [hdep]); simp -implicitDefEqProofs [w5, w11, ec, A1]; exact hK _ (hJ.put 12 (by omega) (by omega) (by omega) rfl)
   . obtain ⟨⟨a0, a1, a5, a6, a7⟩, hS, hU, hW⟩ := hJ; have w12 : σ 47 = .d (.bool false) := hW 12 (by omega) (hb 12 (by simp)); simp only [hb 5 (by simp), if_true] at hS; simp only [hb 11 (by simp), if_true] at hU; simp -implicitDefEqProofs [w12, a0, a1, a5, a6, a7, ec, A1]; exact ⟨by omega, B8 hlt ⟨by simp [a0], by simp [a1], by simp [a5], by simp [a6], by simp, by rw [hR2]; exact (by repeat first | exact hS | apply StF.put | apply StF.setv | apply StF.clean | omega), by rw [hR2]; exact (by (repeat (first | exact hU | refine RfF.put ?_ (by omega) | refine RfF.setv ?_ (by omega) | refine RfF.clean ?_ _)))⟩⟩
 have hlt' : ¬ (k : Int) < l.length := (by omega); have hlt'' : ¬ k < l.length := (by omega); rw [ttl hlt] at hF hG; simp -implicitDefEqProofs [h0, h1, h5, h6, h7, hlt', hlt'', B3]; have hGS := T9 hF.1; have c20 : Ctr prog 20 [.d (B3 l)] (.d (B0 (l.map idC))) := Z9 (c6C l (by omega)); simp only [B3] at c20; have hil : (l.map idC).length < 1000000 := by simp; omega
 generalize l.map idC = IDS at *; have hf := fun x hx => b1L (ofR [] l) x n hx hGS
 generalize ofR [] l = R at *; refine a1y (ds := [.str n]) (res := .tup [.d (.str (O8 R n).1), .d (.bool (O8 R n).2)]) 1000000 s (by omega) (by omega) (by repeat first | exact hF | apply StF.put | apply StF.setv | apply StF.clean | omega) (enters_of func15 (by kernel_rfl) rfl) hf rfl (fun τ2 hF2 f2 o2 p2 => ?_); have hG2 : RfF τ2 3000000 t R := p2.rf (by (repeat (first | exact hG | refine RfF.put ?_ (by omega) | refine RfF.setv ?_ (by omega) | refine RfF.clean ?_ _))) (by omega) (by omega); generalize hq : O8 R n = q at *; obtain ⟨q1, q2⟩ := q; have t0 : τ2 0 = .d (B3 l) := o2.dd (by omega) (by omega) (by simp [h0]); have t1 : τ2 1 = .d (.str n) := o2.dd (by omega) (by omega) (by simp [h1]); have t5 : τ2 5 = .d (.raw (va s)) := o2.dd (by omega) (by omega) (by simp [h5]); have t6 : τ2 6 = .d (.raw (va t)) := o2.dd (by omega) (by omega) (by simp [h6]); clear o2 p2 hF hG h0 h1 h5 h6 h7; simp -implicitDefEqProofs [t0, t1, t5, t6, f2]; refine c3K (R := R) 3000000 t (by omega) (by omega) (by (repeat (first | exact hG2 | refine RfF.put ?_ (by omega) | refine RfF.setv ?_ (by omega) | refine RfF.clean ?_ _))) (fun τ3 _ hZ3 f3 o3 p3 => ?_); have hF3 : StF τ3 1000000 s R := p3.st (by repeat first | exact hF2 | apply StF.put | apply StF.setv | apply StF.clean | omega) (by omega) (by omega); rw [hq] at f3; have u0 : τ3 0 = .d (B3 l) := o3.dd (by omega) (by omega) (by simp [t0]); have u5 : τ3 5 = .d (.raw (va s)) := o3.dd (by omega) (by omega) (by simp [t5]); have u6 : τ3 6 = .d (.raw (va t)) := o3.dd (by omega) (by omega) (by simp [t6]); have u8 : τ3 8 = .d (.str q1) := o3.dd (by omega) (by omega) (by simp [t6]); have u9 : τ3 9 = .d (.bool q2) := o3.dd (by omega) (by omega) (by simp [t6]); clear o3 p3 hF2 hG2 t0 t1 t5 t6 f2; simp -implicitDefEqProofs [u0, u5, u6, u8, u9, f3, B3]; obtain ⟨e, he⟩ : ∃ e, ofE [] l = e := ⟨_, rfl⟩; by_cases e0 : e = 0
 . subst e0; refine c4b 5000000 (by omega) (by omega) (by omega) hfl he (fun s2 τ4 _ f4 o4 p4 => ?_); have hF4 : StF τ4 1000000 s R := p4.st (by repeat first | exact hF3 | apply StF.put | apply StF.setv | apply StF.clean | omega) (by omega) (by omega); have hZ4 : Fam τ4 3000000 (zH t R) := p4 _ _ (by (repeat (first | exact hZ3 | refine Fam.put ?_ (by omega) | refine Fam.setv ?_ (by omega) | refine Fam.clean ?_ _))) (by omega) (by omega); have v0 : τ4 0 = .d (B3 l) := o4.dd (by omega) (by omega) (by simp [u0, B3]); have v5 : τ4 5 = .d (.raw (va s)) := o4.dd (by omega) (by omega) (by simp [u5]); have v6 : τ4 6 = .d (.raw (va t)) := o4.dd (by omega) (by omega) (by simp [u6]); have v8 : τ4 8 = .d (.str q1) := o4.dd (by omega) (by omega) (by simp [u8]); have v9 : τ4 9 = .d (.bool q2) := o4.dd (by omega) (by omega) (by simp [u9]); have v10 : τ4 10 = .d (.str q1) := o4.dd (by omega) (by omega) (by simp [u9]); have v11 : τ4 11 = .d (.bool q2) := o4.dd (by omega) (by omega) (by simp [u9]); clear o4 p4 hF3 hZ3 u0 u5 u6 u8 u9 f3; simp -implicitDefEqProofs [v0, v5, v6, v8, v9, v10, v11, f4, B3]; refine c6o 7000000 (by omega) (by omega) (by omega) hfl he (fun s3 τ5 f5 o5 p5 => ?_); have hF5 : StF τ5 1000000 s R := p5.st (by repeat first | exact hF4 | apply StF.put | apply StF.setv | apply StF.clean | omega) (by omega) (by omega); have hZ5 : Fam τ5 3000000 (zH t R) := p5 _ _ (by (repeat (first | exact hZ4 | refine Fam.put ?_ (by omega) | refine Fam.setv ?_ (by omega) | refine Fam.clean ?_ _))) (by omega) (by omega); have w0 : τ5 0 = .d (B3 l) := o5.dd (by omega) (by omega) (by simp [v0, B3]); have w5 : τ5 5 = .d (.raw (va s)) := o5.dd (by omega) (by omega) (by simp [v5]); have w6 : τ5 6 = .d (.raw (va t)) := o5.dd (by omega) (by omega) (by simp [v6]); have w8 : τ5 8 = .d (.str q1) := o5.dd (by omega) (by omega) (by simp [v8]); have w9 : τ5 9 = .d (.bool q2) := o5.dd (by omega) (by omega) (by simp [v9]); have w10 : τ5 10 = .d (.str q1) := o5.dd (by omega) (by omega) (by simp [v10]); have w11 : τ5 11 = .d (.bool q2) := o5.dd (by omega) (by omega) (by simp [v11]); have w12 : τ5 12 = .d (.raw (va s2)) := o5.dd (by omega) (by omega) (by simp [v11]); have w13 : τ5 13 = .d (.int .i64 0) := o5.dd (by omega) (by omega) (by simp [v11]); clear o5 p5 hF4 hZ4 v0 v5 v6 v8 v9 v10 v11 f4; simp -implicitDefEqProofs [w0, w5, w6, w8, w9, w10, w11, w12, w13, f5, B3]; refine A0 c20 ?_; simp -implicitDefEqProofs []; refine b4d (R := R) 1000000 s 3000000 t (by omega) (by omega) (by omega) (by omega) (by repeat first | exact hF5 | apply StF.put | apply StF.setv | apply StF.clean | omega) (by (repeat (first | exact hZ5 | refine Fam.put ?_ (by omega) | refine Fam.setv ?_ (by omega) | refine Fam.clean ?_ _))) hil (fun τ6 f6 o6 => ?_); have x12 : τ6 12 = .d (.raw (va s2)) := o6.dd (by omega) (by omega) (by simp [w12]); have x13 : τ6 13 = .d (.int .i64 0) := o6.dd (by omega) (by omega) (by simp [w13]); have x15 : τ6 15 = .d (.int .i64 0) := o6.dd (by omega) (by omega) (by simp [w13]); have x78 : τ6 78 = .d (.bool true) := o6.dd (by omega) (by omega) (by simp [w13]); simp -implicitDefEqProofs [x12, x13, x15, x78, f6]; refine A0 a1 ?_; simp -implicitDefEqProofs []
 . refine c5I 5000000 (by omega) (by omega) (by omega) hfl (by rw [he]; exact e0) (fun τ4 f4 o4 p4 => ?_); rw [he] at f4; have hF4 : StF τ4 1000000 s R := p4.st (by repeat first | exact hF3 | apply StF.put | apply StF.setv | apply StF.clean | omega) (by omega) (by omega); have hZ4 : Fam τ4 3000000 (zH t R) := p4 _ _ (by (repeat (first | exact hZ3 | refine Fam.put ?_ (by omega) | refine Fam.setv ?_ (by omega) | refine Fam.clean ?_ _))) (by omega) (by omega); have v0 : τ4 0 = .d (B3 l) := o4.dd (by omega) (by omega) (by simp [u0, B3]); have v5 : τ4 5 = .d (.raw (va s)) := o4.dd (by omega) (by omega) (by simp [u5]); have v6 : τ4 6 = .d (.raw (va t)) := o4.dd (by omega) (by omega) (by simp [u6]); have v8 : τ4 8 = .d (.str q1) := o4.dd (by omega) (by omega) (by simp [u8]); have v9 : τ4 9 = .d (.bool q2) := o4.dd (by omega) (by omega) (by simp [u9]); have v10 : τ4 10 = .d (.str q1) := o4.dd (by omega) (by omega) (by simp [u9]); have v11 : τ4 11 = .d (.bool q2) := o4.dd (by omega) (by omega) (by simp [u9]); clear o4 p4 hF3 hZ3 u0 u5 u6 u8 u9 f3; simp -implicitDefEqProofs [v0, v5, v6, v8, v9, v10, v11, f4, B3]; refine c4C 7000000 (by omega) (by omega) (by omega) hfl (by rw [he]; exact e0) (fun τ5 f5 o5 p5 => ?_); rw [he] at f5; have hF5 : StF τ5 1000000 s R := p5.st (by repeat first | exact hF4 | apply StF.put | apply StF.setv | apply StF.clean | omega) (by omega) (by omega); have hZ5 : Fam τ5 3000000 (zH t R) := p5 _ _ (by (repeat (first | exact hZ4 | refine Fam.put ?_ (by omega) | refine Fam.setv ?_ (by omega) | refine Fam.clean ?_ _))) (by omega) (by omega); have w0 : τ5 0 = .d (B3 l) := o5.dd (by omega) (by omega) (by simp [v0, B3]); have w5 : τ5 5 = .d (.raw (va s)) := o5.dd (by omega) (by omega) (by simp [v5]); have w6 : τ5 6 = .d (.raw (va t)) := o5.dd (by omega) (by omega) (by simp [v6]); have w8 : τ5 8 = .d (.str q1) := o5.dd (by omega) (by omega) (by simp [v8]); have w9 : τ5 9 = .d (.bool q2) := o5.dd (by omega) (by omega) (by simp [v9]); have w10 : τ5 10 = .d (.str q1) := o5.dd (by omega) (by omega) (by simp [v10]); have w11 : τ5 11 = .d (.bool q2) := o5.dd (by omega) (by omega) (by simp [v11]); have w12 : τ5 12 = .d (.nilp) := o5.dd (by omega) (by omega) (by simp [v11]); have w13 : τ5 13 = .d (.int .i64 e) := o5.dd (by omega) (by omega) (by simp [v11]); clear o5 p5 hF4 hZ4 v0 v5 v6 v8 v9 v10 v11 f4; simp -implicitDefEqProofs [w0, w5, w6, w8, w9, w10, w11, w12, w13, f5, B3]; refine A0 c20 ?_; simp -implicitDefEqProofs []; refine b4d (R := R) 1000000 s 3000000 t (by omega) (by omega) (by omega) (by omega) (by repeat first | exact hF5 | apply StF.put | apply StF.setv | apply StF.clean | omega) (by (repeat (first | exact hZ5 | refine Fam.put ?_ (by omega) | refine Fam.setv ?_ (by omega) | refine Fam.clean ?_ _))) hil (fun τ6 f6 o6 => ?_); have x12 : τ6 12 = .d (.nilp) := o6.dd (by omega) (by omega) (by simp [w12]); have x13 : τ6 13 = .d (.int .i64 e) := o6.dd (by omega) (by omega) (by simp [w13]); have x15 : τ6 15 = .d (.int .i64 e) := o6.dd (by omega) (by omega) (by simp [w13]); have x78 : τ6 78 = .d (.bool true) := o6.dd (by omega) (by omega) (by simp [w13]); simp -implicitDefEqProofs [x12, x13, x15, x78, f6, e0]; refine A0 a1 ?_; simp -implicitDefEqProofs []
theorem MergeStates_ok (l : List Chg) (n : Str) (hb : D.lims 140737488351232 [B3 l, .str n]) : Ctr prog 3 [.d (B3 l), .d (.str n)] (.d (.bool true)) := by
 obtain ⟨h1, h2, _⟩ := hb; exact b5P l n (c3w h1) (by simpa [D.lim] using h2)
end Go.Proofs.Tz