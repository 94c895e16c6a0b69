/-
  What the functions that the statements about merged states reach compute, part 6 of 6, for data of bounded size (each theorem states its bound).
-/import Derived.Test.YtnknfnfinhagoaaGreatDoorTe
import Derived.Test.YtnknfnfinhagoaaGreatDoorTb
import Derived.Test.YtnknfnfinhagoaaGreatDoorWc
import Derived.Test.YtnknfnfinhagoaaGreatDoorTd
import Derived.MakeChecks
open List
open Go.Proofs.Tryz
set_option linter.unusedSimpArgs false
set_option linter.unusedVariables false
set_option maxRecDepth 100000
set_option maxHeartbeats 8000000
namespace Go.Proofs.Tz
open Go.Vw Go.RowKit Go.Proofs Go.Sort
theorem c6a {c : Chg} (h : smC c = true) : S6 c := by
 simp only [smC, Bool.and_eq_true, decide_eq_true_eq] at h; exact ⟨by omega, by omega, by omega, by omega⟩
theorem b4A {l : List Chg} (h : a2O l = true) : l.length ≤ 14 ∧ ∀ c ∈ l, S6 c := by
 simp only [a2O, Bool.and_eq_true, decide_eq_true_eq, all_eq_true] at h; exact ⟨h.2, fun c hc => c6a (h.1 c hc)⟩
theorem c2O {l : List Chg} : ∀ {R : List Chg}, R.length + l.length ≤ 4000 → (∀ x, x ∈ ofR R l ↔ x ∈ R ∨ (x ∈ l ∧ I1 x = 0)) ∧ (ofR R l).length ≤ R.length + l.length := by
 induction l with
 | nil => intro R _; exact ⟨fun x => by simp [ofR], by simp [ofR]⟩
 | cons c l ih =>
   intro R h; simp only [length_cons] at h; have hl : (N6 R c).length ≤ R.length + 1 := by
     unfold N6; split <;> simp
   have hm : ∀ x, x ∈ N6 R c ↔ x ∈ R ∨ (x = c ∧ I1 x = 0) := fun x => by
     unfold N6; split
     · rename_i hh
       simp only [mem_append, mem_singleton]; refine or_congr_right ⟨fun e => ⟨e, by rw [e]; exact hh.1⟩, fun e => e.1⟩
     · rename_i hh
       refine ⟨.inl, fun hx => hx.elim id ?_⟩; rintro ⟨rfl, h0⟩; refine Classical.byContradiction fun hn => hh ⟨h0, hn, by omega⟩
   obtain ⟨i1, i2⟩ := ih (R := N6 R c) (by omega); refine ⟨fun x => ?_, ?_⟩
   · show x ∈ ofR (N6 R c) l ↔ _
     rw [i1, hm, or_assoc]; refine or_congr_right ?_; simp only [mem_cons]; constructor
     · rintro (⟨h1, h2⟩ | ⟨h1, h2⟩)
       · exact ⟨.inl h1, h2⟩
       · exact ⟨.inr h1, h2⟩
     · rintro ⟨h1 | h1, h2⟩
       · exact .inl ⟨h1, h2⟩
       · exact .inr ⟨h1, h2⟩
   · show (ofR (N6 R c) l).length ≤ _
     simp only [length_cons]; omega
end Go.Proofs.Tz
namespace Go.Proofs.Tz
open Go.Vw
end Go.Proofs.Tz
namespace Go.Proofs.Tz
open Go.Vw Go.RowKit Go.Proofs
theorem c2C {d : D} (h : Sh.Fits (.agg [.int .i64, .int .i64, .int .i64]) d) : ∃ x : Csn, d = B8 x := by
 simp only [Sh.Fits, Sh.FitsL] at h; obtain ⟨ds, rfl, x, xs, rfl, ⟨a, rfl, _⟩, y, ys, rfl, ⟨b, rfl, _⟩, z, zs, rfl, ⟨c, rfl, _⟩, rfl⟩ := h; exact ⟨(a, b, c), rfl⟩
theorem fits_chg {d : D} (h : Sh.Fits (.agg [.agg [.int .i64, .int .i64, .int .i64], .int .i64, .str, .str, .str, .str]) d) : ∃ x : Chg, d = A7 x := by
 simp only [Sh.Fits, Sh.FitsL] at h; obtain ⟨ds, rfl, n, ns, rfl, hn, o, os, rfl, ⟨ov, rfl, _⟩, i, is, rfl, ⟨iv, rfl, _⟩, m, ms, rfl, ⟨mv, rfl, _⟩, a, az, rfl, ⟨av, rfl, _⟩, v, vs, rfl, ⟨vv, rfl, _⟩, rfl⟩ := h; obtain ⟨c, rfl⟩ := c2C (by simp only [Sh.Fits, Sh.FitsL]; exact hn); exact ⟨(c, ov, iv, mv, av, vv), rfl⟩
theorem fits_chgs {d : D} (h : Sh.Fits (.sl (.agg [.agg [.int .i64, .int .i64, .int .i64], .int .i64, .str, .str, .str, .str])) d) : ∃ x : List Chg, d = F9 x := by
 rw [Sh.Fits] at h; obtain ⟨ds, rfl, _, hd⟩ := h; have key : ∀ (ds : List D), (∀ x ∈ ds, Sh.Fits (.agg [.agg [.int .i64, .int .i64, .int .i64], .int .i64, .str, .str, .str, .str]) x) → ∃ l : List Chg, ds = l.map A7 := by
   intro ds
   induction ds with
   | nil => intro _; exact ⟨[], rfl⟩
   | cons d ds ih =>
     intro h; obtain ⟨x, rfl⟩ := fits_chg (h d (by simp)); obtain ⟨l, rfl⟩ := ih (fun y hy => h y (by simp [hy])); exact ⟨x :: l, rfl⟩
 obtain ⟨l, rfl⟩ := key ds hd; exact ⟨l, rfl⟩
theorem c4p {l : List Chg} (h : D.lim 140737488351232 (F9 l)) : l.length ≤ 140737488351232 := by
 simpa [F9, D.lim] using h.1
end Go.Proofs.Tz
namespace Go.Proofs.Tz
open Go.Vw Go.RowKit Go.Proofs Go.Sort
theorem b6j : ∀ (xs ys : List AV) (ks : List Nat) (σ : St) (b : Nat), xs.length = ks.length → C6 σ ks b (xs ++ ys) = C6 (C6 σ ks b xs) [] b ys
 | [], ys, [], σ, b, _ => by cases ys <;> rfl
 | x :: xs, ys, k :: ks, σ, b, h => by
   show C6 (put σ k x) ks b (xs ++ ys) = C6 (C6 (put σ k x) ks b xs) [] b ys
   exact b6j xs ys ks _ b (by simpa using h)
theorem c5A (c : Chg) : a1q (A7 c) = true := rfl
theorem a2B {α : Type} (f : α → D) (h : ∀ x, a1q (f x) = true) (l : List α) : S8 (l.map f) = true := by
 rw [a9n]; intro d hd; obtain ⟨x, _, rfl⟩ := mem_map.1 hd; exact h x
theorem c5Q (s r m : Nat) (R : List Chg) (E : List Q3) : ∀ x ∈ stH s r m R E, a7C x = true := by
 intro x hx; simp only [stH, R8, mem_append, mem_flatMap, mem_cons, not_mem_nil, or_false] at hx; rcases hx with (rfl | rfl | rfl) | ⟨e, _, hx⟩
 · rfl
 · simp only [a7C, P6, map_map, Bool.and_eq_true]; exact ⟨a2B _ c5A R, a2B _ (fun _ => rfl) R⟩
 · simp only [a7C, P0, map_map, Bool.and_eq_true]; exact ⟨a2B _ (fun _ => rfl) E, a2B _ (fun _ => rfl) E⟩
 · simp only [a1r, mem_cons, not_mem_nil, or_false] at hx; rcases hx with rfl | rfl
   · rfl
   · simp only [a7C, vsM, map_map, Bool.and_eq_true]; exact ⟨a2B _ (fun _ => rfl) e.2.1.vs, a2B _ (fun _ => rfl) e.2.1.vs⟩
theorem c2I {σ : St} {d : Nat} {K : St → Prop} (B s B2 : Nat) (hB : 1000000 ≤ B) (hBB : B + 1000000 ≤ B2) (hd : d < 1000000) {R : List Chg} (hF : StF σ B s R)
   (hk : ∀ u τ, StF τ B s R → StF τ B2 u R → τ d = .d (.raw (va u)) → Oth σ τ d → (∀ B3 s3 R3, StF σ B3 s3 R3 → 1000000 ≤ B3 → (B3 + 1000000 ≤ B ∨ B + 1000000 ≤ B3) → (B3 + 1000000 ≤ B2 ∨ B2 + 1000000 ≤ B3) → StF τ B3 s3 R3) → K τ) : a2T prog 34 [.d (.raw (va s))] σ d K := by
 obtain ⟨hR, r, m, E, hE, hFam⟩ := hF; have hlen := hFam.2.1; have hc : F5 prog 34 [.d (.raw (va s))] (stH s r m R E) (fun x hs' => ∃ hs2, hs' = stH s r m R E ++ hs2 ∧ ∃ s r m E, x = .d (.raw (va s)) ∧ U5 E = N9 R ∧ hs2 = stH s r m R E) := by
   refine F5.lendN (ds := [.raw (va s)]) (enters_of func34 (by kernel_rfl) rfl) (fun w L hr => ?_) (fun x hs2 hp => ?_)
   · obtain ⟨x, hx, hln⟩ := a6O (s := s) (r := r) (m := m) hr hE (fun x hx => hx); exact ⟨[x], .cons hln .nil, c4j R hR x hx⟩
   · obtain ⟨s, r, m, E, rfl, _, rfl⟩ := hp; exact ⟨rfl, c5Q _ _ _ _ _⟩
 refine ⟨K0 B (stH s r m R E).length, B2, _, hFam.isH, a0Z _ _, by rw [hFam.map]; exact hc, fun x hs' hp => ?_⟩; obtain ⟨hs2, rfl, u, r2, m2, E2, rfl, hE2, rfl⟩ := hp; have hlen2 := b0Q hR hE2 (s := u) (r := r2) (m := m2); rw [b6j _ _ _ _ _ (by simp [K0])]; generalize hhs : stH s r m R E = hs at *; generalize hhs2 : stH u r2 m2 R E2 = hs2 at *; have hH2 : ∀ x ∈ hs2, isH x = true := fun x hx => by rw [← hhs2] at hx; exact all_eq_true.1 (a6q _ _ _ _ _) x hx
 have hL : ∀ k ∈ U7 [] B2 hs2.length, B2 ≤ k ∧ k < B2 + hs2.length := fun k hk => by
   rcases a2t _ _ _ _ hk with h | h
   · simp at h
   · exact h
 have hS : ∀ i, i ∉ K0 B hs.length → C6 (put (B9 σ (K0 B hs.length)) d (.d (.raw (va u)))) (K0 B hs.length) B2 hs i = F3 (K0 B hs.length) (put (B9 σ (K0 B hs.length)) d (.d (.raw (va u))) i) := fun i hi => by
   have e : U7 (K0 B hs.length) B2 hs.length = K0 B hs.length := by
     have := a0R (K0 B hs.length) B2; simpa [K0] using this
   have := W2 hs (K0 B hs.length) (put (B9 σ (K0 B hs.length)) d (.d (.raw (va u)))) B2 i (by rw [e]; exact hi); rw [e] at this; exact this
 have hself : ∀ i (h : i < hs.length), C6 (put (B9 σ (K0 B hs.length)) d (.d (.raw (va u)))) (K0 B hs.length) B2 hs (B + i) = hs[i] := fun i hi => by
   have hk' : B + i ∈ K0 B hs.length := mem_map.2 ⟨i, by simpa using hi, rfl⟩; have := a9t (K0 B hs.length) σ (put (B9 σ (K0 B hs.length)) d (.d (.raw (va u)))) B2 (a0Z _ _) hFam.isH (B + i) hk'; rw [hFam.map] at this; rw [this]; exact hFam.2.2 i hi
 generalize C6 (put (B9 σ (K0 B hs.length)) d (.d (.raw (va u)))) (K0 B hs.length) B2 hs = σ1 at *; have hput : ∀ i, i ∉ U7 [] B2 hs2.length → C6 σ1 [] B2 hs2 i = F3 (U7 [] B2 hs2.length) (σ1 i) := fun i hi => W2 hs2 [] σ1 B2 i hi
 have hlow : ∀ i, (i < B2 ∨ B2 + 1000000 ≤ i) → i ∉ U7 [] B2 hs2.length := fun i hi hm => by have := hL i hm; omega
 have hF1 : Fam (C6 σ1 [] B2 hs2) B hs := ⟨hFam.1, hFam.2.1, fun i hi => by
   rw [hput _ (hlow _ (by omega)), hself i hi]; exact a0G (all_eq_true.1 hFam.1 _ (gmm hi)) _⟩
 refine hk u _ ⟨hR, r, m, E, hE, by rw [hhs]; exact hF1⟩ ⟨hR, r2, m2, E2, hE2, by rw [hhs2]; exact ⟨all_eq_true.2 hH2, hlen2, fun i hi => a6l hs2 σ1 B2 hH2 i hi⟩⟩ ?_ ⟨K0 B hs.length ++ (K0 B hs.length ++ U7 [] B2 hs2.length), fun j hj => ?_, fun i hi hid => ?_⟩ (fun B3 s3 R3 hF3 hB3 q1 q2 => ?_)
 · rw [hput d (hlow d (by omega)), hS d (a0t hB hd)]; simp only [put, if_true]; rfl
 · have e1 := a0t (n := hs.length) hB hj; have e2 := hlow j (by omega); simp [e1, e2]
 · rw [hput i (hlow i (by omega)), hS i (a0t hB hi)]; simp only [put, if_neg hid]; rw [a3f _ _ _ (a0t hB hi), a3P, a7x, a3P]
 · obtain ⟨hR3, r3, m3, E3, hE3, hF3⟩ := hF3; refine ⟨hR3, r3, m3, E3, hE3, hF3.1, hF3.2.1, fun i hi => ?_⟩; have h4 := hF3.2.1; have hH3 := all_eq_true.1 hF3.1 _ (gmm hi); have n1 := a4r (B := B) (B2 := B3) (n := hs.length) (i := i) hlen (by omega) q1; rw [hput _ (hlow _ (by omega)), hS _ n1]; simp only [put, if_neg (show ¬ B3 + i = d by omega)]; rw [a3f _ _ _ n1, hF3.2.2 i hi]; simp only [a2c hH3, a0G hH3]
def emH (e : Nat) : AV := .hb (va e) 65 (.agg [.raw (.map none), .raw (.map none)])
@[simp] theorem d4P (d e : Nat) : E0 d (emH e) = emH e := rfl
theorem emL {f : FuncId} {ds : List D} {res : AV} (e : Nat) (hE : Enters prog f) (h : Ctr prog f (.d a2g :: ds.map .d) res) (hm : T6 res = true) : F5 prog f (.d (.raw (va e)) :: ds.map .d) [emH e] (fun r hs' => r = res ∧ hs' = [emH e]) :=
 F5.lendL (ds := .raw (va e) :: ds) hE (fun w L hr => ⟨a2g :: ds, .cons (.box (u := va e) (e := 65) (by simp [emH]) (.same _)) (a4I ds), h⟩) hm
theorem Oth.un {σ τ : St} {d i : Nat} (h : Oth σ τ d) (hi : i < 1000000) (hid : i ≠ d) (hy : σ i = .undef) : τ i = .undef := by
 obtain ⟨ks, _, h2⟩ := h; rw [h2 i hi hid, hy]; rfl
theorem Oth.nm {σ τ : St} {d i e : Nat} (h : Oth σ τ d) (hi : i < 1000000) (hid : i ≠ d) (hy : σ i = emH e) : τ i = emH e := by
 obtain ⟨ks, _, h2⟩ := h; rw [h2 i hi hid, hy]; rfl
theorem I2 {P : Program} {F : Nat → Bool} {ops : Array Oper} {K : St → Prop} {t : OT} {σ : St} (J : St → Prop) (s : OT) (hk : ∀ σ, J σ → aT P F ops K s σ) (h : (∀ σ, J σ → aT P F ops K s σ) → aT P F ops K t σ) : aT P F ops K t σ := h hk
def a4f : OT := .leaf
def a5a : OT := .node [(26, a4f)]
def a5c : OT := .node [(25, a5a)]
def a2G : OT := .node [(24, a5c)]
def a5h : OT := .node [(22, a2G)]
def a5U : OT := .node [(23, a2G)]
def a5Y : OT := .node [(22, a5U), (23, a5h)]
def a6i : OT := .node [(21, a5Y)]
def a5P : OT := .node [(20, a6i)]
def a7q : OT := .node [(19, a5P)]
def a4p : OT := .node [(18, a7q)]
def a6D : OT := .node [(16, a4p)]
def a6E : OT := .node [(17, a4p)]
def a9s : OT := .node [(16, a6E), (17, a6D)]
def a8T : OT := .node [(15, a9s)]
def a9l : OT := .node [(14, a8T)]
def b0R : OT := .node [(13, a9l)]
def b0P : OT := .node [(12, b0R)]
def b0Y : OT := .node [(11, b0P)]
def b1f : OT := .node [(10, b0Y)]
def b2I : OT := .node [(9, b1f)]
def b2M : OT := .node [(8, b2I)]
def b3l : OT := .node [(7, b2M)]
def CnI (l : List Chg) (c : Chg) (s t : Nat) (k : Nat) (τ : St) : Prop := τ 0 = .d (F9 l) ∧ τ 3 = .box (A7 c) ∧ τ 5 = .d (.raw (va s)) ∧ τ 6 = .d (.raw (va t)) ∧ τ 7 = .d (.int .i64 k) ∧ τ 500 = .undef ∧ StF τ 1000000 s (ofR [] (l.take k)) ∧ StF τ 3000000 t (ofR [] (l.take k))
theorem c1G (l : List Chg) (c : Chg) (hl : l.length ≤ 140737488351232) : Ctr prog 7 [.d (F9 l), .d (A7 c)] (.d (.bool true)) := by
 have a1 := c4K; have s1 := b5c l hl; have s2 := b5c [c] (by simp); have ec : A7 c = .agg [B8 c.1, .int .i64 (opC c), .str (idC c), .str c.2.2.2.1, .str c.2.2.2.2.1, .str c.2.2.2.2.2] := rfl; simp only [F9, map_cons, map_nil] at s1 s2; refine b8E (fun i => i == 16000020 || i == 1000080 || i == 5000105 || i == 5000119 || i == 5000133 || i == 5000141 || i == 5000025 || i == 5000026 || i == 5000044 || i == 5000050 || i == 5000052 || i == 5000060 || i == 5000065 || i == 5000074 || i == 5000078 || i == 5000089) (by kernel_rfl) func7 (by kernel_rfl) rfl rfl (nbl rfl) (by kernel_rfl) rfl rfl ?_; rcases Classical.em (a2O l = true) with q1 | q1
 case inr =>
   have q1' : a2O l = false := (by simpa using q1); rw [q1'] at s1; simp -implicitDefEqProofs [F9, ec, A1]; refine A3 s1 ?_; simp -implicitDefEqProofs [F9, ec, A1]; refine A3 a1 ?_; simp -implicitDefEqProofs [F9, ec, A1]
 rw [q1] at s1; obtain ⟨hl14, hfl⟩ := b4A q1; rcases Classical.em (a2O [c] = true) with q2 | q2
 case inr =>
   have q2' : a2O [c] = false := (by simpa using q2); rw [q2'] at s2; rw [ec] at s2; simp -implicitDefEqProofs [F9, ec, A1]; refine A3 s1 ?_; simp -implicitDefEqProofs [F9, ec, A1]; refine A3 s2 ?_; simp -implicitDefEqProofs [F9, ec, A1]; refine A3 a1 ?_; simp -implicitDefEqProofs [F9, ec, A1]
 rw [q2] at s2; have hfc : S6 c := (b4A q2).2 c (by simp); rw [ec] at s2; simp -implicitDefEqProofs [F9, ec, A1]; refine A3 s1 ?_; simp -implicitDefEqProofs [F9, ec, A1]; refine A3 s2 ?_; simp -implicitDefEqProofs [F9, ec, A1]; refine b9Z 1000000 (Nat.le_refl _) (by omega) (fun s τ1 hF1 f1 o1 p1 => ?_); have t10 : τ1 0 = .d (F9 l) := o1.dd (by omega) (by omega) (by simp [F9]); have t13 : τ1 3 = .box (A7 c) := o1.bx (by omega) (by omega) (by simp [ec]); have t1z : τ1 500 = .undef := o1.un (by omega) (by omega) (by simp [a1N]); simp -implicitDefEqProofs [f1, t10, t13, ec, A1]; refine b9Z 3000000 (by omega) (by omega) (fun t τ2 hG2 f2 o2 p2 => ?_); have t20 : τ2 0 = .d (F9 l) := o2.dd (by omega) (by omega) (by simp [t10]); have t23 : τ2 3 = .box (A7 c) := o2.bx (by omega) (by omega) (by simp [t13]); have t2z : τ2 500 = .undef := o2.un (by omega) (by omega) (by simp [t1z]); have t225 : τ2 25 = .d (.raw (va s)) := o2.dd (by omega) (by omega) (by simp [f1]); have hF2 : StF τ2 1000000 s [] := p2.st hF1 (Nat.le_refl _) (by omega); simp -implicitDefEqProofs [f2, t20, t23, t225, ec, A1]; refine H4 l.length (CnI l c s t) ⟨by simp [t20], by simp [t23], by simp, by simp, by simp, by simp [t2z], (by repeat first | exact hF2 | apply StF.put | apply StF.setv | apply StF.clean | omega), (by repeat first | exact hG2 | apply StF.put | apply StF.setv | apply StF.clean | omega)⟩ ?_; clear f1 f2 t10 t13 t20 t23 t225 t1z t2z o1 o2 p1 p2 hF1 hF2 hG2 s1 s2; rintro k τ hk ⟨h0, h3, h5, h6, h7, hz, hF, hG⟩; rcases Nat.lt_or_ge k l.length with hlt | hlt
 · have hlt' : (k : Int) < l.length := (by omega); obtain ⟨x, hx⟩ : ∃ x, l[k] = x := ⟨_, rfl⟩; have hfx : S6 x := by rw [← hx]; exact hfl _ (gmm _)
   have ex : A7 x = .agg [B8 x.1, .int .i64 (opC x), .str (idC x), .str x.2.2.2.1, .str x.2.2.2.2.1, .str x.2.2.2.2.2] := rfl; have hR2 : ofR [] (l.take (k + 1)) = N6 (ofR [] (l.take k)) x := by rw [G9 hlt, hx]; simp [ofR]
   simp -implicitDefEqProofs [h0, h3, h5, h6, h7, hlt, hlt', F9, hx, ex, A1]; rw [← ex]; refine a8j (R := ofR [] (l.take k)) 1000000 s (by omega) (by omega) (by repeat first | exact hF | apply StF.put | apply StF.setv | apply StF.clean | omega) hfx (fun τ3 hF3 f3 o3 p3 => ?_); rw [← hR2] at hF3; have u0 : τ3 0 = .d (F9 l) := o3.dd (by omega) (by omega) (by simp [h0]); have u3 : τ3 3 = .box (A7 c) := o3.bx (by omega) (by omega) (by simp [h3]); have u5 : τ3 5 = .d (.raw (va s)) := o3.dd (by omega) (by omega) (by simp [h5]); have u6 : τ3 6 = .d (.raw (va t)) := o3.dd (by omega) (by omega) (by simp [h6]); have u7 : τ3 7 = .d (.int .i64 k) := o3.dd (by omega) (by omega) (by simp [h7]); have uz : τ3 500 = .undef := o3.un (by omega) (by omega) (by simp [hz]); have hG3 : StF τ3 3000000 t (ofR [] (l.take k)) := p3.st (by repeat first | exact hG | apply StF.put | apply StF.setv | apply StF.clean | omega) (by omega) (by omega); simp -implicitDefEqProofs [u0, u3, u5, u6, u7, hlt, hlt', F9, hx, ex, A1]; rw [← ex]; refine a8j (R := ofR [] (l.take k)) 3000000 t (by omega) (by omega) (by repeat first | exact hG3 | apply StF.put | apply StF.setv | apply StF.clean | omega) hfx (fun τ4 hG4 f4 o4 p4 => ?_); rw [← hR2] at hG4; have v0 : τ4 0 = .d (F9 l) := o4.dd (by omega) (by omega) (by simp [u0]); have v3 : τ4 3 = .box (A7 c) := o4.bx (by omega) (by omega) (by simp [u3]); have v5 : τ4 5 = .d (.raw (va s)) := o4.dd (by omega) (by omega) (by simp [u5]); have v6 : τ4 6 = .d (.raw (va t)) := o4.dd (by omega) (by omega) (by simp [u6]); have v7 : τ4 7 = .d (.int .i64 k) := o4.dd (by omega) (by omega) (by simp [u7]); have vz : τ4 500 = .undef := o4.un (by omega) (by omega) (by simp [uz]); have hF4 : StF τ4 1000000 s (ofR [] (l.take (k + 1))) := p4.st (by repeat first | exact hF3 | apply StF.put | apply StF.setv | apply StF.clean | omega) (by omega) (by omega); simp -implicitDefEqProofs [v0, v3, v5, v6, v7]; exact ⟨by omega, F0 hlt ⟨by simp [v0], by simp [v3], by simp [v5], by simp [v6], by simp, by simp [vz], (by repeat first | exact hF4 | apply StF.put | apply StF.setv | apply StF.clean | omega), (by repeat first | exact hG4 | apply StF.put | apply StF.setv | apply StF.clean | omega)⟩⟩
 have hlt' : ¬ (k : Int) < l.length := (by omega); have hlt'' : ¬ k < l.length := (by omega); rw [ttl hlt] at hF hG; have hR14 := (c2O (R := []) (l := l) (by simp; omega)).2; generalize ofR [] l = R at *; have hGS := a5p hF.1; have hSS : b4M R R := b6s hF.1.ok fun _ => Iff.rfl
 have c20 := c6T l (by omega); have hX : (l.map idC).length < 1000000 := by simp; omega
 have hst : C7 (l.map idC) = .sl (l.map (D.str ∘ idC)) := (by simp [C7]); have hal1 := fun x y (hx : StD R x) (hy : StD R y) => b0B R R x y hx hy hGS hGS hSS (l.map idC) hX
 rw [hst] at hal1; have hX2 : (l.map idC ++ [idC c]).length < 1000000 := by simp; omega
 have hst2 : C7 (l.map idC ++ [idC c]) = .sl (l.map (D.str ∘ idC) ++ [.str (idC c)]) := (by simp [C7]); have hal2 := fun x y (hx : StD R x) (hy : StD R y) => b0B R R x y hx hy hGS hGS hSS (l.map idC ++ [idC c]) hX2
 rw [hst2] at hal2; simp only [F9] at c20; simp -implicitDefEqProofs [h0, h3, h5, h6, h7, hlt', hlt'', F9, ec, A1]; refine c2I (R := R) 1000000 s 5000000 (by omega) (by omega) (by omega) (by repeat first | exact hF | apply StF.put | apply StF.setv | apply StF.clean | omega) (fun u τ2 hF2 hU2 f2 o2 p2 => ?_); have t0 : τ2 0 = .d (F9 l) := o2.dd (by omega) (by omega) (by simp [h0, F9]); have t3 : τ2 3 = .box (A7 c) := o2.bx (by omega) (by omega) (by simp [h3, ec]); have t5 : τ2 5 = .d (.raw (va s)) := o2.dd (by omega) (by omega) (by simp [h5]); have t6 : τ2 6 = .d (.raw (va t)) := o2.dd (by omega) (by omega) (by simp [h6]); have tz : τ2 500 = .undef := o2.un (by omega) (by omega) (by simp [hz]); have hG2 : StF τ2 3000000 t R := p2 _ _ _ (by repeat first | exact hG | apply StF.put | apply StF.setv | apply StF.clean | omega) (by omega) (by omega) (by omega); simp -implicitDefEqProofs [f2, t0, t3, t5, t6, F9, ec, A1]; refine A3 c20 ?_; simp -implicitDefEqProofs [f2, t0, t3, t5, t6, F9, ec, A1]; refine b1b (ds := [.sl (l.map (D.str ∘ idC))]) (res := .d (.bool true)) (d := 60) 1000000 s 5000000 u (by omega) (by omega) (by omega) (by omega) (by repeat first | exact hF2 | apply StF.put | apply StF.setv | apply StF.clean | omega) (by repeat first | exact hU2 | apply StF.put | apply StF.setv | apply StF.clean | omega) (enters_of func22 (by kernel_rfl) rfl) hal1 rfl (fun τ3 hF3 hU3 f3 o3 p3 => ?_); have u0 : τ3 0 = .d (F9 l) := o3.dd (by omega) (by omega) (by simp [t0, F9]); have u3 : τ3 3 = .box (A7 c) := o3.bx (by omega) (by omega) (by simp [t3, ec]); have u5 : τ3 5 = .d (.raw (va s)) := o3.dd (by omega) (by omega) (by simp [t5]); have u6 : τ3 6 = .d (.raw (va t)) := o3.dd (by omega) (by omega) (by simp [t6]); have uz : τ3 500 = .undef := o3.un (by omega) (by omega) (by simp [tz]); have u8 : τ3 8 = .d (.raw (va u)) := o3.dd (by omega) (by omega) (by simp [t6]); have u55 : τ3 55 = .d (.bool false) := o3.dd (by omega) (by omega) (by simp [t6]); have hG3 : StF τ3 3000000 t R := p3 _ _ _ (by repeat first | exact hG2 | apply StF.put | apply StF.setv | apply StF.clean | omega) (by omega) (by omega) (by omega); simp -implicitDefEqProofs [f3, u0, u3, u5, u6, u8, u55, ec, A1]; rw [← ec]; refine a8j (R := R) 5000000 u (by omega) (by omega) (by repeat first | exact hU3 | apply StF.put | apply StF.setv | apply StF.clean | omega) hfc (fun τ4 hU4 f4 o4 p4 => ?_); have v0 : τ4 0 = .d (F9 l) := o4.dd (by omega) (by omega) (by simp [u0]); have v3 : τ4 3 = .box (A7 c) := o4.bx (by omega) (by omega) (by simp [u3]); have v5 : τ4 5 = .d (.raw (va s)) := o4.dd (by omega) (by omega) (by simp [u5]); have v6 : τ4 6 = .d (.raw (va t)) := o4.dd (by omega) (by omega) (by simp [u6]); have vz : τ4 500 = .undef := o4.un (by omega) (by omega) (by simp [uz]); have v8 : τ4 8 = .d (.raw (va u)) := o4.dd (by omega) (by omega) (by simp [u8]); have hF4 : StF τ4 1000000 s R := p4.st (by repeat first | exact hF3 | apply StF.put | apply StF.setv | apply StF.clean | omega) (by omega) (by omega); have hG4 : StF τ4 3000000 t R := p4.st (by repeat first | exact hG3 | apply StF.put | apply StF.setv | apply StF.clean | omega) (by omega) (by omega); simp -implicitDefEqProofs [v0, v3, v5, v6, v8, F9, ec, A1]; refine E4 c20 ?_; simp -implicitDefEqProofs [v0, v3, v5, v6, v8, F9, ec, A1]; refine ⟨by omega, by omega, ?_⟩; refine b1b (ds := [.sl (l.map (D.str ∘ idC) ++ [.str (idC c)])]) (res := .d (.bool true)) (d := 74) 1000000 s 3000000 t (by omega) (by omega) (by omega) (by omega) ?_ ?_ (enters_of func22 (by kernel_rfl) rfl) hal2 rfl (fun τ5 hF5 hG5 f5 o5 p5 => ?_)
 · exact (by repeat first | exact hF4 | apply StF.put | apply StF.setv | apply StF.clean | omega)
 · exact (by repeat first | exact hG4 | apply StF.put | apply StF.setv | apply StF.clean | omega)
 have w0 : τ5 0 = .d (F9 l) := o5.dd (by omega) (by omega) (by simp [v0, F9]); have w3 : τ5 3 = .box (A7 c) := o5.bx (by omega) (by omega) (by simp [v3, ec]); have w5 : τ5 5 = .d (.raw (va s)) := o5.dd (by omega) (by omega) (by simp [v5]); have wz : τ5 500 = .undef := o5.un (by omega) (by omega) (by simp [vz]); have w8 : τ5 8 = .d (.raw (va u)) := o5.dd (by omega) (by omega) (by simp [v8]); have hU5 : StF τ5 5000000 u (N6 R c) := p5 _ _ _ (by repeat first | exact hU4 | apply StF.put | apply StF.setv | apply StF.clean | omega) (by omega) (by omega) (by omega); simp -implicitDefEqProofs [f5, w0, w3, w5, w8, ec, A1]; rw [← ec]; refine a8j (R := R) 1000000 s (by omega) (by omega) (by repeat first | exact hF5 | apply StF.put | apply StF.setv | apply StF.clean | omega) hfc (fun τ6 hF6 f6 o6 p6 => ?_); have x0 : τ6 0 = .d (F9 l) := o6.dd (by omega) (by omega) (by simp [w0]); have x3 : τ6 3 = .box (A7 c) := o6.bx (by omega) (by omega) (by simp [w3]); have x5 : τ6 5 = .d (.raw (va s)) := o6.dd (by omega) (by omega) (by simp [w5]); have xz : τ6 500 = .undef := o6.un (by omega) (by omega) (by simp [wz]); have x8 : τ6 8 = .d (.raw (va u)) := o6.dd (by omega) (by omega) (by simp [w8]); have hU6 : StF τ6 5000000 u (N6 R c) := p6.st (by repeat first | exact hU5 | apply StF.put | apply StF.setv | apply StF.clean | omega) (by omega) (by omega); generalize N6 R c = R2 at *; have hGS2 := a5p hF6.1; have hSS2 : b4M R2 R2 := b6s hF6.1.ok fun _ => Iff.rfl
 have hal3 := fun x y (hx : StD R2 x) (hy : StD R2 y) => b0B R2 R2 x y hx hy hGS2 hGS2 hSS2 (l.map idC ++ [idC c]) hX2
 rw [hst2] at hal3; simp -implicitDefEqProofs [x0, x3, x5, x8, F9, ec, A1]; refine ⟨500, by simp [xz], fun em => ?_⟩; simp -implicitDefEqProofs [x0, x3, x5, x8, F9, ec, A1]; have ap0 := c1r c; have apE := c2k c; rw [ec] at ap0; have apG := emL (ds := [A7 c]) em (enters_of func13 (by kernel_rfl) rfl) apE rfl; have enG := emL (ds := [.str (idC c)]) em (enters_of func21 (by kernel_rfl) rfl) (c1K (idC c)) (a8F _ _ _); have esG := emL (ds := []) em (enters_of func30 (by kernel_rfl) rfl) c4w rfl; have coG := emL (ds := []) em (enters_of func28 (by kernel_rfl) rfl) c2Z rfl; simp only [map_cons, map_nil, ec] at apG enG esG coG; refine d3t b3l 7 [81, 82, 83, 84, 85, 86, 87] (by kernel_rfl) (by kernel_rfl) (by kernel_rfl) ?_; simp -implicitDefEqProofs [x0, x3, x5, x8, F9, ec, A1]; refine E4 c20 ?_; simp -implicitDefEqProofs [x0, x3, x5, x8, F9, ec, A1]; refine I2 (fun σ => σ 3 = .box (A7 c) ∧ σ 9 = .d .nilp ∧ σ 10 = .d (.raw (va em)) ∧ σ 500 = emH em ∧ σ 107 = .d (.bool false)) a4f ?_ fun k_134217727 => ?_
 · rintro σ ⟨h3, h9, h10, h500, h107⟩; simp only [a4f, aT]; simp -implicitDefEqProofs [h3, h9, h10, h500, h107, W5, G5, ec, A1]; refine A3 (c3J (nmC c)) ?_; simp -implicitDefEqProofs [h3, h9, h10, h500, h107, W5, G5, ec, A1]; refine K4 [500] 1000000 enG (by simp [h3, h9, h10, h500, h107]) rfl (by simp) ?_; rintro r hs' ⟨rfl, rfl⟩; simp -implicitDefEqProofs [C6, B9, h3, h9, h10, h500, h107, W5, G5, ec, A1]; refine A3 c3u ?_; simp -implicitDefEqProofs [C6, B9, h3, h9, h10, h500, h107, W5, G5, ec, A1]; refine K4 [500] 1000000 esG (by simp [h3, h9, h10, h500, h107]) rfl (by simp) ?_; rintro r hs' ⟨rfl, rfl⟩; simp -implicitDefEqProofs [C6, B9, h3, h9, h10, h500, h107, W5, G5, ec, A1]; refine A3 c3X ?_; simp -implicitDefEqProofs [C6, B9, h3, h9, h10, h500, h107, W5, G5, ec, A1]; refine K4 [500] 1000000 coG (by simp [h3, h9, h10, h500, h107]) rfl (by simp) ?_; rintro r hs' ⟨rfl, rfl⟩; simp -implicitDefEqProofs [C6, B9, h3, h9, h10, h500, h107, W5, G5, ec, A1]; refine A3 a1 ?_; simp -implicitDefEqProofs [C6, B9, h3, h9, h10, h500, h107, W5, G5, ec, A1]
 refine I2 (fun σ => σ 3 = .box (A7 c) ∧ σ 9 = .d .nilp ∧ σ 10 = .d (.raw (va em)) ∧ σ 500 = emH em ∧ σ 102 = .d (.bool false) ∧ σ 106 = .d (.bool false)) a5a ?_ fun k_67108863 => ?_
 · rintro σ ⟨h3, h9, h10, h500, h102, h106⟩; simp only [a5a, aT, aTL, and_true]; simp -implicitDefEqProofs [h3, h9, h10, h500, h102, h106, ec, A1]; exact k_134217727 _ ⟨by simp [h3, h9, h10, h500, h102, h106, ec], by simp [h3, h9, h10, h500, h102, h106, ec], by simp [h3, h9, h10, h500, h102, h106, ec], by simp [h3, h9, h10, h500, h102, h106, ec], by simp [h3, h9, h10, h500, h102, h106, ec]⟩
 refine I2 (fun σ => σ 3 = .box (A7 c) ∧ σ 9 = .d .nilp ∧ σ 10 = .d (.raw (va em)) ∧ σ 500 = emH em ∧ σ 102 = .d (.bool false) ∧ σ 105 = .d (.int .i64 1)) a5c ?_ fun k_33554431 => ?_
 · rintro σ ⟨h3, h9, h10, h500, h102, h105⟩; simp only [a5c, aT, aTL, and_true]; simp -implicitDefEqProofs [h3, h9, h10, h500, h102, h105, ec, A1]; exact k_67108863 _ ⟨by simp [h3, h9, h10, h500, h102, h105, ec], by simp [h3, h9, h10, h500, h102, h105, ec], by simp [h3, h9, h10, h500, h102, h105, ec], by simp [h3, h9, h10, h500, h102, h105, ec], by simp [h3, h9, h10, h500, h102, h105, ec], by simp [h3, h9, h10, h500, h102, h105, ec]⟩
 refine I2 (fun σ => σ 3 = .box (A7 c) ∧ σ 9 = .d .nilp ∧ σ 10 = .d (.raw (va em)) ∧ σ 500 = emH em ∧ σ 102 = .d (.bool false) ∧ σ 103 = .d (.raw (va em)) ∧ σ 104 = .d (A7 c)) a2G ?_ fun k_16777215 => ?_
 · rintro σ ⟨h3, h9, h10, h500, h102, h103, h104⟩; simp only [a2G, aT, aTL, and_true]; simp -implicitDefEqProofs [h3, h9, h10, h500, h102, h103, h104, ec, A1]; refine K4 [500] 1000000 apG (by simp [h3, h9, h10, h500, h102, h103, h104]) rfl (by simp) ?_; rintro r hs' ⟨rfl, rfl⟩; simp -implicitDefEqProofs [C6, B9, h3, h9, h10, h500, h102, h103, h104, ec, A1]; exact k_33554431 _ ⟨by simp [h3, h9, h10, h500, h102, h103, h104, ec], by simp [h3, h9, h10, h500, h102, h103, h104, ec], by simp [h3, h9, h10, h500, h102, h103, h104, ec], by simp [h3, h9, h10, h500, h102, h103, h104, ec], by simp [h3, h9, h10, h500, h102, h103, h104, ec], by simp [h3, h9, h10, h500, h102, h103, h104, ec]⟩
 refine I2 (fun σ => σ 3 = .box (A7 c) ∧ σ 9 = .d .nilp ∧ σ 10 = .d (.raw (va em)) ∧ σ 500 = emH em ∧ σ 102 = .d (.bool false) ∧ σ 103 = .d (.raw (va em))) a5U ?_ fun k_8388607 => ?_
 · rintro σ ⟨h3, h9, h10, h500, h102, h103⟩; simp only [a5U, aT, aTL, and_true]; simp -implicitDefEqProofs [h3, h9, h10, h500, h102, h103, ec, A1]; exact k_16777215 _ ⟨by simp [h3, h9, h10, h500, h102, h103, ec], by simp [h3, h9, h10, h500, h102, h103, ec], by simp [h3, h9, h10, h500, h102, h103, ec], by simp [h3, h9, h10, h500, h102, h103, ec], by simp [h3, h9, h10, h500, h102, h103, ec], by simp [h3, h9, h10, h500, h102, h103, ec], by simp [h3, h9, h10, h500, h102, h103, ec]⟩
 refine I2 (fun σ => σ 3 = .box (A7 c) ∧ σ 9 = .d .nilp ∧ σ 10 = .d (.raw (va em)) ∧ σ 500 = emH em ∧ σ 102 = .d (.bool false) ∧ σ 104 = .d (A7 c)) a5h ?_ fun k_12582911 => ?_
 · rintro σ ⟨h3, h9, h10, h500, h102, h104⟩; simp only [a5h, aT, aTL, and_true]; simp -implicitDefEqProofs [h3, h9, h10, h500, h102, h104, ec, A1]; exact k_16777215 _ ⟨by simp [h3, h9, h10, h500, h102, h104, ec], by simp [h3, h9, h10, h500, h102, h104, ec], by simp [h3, h9, h10, h500, h102, h104, ec], by simp [h3, h9, h10, h500, h102, h104, ec], by simp [h3, h9, h10, h500, h102, h104, ec], by simp [h3, h9, h10, h500, h102, h104, ec], by simp [h3, h9, h10, h500, h102, h104, ec]⟩
 refine I2 (fun σ => σ 3 = .box (A7 c) ∧ σ 9 = .d .nilp ∧ σ 10 = .d (.raw (va em)) ∧ σ 500 = emH em ∧ σ 102 = .d (.bool false)) a5Y ?_ fun k_4194303 => ?_
 · rintro σ ⟨h3, h9, h10, h500, h102⟩; simp only [a5Y, aT, aTL, and_true]; refine ⟨?_, ?_⟩
   · simp -implicitDefEqProofs [h3, h9, h10, h500, h102, ec, A1]; exact k_8388607 _ ⟨by simp [h3, h9, h10, h500, h102, ec], by simp [h3, h9, h10, h500, h102, ec], by simp [h3, h9, h10, h500, h102, ec], by simp [h3, h9, h10, h500, h102, ec], by simp [h3, h9, h10, h500, h102, ec], by simp [h3, h9, h10, h500, h102, ec]⟩
   · simp -implicitDefEqProofs [h3, h9, h10, h500, h102, ec, A1]; exact k_12582911 _ ⟨by simp [h3, h9, h10, h500, h102, ec], by simp [h3, h9, h10, h500, h102, ec], by simp [h3, h9, h10, h500, h102, ec], by simp [h3, h9, h10, h500, h102, ec], by simp [h3, h9, h10, h500, h102, ec], by simp [h3, h9, h10, h500, h102, ec]⟩
 refine I2 (fun σ => σ 3 = .box (A7 c) ∧ σ 9 = .d .nilp ∧ σ 10 = .d (.raw (va em)) ∧ σ 500 = emH em ∧ σ 101 = .d (.bool false)) a6i ?_ fun k_2097151 => ?_
 · rintro σ ⟨h3, h9, h10, h500, h101⟩; simp only [a6i, aT, aTL, and_true]; simp -implicitDefEqProofs [h3, h9, h10, h500, h101, ec, A1]; exact k_4194303 _ ⟨by simp [h3, h9, h10, h500, h101, ec], by simp [h3, h9, h10, h500, h101, ec], by simp [h3, h9, h10, h500, h101, ec], by simp [h3, h9, h10, h500, h101, ec], by simp [h3, h9, h10, h500, h101, ec]⟩
 refine I2 (fun σ => σ 3 = .box (A7 c) ∧ σ 9 = .d .nilp ∧ σ 10 = .d (.raw (va em)) ∧ σ 500 = emH em ∧ σ 96 = .d (.bool false) ∧ σ 100 = .d (.bool false)) a5P ?_ fun k_1048575 => ?_
 · rintro σ ⟨h3, h9, h10, h500, h96, h100⟩; simp only [a5P, aT, aTL, and_true]; simp -implicitDefEqProofs [h3, h9, h10, h500, h96, h100, ec, A1]; exact k_2097151 _ ⟨by simp [h3, h9, h10, h500, h96, h100, ec], by simp [h3, h9, h10, h500, h96, h100, ec], by simp [h3, h9, h10, h500, h96, h100, ec], by simp [h3, h9, h10, h500, h96, h100, ec], by simp [h3, h9, h10, h500, h96, h100, ec]⟩
 refine I2 (fun σ => σ 3 = .box (A7 c) ∧ σ 9 = .d .nilp ∧ σ 10 = .d (.raw (va em)) ∧ σ 500 = emH em ∧ σ 96 = .d (.bool false) ∧ σ 99 = .d (.int .i64 1)) a7q ?_ fun k_524287 => ?_
 · rintro σ ⟨h3, h9, h10, h500, h96, h99⟩; simp only [a7q, aT, aTL, and_true]; simp -implicitDefEqProofs [h3, h9, h10, h500, h96, h99, ec, A1]; exact k_1048575 _ ⟨by simp [h3, h9, h10, h500, h96, h99, ec], by simp [h3, h9, h10, h500, h96, h99, ec], by simp [h3, h9, h10, h500, h96, h99, ec], by simp [h3, h9, h10, h500, h96, h99, ec], by simp [h3, h9, h10, h500, h96, h99, ec], by simp [h3, h9, h10, h500, h96, h99, ec]⟩
 refine I2 (fun σ => σ 3 = .box (A7 c) ∧ σ 9 = .d .nilp ∧ σ 10 = .d (.raw (va em)) ∧ σ 500 = emH em ∧ σ 96 = .d (.bool false) ∧ σ 97 = .d .nilp ∧ σ 98 = .d (A7 c)) a4p ?_ fun k_262143 => ?_
 · rintro σ ⟨h3, h9, h10, h500, h96, h97, h98⟩; simp only [a4p, aT, aTL, and_true]; simp -implicitDefEqProofs [h3, h9, h10, h500, h96, h97, h98, ec, A1]; refine A3 ap0 ?_; simp -implicitDefEqProofs [h3, h9, h10, h500, h96, h97, h98, ec, A1]; exact k_524287 _ ⟨by simp [h3, h9, h10, h500, h96, h97, h98, ec], by simp [h3, h9, h10, h500, h96, h97, h98, ec], by simp [h3, h9, h10, h500, h96, h97, h98, ec], by simp [h3, h9, h10, h500, h96, h97, h98, ec], by simp [h3, h9, h10, h500, h96, h97, h98, ec], by simp [h3, h9, h10, h500, h96, h97, h98, ec]⟩
 refine I2 (fun σ => σ 3 = .box (A7 c) ∧ σ 9 = .d .nilp ∧ σ 10 = .d (.raw (va em)) ∧ σ 500 = emH em ∧ σ 96 = .d (.bool false) ∧ σ 97 = .d .nilp) a6E ?_ fun k_131071 => ?_
 · rintro σ ⟨h3, h9, h10, h500, h96, h97⟩; simp only [a6E, aT, aTL, and_true]; simp -implicitDefEqProofs [h3, h9, h10, h500, h96, h97, ec, A1]; exact k_262143 _ ⟨by simp [h3, h9, h10, h500, h96, h97, ec], by simp [h3, h9, h10, h500, h96, h97, ec], by simp [h3, h9, h10, h500, h96, h97, ec], by simp [h3, h9, h10, h500, h96, h97, ec], by simp [h3, h9, h10, h500, h96, h97, ec], by simp [h3, h9, h10, h500, h96, h97, ec], by simp [h3, h9, h10, h500, h96, h97, ec]⟩
 refine I2 (fun σ => σ 3 = .box (A7 c) ∧ σ 9 = .d .nilp ∧ σ 10 = .d (.raw (va em)) ∧ σ 500 = emH em ∧ σ 96 = .d (.bool false) ∧ σ 98 = .d (A7 c)) a6D ?_ fun k_196607 => ?_
 · rintro σ ⟨h3, h9, h10, h500, h96, h98⟩; simp only [a6D, aT, aTL, and_true]; simp -implicitDefEqProofs [h3, h9, h10, h500, h96, h98, ec, A1]; exact k_262143 _ ⟨by simp [h3, h9, h10, h500, h96, h98, ec], by simp [h3, h9, h10, h500, h96, h98, ec], by simp [h3, h9, h10, h500, h96, h98, ec], by simp [h3, h9, h10, h500, h96, h98, ec], by simp [h3, h9, h10, h500, h96, h98, ec], by simp [h3, h9, h10, h500, h96, h98, ec], by simp [h3, h9, h10, h500, h96, h98, ec]⟩
 refine I2 (fun σ => σ 3 = .box (A7 c) ∧ σ 9 = .d .nilp ∧ σ 10 = .d (.raw (va em)) ∧ σ 500 = emH em ∧ σ 96 = .d (.bool false)) a9s ?_ fun k_65535 => ?_
 · rintro σ ⟨h3, h9, h10, h500, h96⟩; simp only [a9s, aT, aTL, and_true]; refine ⟨?_, ?_⟩
   · simp -implicitDefEqProofs [h3, h9, h10, h500, h96, ec, A1]; exact k_131071 _ ⟨by simp [h3, h9, h10, h500, h96, ec], by simp [h3, h9, h10, h500, h96, ec], by simp [h3, h9, h10, h500, h96, ec], by simp [h3, h9, h10, h500, h96, ec], by simp [h3, h9, h10, h500, h96, ec], by simp [h3, h9, h10, h500, h96, ec]⟩
   · simp -implicitDefEqProofs [h3, h9, h10, h500, h96, ec, A1]; exact k_196607 _ ⟨by simp [h3, h9, h10, h500, h96, ec], by simp [h3, h9, h10, h500, h96, ec], by simp [h3, h9, h10, h500, h96, ec], by simp [h3, h9, h10, h500, h96, ec], by simp [h3, h9, h10, h500, h96, ec], by simp [h3, h9, h10, h500, h96, ec]⟩
 refine I2 (fun σ => σ 3 = .box (A7 c) ∧ σ 9 = .d .nilp ∧ σ 10 = .d (.raw (va em)) ∧ σ 500 = emH em ∧ σ 95 = .d (.bool false)) a8T ?_ fun k_32767 => ?_
 · rintro σ ⟨h3, h9, h10, h500, h95⟩; simp only [a8T, aT, aTL, and_true]; simp -implicitDefEqProofs [h3, h9, h10, h500, h95, ec, A1]; exact k_65535 _ ⟨by simp [h3, h9, h10, h500, h95, ec], by simp [h3, h9, h10, h500, h95, ec], by simp [h3, h9, h10, h500, h95, ec], by simp [h3, h9, h10, h500, h95, ec], by simp [h3, h9, h10, h500, h95, ec]⟩
 refine I2 (fun σ => σ 3 = .box (A7 c) ∧ σ 9 = .d .nilp ∧ σ 10 = .d (.raw (va em)) ∧ σ 500 = emH em ∧ σ 91 = .d (.bool false) ∧ σ 94 = .d (.bool false)) a9l ?_ fun k_16383 => ?_
 · rintro σ ⟨h3, h9, h10, h500, h91, h94⟩; simp only [a9l, aT, aTL, and_true]; simp -implicitDefEqProofs [h3, h9, h10, h500, h91, h94, ec, A1]; exact k_32767 _ ⟨by simp [h3, h9, h10, h500, h91, h94, ec], by simp [h3, h9, h10, h500, h91, h94, ec], by simp [h3, h9, h10, h500, h91, h94, ec], by simp [h3, h9, h10, h500, h91, h94, ec], by simp [h3, h9, h10, h500, h91, h94, ec]⟩
 refine I2 (fun σ => σ 3 = .box (A7 c) ∧ σ 9 = .d .nilp ∧ σ 10 = .d (.raw (va em)) ∧ σ 500 = emH em ∧ σ 91 = .d (.bool false) ∧ σ 93 = .d .nilp) b0R ?_ fun k_8191 => ?_
 · rintro σ ⟨h3, h9, h10, h500, h91, h93⟩; simp only [b0R, aT, aTL, and_true]; simp -implicitDefEqProofs [h3, h9, h10, h500, h91, h93, ec, A1]; exact k_16383 _ ⟨by simp [h3, h9, h10, h500, h91, h93, ec], by simp [h3, h9, h10, h500, h91, h93, ec], by simp [h3, h9, h10, h500, h91, h93, ec], by simp [h3, h9, h10, h500, h91, h93, ec], by simp [h3, h9, h10, h500, h91, h93, ec], by simp [h3, h9, h10, h500, h91, h93, ec]⟩
 refine I2 (fun σ => σ 3 = .box (A7 c) ∧ σ 9 = .d .nilp ∧ σ 10 = .d (.raw (va em)) ∧ σ 500 = emH em ∧ σ 91 = .d (.bool false) ∧ σ 92 = .d .nilp) b0P ?_ fun k_4095 => ?_
 · rintro σ ⟨h3, h9, h10, h500, h91, h92⟩; simp only [b0P, aT, aTL, and_true]; simp -implicitDefEqProofs [h3, h9, h10, h500, h91, h92, ec, A1]; refine A3 c1R ?_; simp -implicitDefEqProofs [h3, h9, h10, h500, h91, h92, ec, A1]; exact k_8191 _ ⟨by simp [h3, h9, h10, h500, h91, h92, ec], by simp [h3, h9, h10, h500, h91, h92, ec], by simp [h3, h9, h10, h500, h91, h92, ec], by simp [h3, h9, h10, h500, h91, h92, ec], by simp [h3, h9, h10, h500, h91, h92, ec], by simp [h3, h9, h10, h500, h91, h92, ec]⟩
 refine I2 (fun σ => σ 3 = .box (A7 c) ∧ σ 9 = .d .nilp ∧ σ 10 = .d (.raw (va em)) ∧ σ 500 = emH em ∧ σ 91 = .d (.bool false)) b0Y ?_ fun k_2047 => ?_
 · rintro σ ⟨h3, h9, h10, h500, h91⟩; simp only [b0Y, aT, aTL, and_true]; simp -implicitDefEqProofs [h3, h9, h10, h500, h91, ec, A1]; exact k_4095 _ ⟨by simp [h3, h9, h10, h500, h91, ec], by simp [h3, h9, h10, h500, h91, ec], by simp [h3, h9, h10, h500, h91, ec], by simp [h3, h9, h10, h500, h91, ec], by simp [h3, h9, h10, h500, h91, ec], by simp [h3, h9, h10, h500, h91, ec]⟩
 refine I2 (fun σ => σ 3 = .box (A7 c) ∧ σ 9 = .d .nilp ∧ σ 10 = .d (.raw (va em)) ∧ σ 500 = emH em ∧ σ 90 = .d (.bool false)) b1f ?_ fun k_1023 => ?_
 · rintro σ ⟨h3, h9, h10, h500, h90⟩; simp only [b1f, aT, aTL, and_true]; simp -implicitDefEqProofs [h3, h9, h10, h500, h90, ec, A1]; exact k_2047 _ ⟨by simp [h3, h9, h10, h500, h90, ec], by simp [h3, h9, h10, h500, h90, ec], by simp [h3, h9, h10, h500, h90, ec], by simp [h3, h9, h10, h500, h90, ec], by simp [h3, h9, h10, h500, h90, ec]⟩
 refine I2 (fun σ => σ 3 = .box (A7 c) ∧ σ 9 = .d .nilp ∧ σ 10 = .d (.raw (va em)) ∧ σ 500 = emH em ∧ σ 89 = .d (.bool true)) b2I ?_ fun k_511 => ?_
 · rintro σ ⟨h3, h9, h10, h500, h89⟩; simp only [b2I, aT, aTL, and_true]; simp -implicitDefEqProofs [h3, h9, h10, h500, h89, ec, A1]; exact k_1023 _ ⟨by simp [h3, h9, h10, h500, h89, ec], by simp [h3, h9, h10, h500, h89, ec], by simp [h3, h9, h10, h500, h89, ec], by simp [h3, h9, h10, h500, h89, ec], by simp [h3, h9, h10, h500, h89, ec]⟩
 refine I2 (fun σ => σ 3 = .box (A7 c) ∧ σ 9 = .d .nilp ∧ σ 10 = .d (.raw (va em)) ∧ σ 500 = emH em ∧ σ 81 = .d (.raw (va s)) ∧ σ 82 = .d (.raw (va u)) ∧ σ 88 = .own false 9 ((l.map (D.str ∘ idC)) ++ [.str (idC c)]) ∧ StF σ 1000000 s R2 ∧ StF σ 5000000 u R2) b2M ?_ fun k_255 => ?_
 · rintro σ ⟨h3, h9, h10, h500, h81, h82, h88, hS, hU⟩; simp only [b2M, aT, aTL, and_true]; simp -implicitDefEqProofs [h3, h9, h10, h500, h81, h82, h88, ec, A1]; refine b1b (ds := [.sl (l.map (D.str ∘ idC) ++ [.str (idC c)])]) (res := .d (.bool true)) (d := 89) 1000000 s 5000000 u (by omega) (by omega) (by omega) (by omega) (by repeat first | exact hS | apply StF.put | apply StF.setv | apply StF.clean | omega) (by repeat first | exact hU | apply StF.put | apply StF.setv | apply StF.clean | omega) (enters_of func22 (by kernel_rfl) rfl) hal3 rfl (fun τ7 _ _ f7 o7 _ => ?_); have y3 : τ7 3 = .box (A7 c) := o7.bx (by omega) (by omega) (by simp [h3, ec]); have y500 : τ7 500 = emH em := o7.nm (by omega) (by omega) (by simp [h500]); have y9 : τ7 9 = .d .nilp := o7.dd (by omega) (by omega) (by simp [h9]); have y10 : τ7 10 = .d (.raw (va em)) := o7.dd (by omega) (by omega) (by simp [h10]); exact k_511 _ ⟨by simp [y3], by simp [y9], by simp [y10], y500, by simp [f7]⟩
 refine I2 (fun σ => σ 3 = .box (A7 c) ∧ σ 9 = .d .nilp ∧ σ 10 = .d (.raw (va em)) ∧ σ 500 = emH em ∧ σ 81 = .d (.raw (va s)) ∧ σ 82 = .d (.raw (va u)) ∧ σ 84 = .own false 9 (l.map (D.str ∘ idC)) ∧ σ 87 = .own false 9 [.str (idC c)] ∧ StF σ 1000000 s R2 ∧ StF σ 5000000 u R2) b3l ?_ fun k_127 => ?_
 · rintro σ ⟨h3, h9, h10, h500, h81, h82, h84, h87, hS, hU⟩; simp only [b3l, aT, aTL, and_true]; simp -implicitDefEqProofs [h3, h9, h10, h500, h81, h82, h84, h87, ec, A1]; refine ⟨by omega, by omega, ?_⟩; exact k_255 _ ⟨by simp [h3, h9, h10, h500, h81, h82, h84, h87, ec], by simp [h3, h9, h10, h500, h81, h82, h84, h87, ec], by simp [h3, h9, h10, h500, h81, h82, h84, h87, ec], by simp [h3, h9, h10, h500, h81, h82, h84, h87, ec], by simp [h3, h9, h10, h500, h81, h82, h84, h87, ec], by simp [h3, h9, h10, h500, h81, h82, h84, h87, ec], by simp [h3, h9, h10, h500, h81, h82, h84, h87, ec], (by repeat first | exact hS | apply StF.put | apply StF.setv | apply StF.clean | omega), (by repeat first | exact hU | apply StF.put | apply StF.setv | apply StF.clean | omega)⟩
 exact k_127 _ ⟨by simp [x3], by simp, by simp, by simp [emH], by simp [F9], by simp [F9], by simp [F9], by simp [F9], (by repeat first | exact hF6 | apply StF.put | apply StF.setv | apply StF.clean | omega), (by repeat first | exact hU6 | apply StF.put | apply StF.setv | apply StF.clean | omega)⟩
theorem MergeClones_ok (l : List Chg) (c : Chg) (hb : D.lims 140737488351232 [F9 l, A7 c]) : Ctr prog 7 [.d (F9 l), .d (A7 c)] (.d (.bool true)) := by
 obtain ⟨h1, _⟩ := hb; exact c1G l c (c4p h1)
end Go.Proofs.Tz