/-
  What the functions that the statements about merged states reach compute, part 4 of 6, for data of bounded size (each theorem states its bound).
-/import Derived.Test.YtnknfnfinhagoaaGreatDoorTt
import Derived.Test.YtnknfnfinhagoaaGreatDoorTr
import Derived.Test.YtnknfnfinhagoaaGreatDoorWo
import Derived.Lib.AppendZeros
import Derived.Test.YtnknfnfinhagoaaGreatDoorTs
import Derived.Test.YtnknfnfinhagoaaGreatDoorWp
open List
open Go.Proofs.Tryz
set_option linter.unusedSimpArgs false
set_option linter.unusedVariables false
set_option maxRecDepth 100000
set_option maxHeartbeats 8000000
namespace Go.Proofs.Tz
open Go.Vw Go.RowKit Go.Proofs
abbrev a0r (a b : Str) : Int := Go.Lib.compareBytes a b
theorem b2s : ∀ (a b : Str), a0r a b = if a < b then -1 else if b < a then 1 else 0
 | [], [] => by simp [a0r, Go.Lib.compareBytes]
 | [], b :: bs => by simp [a0r, Go.Lib.compareBytes]
 | a :: l, [] => by simp [a0r, Go.Lib.compareBytes]
 | a :: l, b :: bs => by
   have ih := b2s l bs; simp only [a0r, Go.Lib.compareBytes] at ih ⊢; simp only [cons_lt_cons_iff]; by_cases h1 : a < b
   · simp [h1]
   · by_cases h2 : b < a
     · have hne : ¬ a = b := by rintro rfl; exact h1 h2
       have hne' : ¬ b = a := fun e => hne e.symm
       simp [h1, h2, hne, hne']
     · have he : a = b := UInt8.le_antisymm (by simpa using h2) (by simpa using h1); subst he; simp [h1, ih]
theorem b3C {a b : Str} : a0r a b = 0 ↔ a = b := by
 rw [b2s]; constructor
 · intro h; by_cases h1 : a < b
   · rw [if_pos h1] at h; simp at h
   · by_cases h2 : b < a
     · rw [if_neg h1, if_pos h2] at h; simp at h
     · rw [List.not_lt] at h1 h2; exact List.le_antisymm h2 h1
 · rintro rfl; rw [if_neg (List.lt_irrefl a), if_neg (List.lt_irrefl a)]
theorem b0m {a b : Str} : a0r a b < 0 ↔ a < b := by
 rw [b2s]; by_cases h1 : a < b
 · simp [h1]
 · by_cases h2 : b < a
   · simp [h1, h2]
   · simp [h1, h2]
set_option maxHeartbeats 1000000 in
theorem b5Q (a b : Str) (w : World) : Calls prog 127 #[.string ⟨a.toArray⟩, .string ⟨b.toArray⟩] w fun e w' => e = .returned (.int .i64 (a0r a b)) ∧ w' = w := by
 go_enter func127, Tryz.ntmps127
 go_wp2
 rw [run_callFunc_extern func182 (by kernel_rfl) (by kernel_rfl) (by kernel_rfl) (e := Extern.BytealgCompare.compare) (by kernel_rfl), Lib.run_compareString]; simp only [Result.andThen]; rw [Oper.upon_value]
 go_wp2
 go_ret
 simp [a0r]
theorem b6X (a b : Str) : Ctr prog 127 [.d (.str a), .d (.str b)] (.d (.int .i64 (a0r a b))) := by
 refine Ctr.same (xs := [.str a, .str b]) (enters_of func127 (by kernel_rfl) rfl) (b5Q a b) (fun w L og vals h => ?_) (fun w L => RepV.int); obtain ⟨v, us, rfl, h1, v2, us2, rfl, h2, h3⟩ := h; obtain rfl : us2 = [] := h3; obtain rfl := RepV.str_inv h1; obtain rfl := RepV.str_inv h2; rfl
theorem a3Z (a b : Str) : Ctr prog 77 [.d (.str a), .d (.str b)] (.d (.int .i64 (a0r a b))) := by
 refine fv (fun _ => false) func77 (by kernel_rfl) rfl rfl rfl rfl rfl ?_; simp -implicitDefEqProofs; refine A3 (b6X a b) ?_; simp -implicitDefEqProofs
def a7J (x y : Chg) : Int := if x = y then 0 else if x.1 ≠ y.1 then H8 x.1 y.1 else a0r (G6 x).1 (G6 y).1
theorem a8w {a b : Csn} : (decide (a.1 = b.1) && (decide (a.2.1 = b.2.1) && decide (a.2.2 = b.2.2))) = decide (a = b) := by
 obtain ⟨a1, a2, a3⟩ := a; obtain ⟨b1, b2, b3⟩ := b; simp [Prod.mk.injEq, Bool.decide_and]
theorem c5D (x y : Chg) (hx : O8 x) (hy : O8 y) : Ctr prog 75 [.d (A6 x), .d (A6 y)] (.d (.int .i64 (a7J x y))) := by
 refine fv (fun _ => false) func75 (by kernel_rfl) rfl rfl rfl rfl rfl ?_; have c1 := b7X x.1 y.1; have c2 := a9e x hx; have c3 := a9e y hy; obtain ⟨R, hR⟩ : ∃ R, a7J x y = R := ⟨_, rfl⟩; rw [hR]; unfold a7J at hR; have c4 := a3Z (G6 x).1 (G6 y).1; by_cases h : x = y
 · rw [if_pos h] at hR; subst h; subst hR; simp -implicitDefEqProofs [A6, B0, K4]; try decide
 rw [if_neg h] at hR; generalize G6 x = A at *; generalize G6 y = B at *; obtain ⟨⟨x1, x2, x3⟩, xo, xi, xn, xa, xv⟩ := x; obtain ⟨⟨y1, y2, y3⟩, yo, yi, yn, ya, yv⟩ := y; obtain ⟨A1, A2⟩ := A; obtain ⟨B1, B2⟩ := B; simp only [A6, B0] at c1 c2 c3 c4; simp only at hR; by_cases hn : ((x1, x2, x3) : Csn) = (y1, y2, y3)
 · rw [if_neg (by simpa using hn)] at hR; subst hR; simp only [Prod.mk.injEq] at hn; obtain ⟨rfl, rfl, rfl⟩ := hn; have hne : ¬ (xo = yo ∧ xi = yi ∧ xn = yn ∧ xa = ya ∧ xv = yv) := by
     rintro ⟨rfl, rfl, rfl, rfl, rfl⟩; exact h rfl
   have hne2 : (decide (xo = yo) && (decide (xi = yi) && (decide (xn = yn) && (decide (xa = ya) && decide (xv = yv))))) = false := by
     simp only [Bool.and_eq_false_iff, decide_eq_false_iff_not]; by_cases q1 : xo = yo <;> by_cases q2 : xi = yi <;> by_cases q3 : xn = yn <;> by_cases q4 : xa = ya <;> by_cases q5 : xv = yv <;> simp [q1, q2, q3, q4, q5] <;> exact hne ⟨q1, q2, q3, q4, q5⟩
   simp -implicitDefEqProofs [A6, B0, K4, hne2]; refine A3 c2 ?_; simp -implicitDefEqProofs; refine A3 c3 ?_; simp -implicitDefEqProofs; refine A3 c4 ?_; simp -implicitDefEqProofs
 · rw [if_pos (by simpa using hn)] at hR; subst hR; have hp := @a8w (x1, x2, x3) (y1, y2, y3); simp only [hn, decide_false] at hp; simp -implicitDefEqProofs [A6, B0, K4, hp]; refine A3 c1 ?_; simp -implicitDefEqProofs
theorem c0m (x y : Chg) : Ctr prog 79 [.d (A6 x), .d (A6 y)] (.d (.bool (decide (x.1 = y.1)))) := by
 refine fv (fun _ => false) func79 (by kernel_rfl) rfl rfl rfl rfl rfl ?_; have hp := @a8w x.1 y.1; obtain ⟨⟨x1, x2, x3⟩, xr⟩ := x; obtain ⟨⟨y1, y2, y3⟩, yr⟩ := y; simp only at hp; by_cases hn : ((x1, x2, x3) : Csn) = (y1, y2, y3)
 · simp only [Prod.mk.injEq] at hn; obtain ⟨rfl, rfl, rfl⟩ := hn; simp -implicitDefEqProofs [A6, B0, K4]; try decide
 · simp only [hn, decide_false] at hp ⊢; simp -implicitDefEqProofs [A6, B0, K4, hp]; try decide
end Go.Proofs.Tz
namespace Go.Proofs.Tz
open Go.Vw Go.RowKit Go.Proofs Go.Sort
abbrev b0A := {c : Chg // O8 c}
instance : Inhabited b0A := ⟨⟨M3, ⟨by simp [M3], by simp [M3], by simp [M3], by simp [M3]⟩⟩⟩
def b8L (c : b0A) : List Value := [.int .i64 c.1.1.1, .int .i64 c.1.1.2.1, .int .i64 c.1.1.2.2, .int .i64 c.1.2.1, .string ⟨c.1.2.2.1.toArray⟩, .string ⟨c.1.2.2.2.1.toArray⟩, .string ⟨c.1.2.2.2.2.1.toArray⟩, .string ⟨c.1.2.2.2.2.2.toArray⟩]
theorem c9y : a9s (fun c : b0A => A6 c.1) b8L 8 where
 agg _ := rfl
 rep w L x cs := by
   simp only [A6, B0, Rep, A5, b8L]; constructor
   · rintro ⟨css, ⟨c1, r1, rfl, ⟨d1, ⟨_, _, rfl, rfl, _, _, rfl, rfl, _, _, rfl, rfl, rfl⟩, rfl⟩, _, _, rfl, rfl, _, _, rfl, rfl, _, _, rfl, rfl, _, _, rfl, rfl, _, _, rfl, rfl, rfl⟩, rfl⟩; rfl
   · rintro rfl; exact ⟨[_, _, _, _, _, _], ⟨_, _, rfl, ⟨[_, _, _], ⟨_, _, rfl, rfl, _, _, rfl, rfl, _, _, rfl, rfl, rfl⟩, rfl⟩, _, _, rfl, rfl, _, _, rfl, rfl, _, _, rfl, rfl, _, _, rfl, rfl, _, _, rfl, rfl, rfl⟩, rfl⟩
 len _ := rfl
 one x v hv := by
   simp only [b8L, mem_cons, not_mem_nil, or_false] at hv; rcases hv with rfl | rfl | rfl | rfl | rfl | rfl | rfl | rfl <;> rfl
def mcf (x y : b0A) : Int := a7J x.1 y.1
theorem a6U {x y : Chg} : a7J x y < 0 ↔ H8 x.1 y.1 < 0 ∨ (x.1 = y.1 ∧ (G6 x).1 < (G6 y).1) := by
 unfold a7J; by_cases h : x = y
 · subst h; rw [if_pos rfl, T6]; simp [List.lt_irrefl]
 · rw [if_neg h]; by_cases hn : x.1 = y.1
   · rw [if_neg (by simpa using hn), b0m, hn, T6]; simp
   · rw [if_pos hn]; simp [hn]
theorem c4K : SWO (ltOf mcf) where
 irrefl x := by
   have := (a6U (x := x.1) (y := x.1)).1; unfold ltOf mcf; simp only [decide_eq_false_iff_not]; intro h; rcases this h with h1 | h1
   · rw [T6] at h1; omega
   · exact List.lt_irrefl _ h1.2
 trans x y z h1 h2 := by
   unfold ltOf mcf at *; simp only [decide_eq_true_eq] at *; rw [a6U] at *; rcases h1 with h1 | ⟨h1, h3⟩ <;> rcases h2 with h2 | ⟨h2, h4⟩
   · exact .inl (a2O h1 h2)
   · rw [h2] at h1; exact .inl h1
   · rw [← h1] at h2; exact .inl h2
   · exact .inr ⟨h1.trans h2, List.lt_trans h3 h4⟩
 ntrans x y z h1 h2 := by
   unfold ltOf mcf at *; simp only [decide_eq_false_iff_not] at *; rw [a6U] at *; simp only [not_or, not_and] at *; have a1 := W3 x.1.1 y.1.1; have a2 := W3 y.1.1 z.1.1; have a3 := W3 x.1.1 z.1.1; have key : ∀ {p q : Csn}, ¬ H8 p q < 0 → p = q ∨ H8 q p < 0 := fun {p q} h => by
     have := W3 p q; by_cases h0 : H8 p q = 0
     · exact .inl (T5.1 h0)
     · right; omega
   rcases key h1.1 with e1 | g1 <;> rcases key h2.1 with e2 | g2
   · rw [e1, e2, T6]; refine ⟨by omega, fun _ h => ?_⟩; have b1 := h1.2 e1; have b2 := h2.2 e2; rw [List.not_lt] at b1 b2; exact absurd h (by rw [List.not_lt]; exact List.le_trans b2 b1)
   · rw [e1]; refine ⟨by omega, fun e => ?_⟩; rw [e, T6] at g2; omega
   · rw [← e2]; refine ⟨by omega, fun e => ?_⟩; rw [e, T6] at g1; omega
   · have g := a2O g2 g1; refine ⟨by omega, fun e => ?_⟩; rw [e, T6] at g; omega
theorem c4r (l : List b0A) (hl : l.length < 1000000) : a4V prog 74 35 (l.map fun c => A6 c.1) [.d (.clo 75 [])] ((G8 mcf l).map fun c => A6 c.1) := by
 refine b7c Tryz.layQ 8 (by decide) Tryz.isAgg35 Tryz.sizeOf35 35 Tryz.sz_35 (enters_of func74 (by kernel_rfl) rfl) (fun c => A6 c.1) b8L c9y mcf c4K 75 (fun x y => c5D x.1 y.1 x.2 y.2) (fun w => ?_) l hl; exact AnyF.slices_SortFunc_none Tryz.layQ none 0 (.func (.func 75) #[] #[]) w
end Go.Proofs.Tz
namespace Go.Proofs.Tz
open Go.Vw Go.RowKit Go.Proofs
set_option maxRecDepth 1000000 in
set_option maxHeartbeats 2000000 in
theorem c5S (w : World) : Calls prog 123 #[.slice none 0 0, .int .i64 (0 : Nat)] w fun e w' => e = .returned (.slice none 0 0) ∧ w' = w := by
 go_enter func123, Tryz.ntmps123
 go_wp2
 go_ret
 exact ⟨rfl, rfl⟩
set_option maxRecDepth 1000000 in
set_option maxHeartbeats 2000000 in
theorem c7f (n : Nat) (h0 : 0 < n) (hn : n < 1000000) (w : World) : Calls prog 123 #[.slice none 0 0, .int .i64 n] w fun e w' =>
   ∃ C cap, e = .returned (.slice (some ⟨w.heap.size, 0, none⟩) 0 cap) ∧ w' = w.drew.alloc (.cells C 35) ∧ C.size = cap * 8 ∧ 0 < cap ∧ cap ≤ maxLen := by
 obtain ⟨i, z, f1, f2, f3, f4, f5, f6⟩ := Y4 Tryz.ez_35; have hb : n * i.bytes ≤ 281474976710656 := by rw [f4]; omega
 have hw : IntKind.i64.wrap (IntKind.i64.wrap (n : Int)) = n := by rw [IntKind.wrap_i64, IntKind.wrap_i64]; omega
 have hw1 : IntKind.i64.wrap (n : Int) = n := by rw [IntKind.wrap_i64]; omega
 have hap := Lib.run_append_nil_zeros (P := prog) w 22 3 22 35 i z .i64 .i64 Tryz.underlying22 Tryz.underlying3 f1 f2 n h0 (by omega) (by omega) hb; have hge := grownCap_ge w n 0 35; have hle := grownCap_le_maxLen w n 0 35 (by unfold maxLen; omega); have hC : (Builtin.zeroCells z.cells n ++ Builtin.zeroCells z.cells (grownCap w n 0 35 - n)).size = grownCap w n 0 35 * 8 := by
   rw [Array.size_append]; have hz : ∀ m, (Builtin.zeroCells z.cells m).size = m * 8 := fun m => by simp [Builtin.zeroCells, f5]
   rw [hz, hz]; omega
 generalize Builtin.zeroCells z.cells n ++ Builtin.zeroCells z.cells (grownCap w n 0 35 - n) = C at *; generalize grownCap w n 0 35 = cap at *; have hneg : ¬ ((n : Int) < 0) := (by omega); have hpos : (0 : Int) < n := (by omega); have hcap0 : ¬ cap = 0 := by omega
 go_enter func123, Tryz.ntmps123
 go_wp2_with (at_builtin; refine Lib.wpList_append_run _ rfl _ _ _ _ rfl _ _ rfl rfl _ _ hap ?_)
 go_ret
 exact ⟨C, cap, rfl, rfl, hC, by omega, hle⟩
theorem b7S : (prog.info? (ety 35)).map (·.size) = some 8 := by kernel_rfl
set_option maxRecDepth 100000 in
theorem c3e (n : Nat) (hn : n < 1000000) : Ctr prog 123 [.d (.raw (.slice none 0 0)), .d (.int .i64 n)] (.own true 35 []) := by
 refine ⟨enters_of func123 (by kernel_rfl) rfl, fun w L og vals hlok hgl hog hrc => ?_⟩; simp only [RCs] at hrc; obtain ⟨v, us, rfl, h1, v2, us2, rfl, h2, rfl⟩ := hrc; obtain rfl : v = .slice none 0 0 := RepV.raw_inv h1; obtain rfl : v2 = .int .i64 n := RepV.int_inv h2; by_cases h0 : n = 0
 · subst h0; refine (c5S w).mono ?_; rintro e w' ⟨rfl, rfl⟩; refine ⟨_, L, none, rfl, F1.refl w' _, hlok, fun _ _ _ _ => Iff.rfl, fun g hg => by simp at hg, ⟨[], 8, b7S, by simp [A5], by simp, ⟨by simp, .inl ⟨rfl, rfl⟩⟩, fun g hg => by simp [Value.ownBlock] at hg⟩⟩
 · refine (c7f n (by omega) hn w).mono ?_; rintro e w' ⟨C, cap, rfl, rfl, hC, hcap, hle⟩; have hsz : (w.drew.alloc (.cells C 35)).heap.size = w.heap.size + 1 := a4n _ _; have hold : ∀ k, k < w.heap.size → (w.drew.alloc (.cells C 35)).heap[k]? = w.heap[k]? := fun k hk => Lib.alloc_old w.drew _ k hk
   have hgk : (w.drew.alloc (.cells C 35)).heap[w.heap.size]? = some (.cells C 35 (0, 0)) := by
     show (w.heap.push (.cells C 35))[w.heap.size]? = _
     rw [Array.getElem?_push, if_pos rfl]
   have hfree : ∀ q, ¬ L w.heap.size q := fun q hq => by have := hlok _ q hq; omega
   refine ⟨_, L, some w.heap.size, rfl, ⟨rfl, rfl, rfl, by omega, fun k hk hn => hold k hk, by show w.drawn ≤ w.drawn + 1; omega⟩, fun c q hq => by have := hlok c q hq; omega, fun _ _ _ _ => Iff.rfl,
     fun g hg => ?_, ⟨[], 8, b7S, by simp [A5], by simp, ⟨rfl, .inr ⟨w.heap.size, cap, C, rfl, by rw [W7 (by decide), a5y (by decide)]; exact hgk, Nat.zero_le _, hle, by omega, by simp⟩⟩, fun g hg => ?_⟩⟩
   · obtain rfl : w.heap.size = g := by simpa using hg
     exact ⟨by omega, .inl (Nat.le_refl _)⟩
   · obtain rfl : w.heap.size = g := by simpa [Value.ownBlock] using hg
     exact ⟨rfl, fun o => ⟨fun h => absurd h (hfree o), fun h => by simp at h⟩⟩
def a3g (ls : List (List Chg)) (k : Nat) : Nat := ((ls.take k).map length).sum
theorem c1k (ls : List (List Chg)) : a3g ls 0 = 0 := by simp [a3g]
theorem b3t {ls : List (List Chg)} {k : Nat} (h : k < ls.length) : a3g ls (k + 1) = a3g ls k + ls[k].length := by
 unfold a3g; rw [F6 h, map_append, sum_append]; simp
theorem b2W (ls : List (List Chg)) (k : Nat) : a3g ls k ≤ (ls.map length).sum := by
 unfold a3g
 conv => rhs; rw [← take_append_drop k ls]
 rw [map_append, sum_append]; omega
def a5b (ls : List (List Chg)) (k : Nat) : List Chg := (ls.take k).flatten
theorem c1U {ls : List (List Chg)} {k : Nat} (h : k < ls.length) : a5b ls (k + 1) = a5b ls k ++ ls[k] := by
 unfold a5b; rw [F6 h, flatten_append]; simp
theorem c4O (ls : List (List Chg)) (k : Nat) : (a5b ls k).length = a3g ls k := by simp [a5b, a3g, length_flatten]
def d3Z (ls : List (List Chg)) (k : Nat) (τ : St) : Prop := τ 0 = .d (.sl (ls.map E6)) ∧ τ 9 = .d (.sl (ls.map E6)) ∧ τ 10 = .d (.int .i64 ls.length) ∧ τ 11 = .d (.int .i64 k) ∧ τ 3 = .d (.int .i64 (a3g ls k))
def d4n (ls : List (List Chg)) (k : Nat) (τ : St) : Prop := τ 25 = .d (.sl (ls.map E6)) ∧ τ 26 = .d (.int .i64 ls.length) ∧ τ 27 = .d (.int .i64 k) ∧ τ 6 = .own true 35 ((a5b ls k).map A6)
theorem b9J (ls : List (List Chg)) (h1 : ls.length < 1000) (h2 : (ls.map length).sum < 1000000) : Ctr prog 73 [.d (.sl (ls.map E6))] (.own true 35 (ls.flatten.map A6)) := by
 refine fv (fun i => i == 24 || i == 6 || i == 31 || i == 33 || i == 35 || i == 2 || i == 10000024) func73 (by kernel_rfl) rfl rfl rfl rfl rfl ?_; have hall : ls.flatten = a5b ls ls.length := (by simp [a5b]); rw [hall]; simp -implicitDefEqProofs; refine G7 ls.length (d3Z ls) ⟨by simp, by simp, by simp, by simp, by simp [c1k]⟩ ?_; rintro k τ hk ⟨q0, q9, q10, q11, q3⟩; by_cases hlt : k < ls.length
 · have hlt' : (k : Int) < ls.length := (by omega); have hb := b2W ls (k + 1); have hs := b3t hlt; generalize hx : ls[k] = x at *; generalize hA2 : a3g ls (k + 1) = A2 at *; generalize a3g ls k = A1 at *; have hneg : ¬ ((A1 : Int) + x.length < 0) := (by omega); simp -implicitDefEqProofs [q0, q9, q10, q11, q3, hlt, hlt', hx, E6, hneg]; (repeat refine ai (by omega) ?_); exact D5 hlt ⟨by simp [q0, E6], by simp [q9, E6], by simp [q10], by simp, by simp [hA2, hs]⟩
 have hlt' : ¬ (k : Int) < ls.length := (by omega); obtain rfl : k = ls.length := by omega
 have hb := b2W ls ls.length; have cg := c3e (a3g ls ls.length) (by omega); simp -implicitDefEqProofs [q0, q9, q10, q11, q3, hlt']; refine A3 cg ?_; simp -implicitDefEqProofs [q0]; refine G7 ls.length (d4n ls) ⟨by simp, by simp, by simp, by simp [a5b]⟩ ?_; clear cg hlt' hlt q0 q9 q10 q11 q3 hk τ; rintro k τ hk ⟨q25, q26, q27, q6⟩; by_cases hlt : k < ls.length
 · have hlt' : (k : Int) < ls.length := (by omega); have hb := b2W ls (k + 1); have hs := b3t hlt; have hl := c4O ls k; have hc := c1U hlt; generalize hx : ls[k] = x at *; generalize hA2 : a5b ls (k + 1) = A2 at *; generalize a5b ls k = A1 at *; simp -implicitDefEqProofs [q25, q26, q27, q6, hlt, hlt', hx, E6, A6, B0]; (repeat refine And.intro (by first | omega | (rintro u _ _ _ _ _ _ _ _ _ rfl; simp [B6, C8])) ?_); exact D5 hlt ⟨by simp [q25, E6], by simp [q26], by simp, by simp [hA2, hc]⟩
 · have hlt' : ¬ (k : Int) < ls.length := (by omega); obtain rfl : k = ls.length := by omega
   simp -implicitDefEqProofs [q25, q26, q27, q6, hlt']
def a0k (p : Csn) : List Chg → List Chg
 | [] => []
 | y :: l => if y.1 = p then a0k y.1 l else y :: a0k y.1 l
def a3x : List Chg → List Chg
 | [] => []
 | x :: l => x :: a0k x.1 l
def a3H (p : Csn) : List Chg → Csn
 | [] => p
 | y :: l => a3H y.1 l
theorem a9O (y : Chg) : ∀ (l : List Chg) (p : Csn), a0k p (l ++ [y]) = a0k p l ++ (if y.1 = a3H p l then [] else [y])
 | [], p => by by_cases h : y.1 = p <;> simp [a0k, a3H, h]
 | z :: l, p => by
   simp only [cons_append, a0k, a3H]; have ih := a9O y l z.1; rw [ih]; by_cases h : z.1 = p <;> by_cases h2 : y.1 = a3H z.1 l <;> simp only [h, h2, if_true, if_false, cons_append]
theorem b0X : ∀ (l : List Chg) (p : Csn) (k : Nat) (h : k < l.length), a3H p (l.take (k + 1)) = l[k].1
 | z :: l, p, 0, _ => by simp [a3H]
 | z :: l, p, k + 1, h => by
   simp only [take_succ_cons, a3H, getElem_cons_succ]; exact b0X l z.1 k (by simpa using h)
def a4g (l : List Chg) (k : Nat) : List Chg := a3x (l.take k)
theorem b3s {l : List Chg} {k : Nat} (h : l.length ≤ k) : a4g l k = a3x l := by unfold a4g; rw [ttl h]
theorem b1s {l : List Chg} {k : Nat} (h : k + 1 < l.length) : a4g l (k + 1 + 1) = a4g l (k + 1) ++ (if l[k + 1].1 = (l[k]'(by omega)).1 then [] else [l[k + 1]]) := by
 unfold a4g; rw [F6 h]; cases l with
 | nil => simp at h
 | cons x r =>
   simp only [take_succ_cons, cons_append, a3x, getElem_cons_succ]; rw [a9O]; have hr : k < r.length := (by simpa using h); have : a3H x.1 (r.take k) = ((x :: r)[k]'(by simp; omega)).1 := by
     cases k with
     | zero => simp [a3H]
     | succ k => rw [b0X r x.1 k (by omega)]; simp
   rw [this]
theorem c1O {l : List Chg} (h : 0 < l.length) : a4g l 1 = l.take 1 := by
 cases l with
 | nil => simp at h
 | cons x r => simp [a4g, a3x, a0k]
def d3w (l : List Chg) (k : Nat) (τ : St) : Prop := τ 0 = .own true 35 (l.map A6) ∧ τ 1 = .d (.clo 79 []) ∧ τ 5 = .d (.int .i64 (k + 1 : Nat)) ∧ a4g l (k + 1) = l.take (k + 1)
def c3A (l : List Chg) (lo k : Nat) (τ : St) : Prop := ∃ (M : List Chg) (i : Nat), τ 0 = .own true 35 (M.map A6) ∧ τ 1 = .d (.clo 79 []) ∧ τ 5 = .d (.int .i64 i) ∧ τ 6 = .sub 0 lo ∧ τ 7 = .d (.int .i64 (k + 1 : Nat)) ∧ M.length = l.length ∧ i ≤ lo + k ∧ 0 < i ∧ M.take i = a4g l (lo + k + 1) ∧ M.drop (lo + k) = l.drop (lo + k)
set_option maxHeartbeats 10000000 in
theorem b7l (l : List Chg) (hl : l.length < 1000000) : Ctr prog 78 [.own true 35 (l.map A6), .d (.clo 79 [])] (.own true 35 ((a3x l).map A6)) := by
 refine fv (fun i => i == 11000000) func78 (by kernel_rfl) rfl rfl rfl rfl rfl ?_; by_cases h2 : l.length < 2
 · have h2' : (l.length : Int) < 2 := (by omega); have hc : a3x l = l := by
     match l, h2 with
     | [], _ => rfl
     | [x], _ => rfl
   rw [hc]; simp -implicitDefEqProofs [h2']
 have h2' : ¬ (l.length : Int) < 2 := (by omega); simp -implicitDefEqProofs [h2']; refine G7 (l.length - 1) (d3w l) ⟨by simp, by simp, by simp, c1O (by omega)⟩ ?_; rintro k τ hk ⟨g0, g1, g5, hI⟩; by_cases hlt : k + 1 < l.length
 case neg =>
   have hlt' : ¬ (k : Int) + 1 < l.length := (by omega); rw [b3s (by omega), ttl (by omega)] at hI; rw [hI]; simp -implicitDefEqProofs [g0, g1, g5, hlt']
 have hlt' : (k : Int) + 1 < l.length := (by omega); have hstep := b1s hlt; have hlt0 : k < l.length := (by omega); have hf := c0m l[k + 1] l[k]; have ht1 := F6 hlt; have hx1 : l[k + 1]? = some l[k + 1] := getElem?_eq_getElem hlt; have hx0 : l[k]? = some l[k] := getElem?_eq_getElem hlt0; by_cases he : l[k + 1].1 = l[k].1
 case neg =>
   rw [if_neg he, hI, ← ht1] at hstep; rw [decide_eq_false he] at hf; clear ht1 he; generalize hX : l[k + 1] = X at *; generalize hY : l[k] = Y at *; simp only [A6, B0] at hf; simp -implicitDefEqProofs [g0, g1, g5, hlt', hlt, hlt0, hX, hY, A6, B0]; (repeat refine ai (by omega) ?_); refine E4 hf ?_; simp -implicitDefEqProofs [g0, g1, g5, hlt', hlt, hlt0]; (repeat refine ai (by omega) ?_); exact D5 (by omega) ⟨by simp [g0, A6, B0], by simp [g1], by simp, hstep⟩
 rw [if_pos he, hI, append_nil] at hstep; rw [decide_eq_true he] at hf; clear ht1 he; have hJ : c3A l (k + 1) 0 = c3A l (k + 1) 0 := rfl; generalize hX : l[k + 1] = X at *; generalize hY : l[k] = Y at *; simp only [A6, B0] at hf; simp -implicitDefEqProofs [g0, g1, g5, hlt', hlt, hlt0, hX, hY, A6, B0]; (repeat refine ai (by omega) ?_); refine E4 hf ?_; have hk0 : (0 : Int) ≤ (k : Int) + 1 := (by omega); have hkl : k + 1 ≤ l.length := (by omega); simp -implicitDefEqProofs [g0, g1, g5, hlt', hlt, hlt0, hk0, hkl]; (repeat refine ai (by omega) ?_); refine G7 (l.length - (k + 1) - 1) (c3A l (k + 1)) ?_ ?_
 · exact ⟨l, k + 1, by simp [g0, A6, B0], by simp [g1], by simp [g5], by simp, by simp, rfl, by omega, by omega, hstep.symm, rfl⟩
 clear hf hJ hX hY hx1 hx0 X Y hstep hI g0 g1 g5 hk τ; rintro q τ hq ⟨M, i, g0, g1, g5, g6, g7, hM, hi, hi0, ht, hd⟩; by_cases hl2 : k + 1 + (q + 1) < l.length
 case neg =>
   have hl2' : ¬ (q : Int) + 1 < ((l.length - (k + 1) : Nat) : Int) := (by omega); rw [b3s (by omega)] at ht; simp -implicitDefEqProofs [g0, g1, g5, g6, g7, hM, hl2', A6, B0]; refine ⟨by omega, by omega, ?_⟩; rw [take_append_of_le_length (by simp; omega), take_take, Nat.min_self, ← map_take, ht]
 have hl2' : (q : Int) + 1 < ((l.length - (k + 1) : Nat) : Int) := (by omega); have hstep := b1s (l := l) (k := k + 1 + q) (by omega); have hf := c0m (l[k + 1 + (q + 1)]'hl2) (l[k + 1 + q]'(by omega)); have b1 : k + 1 + (q + 1) < M.length := (by omega); have b0 : k + 1 + q < M.length := (by omega); have bl0 : k + 1 + q < l.length := (by omega); have bi : i < M.length := (by omega); have bil : i < l.length := (by omega); have hq0 : (0 : Int) ≤ (q : Int) + 1 := (by omega); have hM1 : M[k + 1 + (q + 1)]? = some (l[k + 1 + (q + 1)]'hl2) := by
   have := congrArg (fun x : List Chg => x[1]?) hd; simp only [getElem?_drop] at this; rw [Nat.add_assoc] at this; rw [this]; exact getElem?_eq_getElem hl2
 have hM0 : M[k + 1 + q]? = some (l[k + 1 + q]'bl0) := by
   have := congrArg (fun x : List Chg => x[0]?) hd; simp only [getElem?_drop, Nat.add_zero] at this; rw [this]; exact getElem?_eq_getElem bl0
 have hx1 := (List.getElem?_eq_some_iff.1 hM1).2; have hx0 := (List.getElem?_eq_some_iff.1 hM0).2; have hd2 : M.drop (k + 1 + (q + 1)) = l.drop (k + 1 + (q + 1)) := by
   have := congrArg (drop 1) hd; simpa [drop_drop, Nat.add_assoc] using this
 have hti := F6 bi; have hMi : ∃ Z, M[i]? = some Z := ⟨_, getElem?_eq_getElem bi⟩; obtain ⟨Z, hMi⟩ := hMi; by_cases he : (l[k + 1 + (q + 1)]'hl2).1 = (l[k + 1 + q]'bl0).1
 · have he2 : (l[k + 1 + q + 1]'(by omega)).1 = (l[k + 1 + q]'bl0).1 := he; rw [if_pos he2, append_nil, ← ht] at hstep; rw [decide_eq_true he] at hf; clear he he2 hti ht hd; generalize l[k + 1 + (q + 1)]'hl2 = X at *; generalize l[k + 1 + q]'bl0 = Y at *; simp only [A6, B0] at hf; simp -implicitDefEqProofs [g0, g1, g5, g6, g7, hM, hl2', b1, b0, hl2, bl0, hx1, hx0, hq0, A6, B0]; (repeat refine ai (by omega) ?_); refine E4 hf ?_; simp -implicitDefEqProofs [g0, g1, g5, g6, g7, hM, hl2']; (repeat refine ai (by omega) ?_); refine D5 (by omega) ?_; exact ⟨M, i, by simp [g0, A6, B0], by simp [g1], by simp [g5], by simp [g6], by simp, hM, by omega, hi0, hstep.symm, hd2⟩
 · have he2 : ¬ (l[k + 1 + q + 1]'(by omega)).1 = (l[k + 1 + q]'bl0).1 := he; rw [if_neg he2, ← ht] at hstep; rw [decide_eq_false he] at hf; have hLX : l[k + 1 + q + 1]'(by omega) = l[k + 1 + (q + 1)]'hl2 := rfl; rw [hLX] at hstep; clear he he2 ht hd hLX; generalize l[k + 1 + (q + 1)]'hl2 = X at *; generalize l[k + 1 + q]'bl0 = Y at *; simp only [A6, B0] at hf; simp -implicitDefEqProofs [g0, g1, g5, g6, g7, hM, hl2', b1, b0, hl2, bl0, hx1, hx0, hq0, A6, B0]; (repeat refine ai (by omega) ?_); refine E4 hf ?_; simp -implicitDefEqProofs [g0, g1, g5, g6, g7, hM, hl2', b1, b0, hl2, bl0, bi, bil, hMi, hx1, hx0, hq0, A6, B0]; (repeat refine ai (by omega) ?_); refine d4v 6 (lo := k + 1) (by simp [g6]) (by decide) ?_; simp -implicitDefEqProofs [g0, g1, g5, g6, g7, hM, hl2']; (repeat refine ai (by omega) ?_); refine D5 (by omega) ?_; refine ⟨M.set i X, i + 1, ?_, by simp [g1], by simp, by simp, by simp, by simpa using hM, by omega, by omega, ?_, ?_⟩
   · simp [A6, B0, map_set]
   · rw [take_set, F6 bi, set_append_right _ _ (by simp; omega)]; simp only [length_take, Nat.min_eq_left (Nat.le_of_lt bi), Nat.sub_self, set_cons_zero]; exact hstep.symm
   · rw [drop_set_of_lt (by omega)]; exact hd2
end Go.Proofs.Tz
namespace Go.Proofs.Tz
open Go.Vw Go.RowKit Go.Proofs Go.Sort
def c4t (x y : Chg) : Prop := H8 x.1 y.1 ≤ 0 ∧ (x.1 = y.1 → J7 x ≤ J7 y)
theorem a9Y : ∀ (l : List Chg) (p : Csn), (∀ y ∈ l, H8 p y.1 ≤ 0) → l.Pairwise c4t → (∀ y ∈ l, F4 y = 0) →
   (a0k p l).Pairwise (fun a b => H8 a.1 b.1 < 0) ∧ (∀ y ∈ a0k p l, H8 p y.1 < 0) ∧ ∀ r, r ∈ a0k p l ↔ (r ∈ l ∧ r.1 ≠ p ∧ ∀ r' ∈ l, r'.1 = r.1 → J7 r ≤ J7 r')
 | [], p, _, _, _ => by simp [a0k]
 | z :: l, p, hp, hl, hc => by
   obtain ⟨h1, h2⟩ := pairwise_cons.1 hl; obtain ⟨i1, i2, i3⟩ := a9Y l z.1 (fun y hy => (h1 y hy).1) h2 (fun y hy => hc y (by simp [hy])); have hpz := hp z (by simp); by_cases hz : z.1 = p
   · rw [a0k, if_pos hz]; refine ⟨i1, fun y hy => by rw [← hz]; exact i2 y hy, fun r => ?_⟩; rw [i3, mem_cons]; constructor
     · rintro ⟨a, b, c⟩; refine ⟨.inr a, by rwa [← hz], fun r' hr' he => ?_⟩; rcases mem_cons.1 hr' with rfl | hr'
       · exact absurd he.symm b
       · exact c r' hr' he
     · rintro ⟨rfl | a, b, c⟩
       · exact absurd hz b
       · exact ⟨a, by rwa [hz], fun r' hr' he => c r' (by simp [hr']) he⟩
   · rw [a0k, if_neg hz]; have hpz2 : H8 p z.1 < 0 := by
       have : H8 p z.1 ≠ 0 := fun e => hz (T5.1 e).symm
       omega
     refine ⟨pairwise_cons.2 ⟨i2, i1⟩, fun y hy => ?_, fun r => ?_⟩
     · rcases mem_cons.1 hy with rfl | hy
       · exact hpz2
       · exact a2O hpz2 (i2 y hy)
     · rw [mem_cons, i3, mem_cons]; constructor
       · rintro (rfl | ⟨a, b, c⟩)
         · refine ⟨.inl rfl, hz, fun r' hr' he => ?_⟩; rcases mem_cons.1 hr' with rfl | hr'
           · exact List.le_refl _
           · exact (h1 r' hr').2 he.symm
         · refine ⟨.inr a, fun e => ?_, fun r' hr' he => ?_⟩
           · have q1 := (h1 r a).1; rw [e] at q1; have := W3 p z.1; omega
           · rcases mem_cons.1 hr' with rfl | hr'
             · exact absurd he.symm b
             · exact c r' hr' he
       · rintro ⟨rfl | a, b, c⟩
         · exact .inl rfl
         · by_cases e : r.1 = z.1
           · left
             have q1 := c z (by simp) e.symm; have q2 := (h1 r a).2 e.symm; exact a5x (hc r (by simp [a])) (hc z (by simp)) (List.le_antisymm q1 q2)
           · exact .inr ⟨a, e, fun r' hr' he => c r' (by simp [hr']) he⟩
theorem b8H {S : List Chg} (h : S.Pairwise c4t) (hc : ∀ x ∈ S, F4 x = 0) : a0h S (a3x S) := by
 cases S with
 | nil => exact ⟨Pairwise.nil, by simp [a3x]⟩
 | cons z l =>
   obtain ⟨h1, h2⟩ := pairwise_cons.1 h; obtain ⟨i1, i2, i3⟩ := a9Y l z.1 (fun y hy => (h1 y hy).1) h2 (fun y hy => hc y (by simp [hy])); refine ⟨pairwise_cons.2 ⟨i2, i1⟩, fun r => ?_⟩; rw [a3x, mem_cons, i3, mem_cons]; constructor
   · rintro (rfl | ⟨a, b, c⟩)
     · refine ⟨.inl rfl, hc _ (by simp), fun r' hr' _ he => ?_⟩; rcases mem_cons.1 hr' with rfl | hr'
       · exact List.le_refl _
       · exact (h1 r' hr').2 he.symm
     · refine ⟨.inr a, hc _ (by simp [a]), fun r' hr' _ he => ?_⟩; rcases mem_cons.1 hr' with rfl | hr'
       · exact absurd he.symm b
       · exact c r' hr' he
   · rintro ⟨rfl | a, b, c⟩
     · exact .inl rfl
     · by_cases e : r.1 = z.1
       · left
         have q1 := c z (by simp) (hc z (by simp)) e.symm; have q2 := (h1 r a).2 e.symm; exact a5x (hc r (by simp [a])) (hc z (by simp)) (List.le_antisymm q1 q2)
       · exact .inr ⟨a, e, fun r' hr' he => c r' (by simp [hr']) (hc r' (by simp [hr'])) he⟩
def Z5 (L : List Chg) (k : Nat) : List Chg := (L.take k).filter fun c => decide (F4 c = 0)
theorem b9A {L : List Chg} {k : Nat} (h : k < L.length) : Z5 L (k + 1) = Z5 L k ++ (if F4 L[k] = 0 then [L[k]] else []) := by
 unfold Z5; rw [F6 h, filter_append]; by_cases hc : F4 L[k] = 0 <;> simp [hc]
theorem b3n (L : List Chg) (k : Nat) : (Z5 L k).length ≤ k := by
 unfold Z5; refine Nat.le_trans (length_filter_le _ _) ?_; simp; omega
theorem a9a {L : List Chg} {k : Nat} {x : Chg} (h : x ∈ Z5 L k) : x ∈ L ∧ F4 x = 0 := by
 unfold Z5 at h; rw [mem_filter] at h; exact ⟨mem_of_mem_take h.1, by simpa using h.2⟩
theorem c2c (a b : List Chg) (F : List b0A) (hF : F.map (·.1) = Z5 (a ++ b) (a.length + b.length)) : a3x ((G8 mcf F).map (·.1)) = a1a a b := by
 obtain ⟨hp, hs⟩ := Q5 c4K F; have hp2 : ((G8 mcf F).map (·.1)).Perm (Z5 (a ++ b) (a.length + b.length)) := by rw [← hF]; exact hp.map _
 have hgood : ∀ x ∈ (G8 mcf F).map (·.1), F4 x = 0 := fun x hx => (a9a (hp2.mem_iff.1 hx)).2
 have h1 : ((G8 mcf F).map (·.1)).Pairwise c4t := by
   rw [pairwise_iff_getElem]; intro i j hi hj hij; simp only [length_map] at hi hj; have hi' := hgood _ (mem_map_of_mem (gmm hi)); have hj' := hgood _ (mem_map_of_mem (gmm hj)); have := hs i j hij hj; simp only [getElem_map]; have hn : ¬ a7J (G8 mcf F)[j].1 (G8 mcf F)[i].1 < 0 := by
     have e : decide (a7J (G8 mcf F)[j].1 (G8 mcf F)[i].1 < 0) = false := this; simpa using e
   clear this; generalize (G8 mcf F)[i].1 = x at *; generalize (G8 mcf F)[j].1 = y at *; rw [a6U, a3Y hi', a3Y hj'] at hn; simp only [not_or, not_and] at hn; have ha := W3 x.1 y.1; exact ⟨by omega, fun e => by have := hn.2 e.symm; rw [List.not_lt] at this; exact this⟩
 have h2 := b8H h1 hgood; have hm : ∀ x, x ∈ (G8 mcf F).map (·.1) ↔ x ∈ a ++ b ∧ F4 x = 0 := fun x => by
   rw [hp2.mem_iff]; constructor
   · exact a9a
   · rintro ⟨q1, q2⟩; unfold Z5; rw [ttl (by simp), mem_filter]; exact ⟨q1, by simpa using q2⟩
 refine a0h.uniq (S := a ++ b) ⟨h2.asc, fun r => ?_⟩ (a3J a b) (fun _ => Iff.rfl); rw [h2.mem, hm]; constructor
 · rintro ⟨⟨q1, q2⟩, _, q4⟩; exact ⟨q1, q2, fun r' hr' hc he => q4 r' ((hm r').2 ⟨hr', hc⟩) hc he⟩
 · rintro ⟨q1, q2, q4⟩; exact ⟨⟨q1, q2⟩, q2, fun r' hr' hc he => q4 r' ((hm r').1 hr').1 hc he⟩
def MgI (L : List Chg) (k : Nat) (τ : St) : Prop := τ 11 = .own false 35 (L.map A6) ∧ τ 12 = .d (.int .i64 L.length) ∧ τ 13 = .d (.int .i64 k) ∧ τ 5 = .own true 35 ((Z5 L k).map A6)
theorem c2C (a b : List Chg) (ha : ∀ x ∈ a, O8 x) (hb : ∀ x ∈ b, O8 x) (hab : a.length + b.length < 900000) : Ctr prog 35 [.d (E6 a), .d (E6 b)] (.own true 35 ((a1a a b).map A6)) := by
 refine fv (fun i => i == 5 || i == 23 || i == 28 || i == 4 || i == 3000026) func35 (by kernel_rfl) rfl rfl rfl rfl rfl ?_; have hfit : ∀ x ∈ a ++ b, O8 x := fun x hx => by
   rcases mem_append.1 hx with hx | hx
   · exact ha x hx
   · exact hb x hx
 have c1 := b9J [a, b] (by simp) (by simp; omega); have hL : [a, b].flatten = a ++ b := (by simp); rw [hL] at c1; have hlen : (a ++ b).length = a.length + b.length := (by simp); obtain ⟨R, hR⟩ : ∃ R, a1a a b = R := ⟨_, rfl⟩; have key := c2c a b; rw [hR] at key; rw [hR]; generalize hLL : a ++ b = L at *; simp only [map_cons, map_nil, E6] at c1; simp -implicitDefEqProofs [E6]; refine ⟨by decide, A3 c1 ?_⟩; simp -implicitDefEqProofs; refine G7 L.length (MgI L) ⟨by simp, by simp, by simp, by simp [Z5]⟩ ?_; rintro k τ hk ⟨g11, g12, g13, g5⟩; by_cases hlt : k < L.length
 · have hlt' : (k : Int) < L.length := (by omega); have c2 := a6m L[k] (hfit _ (gmm hlt)); have hs := b9A hlt; have hgl := b3n L k; generalize hA2 : Z5 L (k + 1) = A2 at *; generalize Z5 L k = A1 at *; generalize hX : L[k] = X at *; by_cases h0 : F4 X = 0
   · rw [if_pos h0] at hs; rw [h0] at c2; simp only [A6, B0] at c2; simp -implicitDefEqProofs [g11, g12, g13, g5, hlt, hlt', hX, A6, B0]; (repeat refine ai (by omega) ?_); refine A3 c2 ?_; simp -implicitDefEqProofs [g11, g12, g13, g5, A6, B0]; (repeat refine ai (by omega) ?_); exact D5 hlt ⟨by simp [g11, A6, B0], by simp [g12], by simp, by simp [hA2, hs, A6, B0]⟩
   · rw [if_neg h0, append_nil] at hs; generalize F4 X = E at *; simp only [A6, B0] at c2; simp -implicitDefEqProofs [g11, g12, g13, g5, hlt, hlt', hX, A6, B0]; (repeat refine ai (by omega) ?_); refine A3 c2 ?_; simp -implicitDefEqProofs [g11, g12, g13, g5, h0, A6, B0]; (repeat refine ai (by omega) ?_); exact D5 hlt ⟨by simp [g11, A6, B0], by simp [g12], by simp, by simp [g5, hA2, hs, A6, B0]⟩
 · have hlt' : ¬ (k : Int) < L.length := (by omega); obtain rfl : k = L.length := by omega
   obtain ⟨F, hF⟩ : ∃ F : List b0A, F.map (·.1) = Z5 L L.length :=
     ⟨(Z5 L L.length).attach.map fun x => ⟨x.1, hfit _ (a9a x.2).1⟩, by rw [map_map]; exact attach_map_subtype_val _⟩
   have hgl := b3n L L.length; have hFl : F.length < 1000000 := by have := congrArg length hF; simp at this; omega
   have hFl2 : F.length < 1000000 := hFl; have k1 := key F (by rw [hF, hlen]); have c3 := c4r F hFl; have c4 := b7l ((G8 mcf F).map (·.1)) (by rw [length_map, (Q5 c4K F).1.length_eq]; exact hFl); rw [k1] at c4; have e1 : F.map (fun c => A6 c.1) = (Z5 L L.length).map A6 := by rw [← hF, map_map]; rfl
   have e2 : (G8 mcf F).map (fun c => A6 c.1) = ((G8 mcf F).map (·.1)).map A6 := by rw [map_map]; rfl
   rw [e1, e2] at c3; generalize (G8 mcf F).map (·.1) = S at *; generalize Z5 L L.length = G at *; simp -implicitDefEqProofs [g11, g12, g13, g5, hlt']; refine b6e c3 ?_; simp -implicitDefEqProofs; refine A3 c4 ?_; simp -implicitDefEqProofs
end Go.Proofs.Tz
namespace Go.Proofs.Tz
open Go.Vw Go.RowKit Go.Proofs
def W8 (s : Str) : Str × Bool := match M4 s with
 | some (p :: l) => ((I2 l).1, true)
 | _ => ([], false)
def S4 (a b : Str) : Int := if a < b then -1 else if b < a then 1 else 0
theorem a3V {a b : Str} : S4 a b = 0 ↔ a = b := by
 unfold S4; constructor
 · intro h; split at h
   · cases h
   · split at h
     · cases h
     · rename_i h1 h2; exact a2T h1 h2
 · rintro rfl; simp [a5l]
theorem a5a {a b : Str} : S4 a b < 0 ↔ a < b := by
 unfold S4; split
 · rename_i h; simp [h]
 · rename_i h
   simp only [h, iff_false]; split <;> omega
theorem c0Q (a : Str) : S4 a a = 0 := a3V.2 rfl
theorem a8D (a b : Str) : S4 b a = - S4 a b := by
 unfold S4; by_cases h1 : a < b
 · have h2 : ¬ b < a := fun h => a5l _ (a1R h1 h)
   simp [h1, h2]
 · by_cases h2 : b < a
   · simp [h1, h2]
   · simp [h1, h2]
def a0v (p q : G3) : Int := if S4 p.1 q.1 = 0 then S4 p.2 q.2 else S4 p.1 q.1
theorem a5A {p q : G3} : a0v p q = 0 ↔ p = q := by
 unfold a0v; split
 · rename_i h
   rw [a3V] at h ⊢; obtain ⟨a, b⟩ := p; obtain ⟨c, d⟩ := q; simp only at h; simp [h]
 · rename_i h
   constructor
   · intro h2; exact absurd h2 h
   · rintro rfl; exact absurd (c0Q _) h
theorem c0l (p q : G3) : a0v q p = - a0v p q := by
 unfold a0v; rw [a8D p.1 q.1]; by_cases h : S4 p.1 q.1 = 0
 · simp [h, a8D p.2 q.2]
 · have h' : ¬ (- S4 p.1 q.1 = 0) := (by omega); rw [if_neg h, if_neg h']
def ltP (p q : G3) : Prop := p.1 < q.1 ∨ (p.1 = q.1 ∧ p.2 < q.2)
theorem b0R {p q : G3} : a0v p q < 0 ↔ ltP p q := by
 unfold a0v ltP; by_cases h : S4 p.1 q.1 = 0
 · rw [if_pos h, a5a]; rw [a3V] at h; constructor
   · intro h2; exact .inr ⟨h, h2⟩
   · rintro (h2 | h2)
     · rw [h] at h2; exact absurd h2 (a5l _)
     · exact h2.2
 · rw [if_neg h, a5a]; constructor
   · exact .inl
   · rintro (h2 | h2)
     · exact h2
     · exact absurd (a3V.2 h2.1) h
theorem c2p {p q r : G3} (h1 : ltP p q) (h2 : ltP q r) : ltP p r := by
 rcases h1 with h1 | ⟨e1, h1⟩ <;> rcases h2 with h2 | ⟨e2, h2⟩
 · exact .inl (a1R h1 h2)
 · exact .inl (e2 ▸ h1)
 · exact .inl (e1 ▸ h2)
 · exact .inr ⟨e1.trans e2, a1R h1 h2⟩
def Q4 : List G3 → List G3 → Int
 | [], [] => 0
 | [], _ :: _ => -1
 | _ :: _, [] => 1
 | p :: l, q :: m => if a0v p q = 0 then Q4 l m else a0v p q
theorem b4g : ∀ {l m : List G3}, Q4 l m = 0 ↔ l = m
 | [], [] => by simp [Q4]
 | [], _ :: _ => by simp [Q4]
 | _ :: _, [] => by simp [Q4]
 | p :: l, q :: m => by
   simp only [Q4]; split
   · rename_i h
     rw [b4g, a5A.1 h]; simp
   · rename_i h
     constructor
     · intro h2; exact absurd h2 h
     · intro e; simp only [List.cons.injEq] at e; exact absurd (a5A.2 e.1) h
theorem b4h : ∀ (l m : List G3), Q4 m l = - Q4 l m
 | [], [] => by simp [Q4]
 | [], _ :: _ => by simp [Q4]
 | _ :: _, [] => by simp [Q4]
 | p :: l, q :: m => by
   simp only [Q4]; rw [c0l p q, b4h l m]; by_cases h : a0v p q = 0
   · simp [h]
   · have h' : ¬ (- a0v p q = 0) := (by omega); rw [if_neg h, if_neg h']
theorem b1T : ∀ {l m n : List G3}, Q4 l m < 0 → Q4 m n < 0 → Q4 l n < 0
 | [], [], _, h, _ => by simp [Q4] at h
 | [], _ :: _, [], _, h => by simp [Q4] at h
 | [], _ :: _, _ :: _, _, _ => by simp [Q4]
 | _ :: _, [], _, h, _ => by simp [Q4] at h
 | _ :: _, _ :: _, [], _, h => by simp [Q4] at h
 | p :: l, q :: m, r :: n, h1, h2 => by
   simp only [Q4] at h1 h2 ⊢; by_cases e1 : a0v p q = 0
   · have e1' := a5A.1 e1; subst e1'; rw [if_pos e1] at h1; by_cases e2 : a0v p r = 0
     · rw [if_pos e2] at h2 ⊢; exact b1T h1 h2
     · rw [if_neg e2] at h2 ⊢; exact h2
   · rw [if_neg e1] at h1; by_cases e2 : a0v q r = 0
     · have e2' := a5A.1 e2; subst e2'; rw [if_neg e1]; exact h1
     · rw [if_neg e2] at h2; have h3 := b0R.2 (c2p (b0R.1 h1) (b0R.1 h2)); have : a0v p r ≠ 0 := (by omega); rw [if_neg this]; exact h3
def a1k (a b : Str) : Int := match M4 a, M4 b with
 | some l, some m => Q4 l.reverse m.reverse
 | some _, none => -1
 | none, some _ => 1
 | none, none => S4 a b
theorem a5j {a b : Str} : a1k a b = 0 ↔ a = b := by
 unfold a1k; split
 · rename_i l m h1 h2
   rw [b4g]; constructor
   · intro h; have : l = m := by simpa using congrArg reverse h
     subst this; exact b3R h1 h2
   · rintro rfl; rw [h1] at h2; simp only [Option.some.injEq] at h2; rw [h2]
 · rename_i h1 h2
   simp only [Int.reduceNeg, Int.neg_eq_zero, Int.one_ne_zero, false_iff]; rintro rfl; rw [h1] at h2; cases h2
 · rename_i h1 h2
   simp only [Int.one_ne_zero, false_iff]; rintro rfl; rw [h1] at h2; cases h2
 · exact a3V
theorem c0b (a b : Str) : a1k b a = - a1k a b := by
 unfold a1k; cases M4 a <;> cases M4 b <;> simp only [Int.neg_neg]
 · exact a8D a b
 · exact b4h _ _
theorem b8Y {a b c : Str} (h1 : a1k a b < 0) (h2 : a1k b c < 0) : a1k a c < 0 := by
 unfold a1k at *; cases ha : M4 a <;> cases hb : M4 b <;> cases hc : M4 c <;> simp only [ha, hb, hc] at h1 h2 ⊢ <;> try omega
 · exact a5a.2 (a1R (a5a.1 h1) (a5a.1 h2))
 · exact b1T h1 h2
theorem b3i (a : Str) : a1k a a = 0 := a5j.2 rfl
theorem b3D (x : Str) : Ctr prog 203 [.d (.str x)] (.d (.bool false)) := by
 refine fv (fun _ => false) func203 (by kernel_rfl) rfl rfl rfl rfl rfl ?_; simp -implicitDefEqProofs
theorem b9p (x y : Str) : (x < y ∧ S4 x y = -1 ∧ Op.bytesLess x y = true) ∨ (y < x ∧ S4 x y = 1 ∧ Op.bytesLess x y = false ∧ decide (x = y) = false) ∨ (x = y ∧ S4 x y = 0) := by
 by_cases h1 : x < y
 · exact .inl ⟨h1, by simp [S4, h1], c7W.2 h1⟩
 by_cases h2 : y < x
 · refine .inr (.inl ⟨h2, by simp [S4, h1, h2], b3b.2 h1, ?_⟩); rw [decide_eq_false_iff_not]; rintro rfl; exact h1 h2
 · exact .inr (.inr ⟨a2T h1 h2, by simp [S4, h1, h2]⟩)
theorem a8e (x y : Str) : Ctr prog 164 [.d (.str x), .d (.str y)] (.d (.int .i64 (S4 x y))) := by
 refine fv (fun _ => false) func164 (by kernel_rfl) rfl rfl rfl rfl rfl ?_; have c1 := b3D x; have c2 := b3D y; rcases b9p x y with ⟨_, h1, h2⟩ | ⟨_, h1, h2, h3⟩ | ⟨h1, h2⟩
 · rw [h1]; simp -implicitDefEqProofs; refine A3 c1 ?_; simp -implicitDefEqProofs; refine A3 c2 ?_; simp -implicitDefEqProofs [h2]
 · rw [h1]; simp -implicitDefEqProofs; refine A3 c1 ?_; simp -implicitDefEqProofs; refine A3 c2 ?_; simp -implicitDefEqProofs [h2, h3]
 · rw [h2]; subst h1; have h3 : Op.bytesLess x x = false := b3b.2 (a5l x); simp -implicitDefEqProofs; refine A3 c1 ?_; simp -implicitDefEqProofs; refine A3 c2 ?_; simp -implicitDefEqProofs [h3]
theorem b9q (s : Str) : W8 s = if L5 s = true then (match (E8 s).1 with | _ :: l => ((I2 l).1, true) | [] => ([], false)) else ([], false) := by
 rw [W8, a7h]; by_cases h : L5 s = true
 · rw [if_pos h, if_pos h]; cases (E8 s).1 <;> rfl
 · rw [if_neg h, if_neg h]
theorem a8O.tail {p : G3} {l : List G3} (h : a8O (p :: l)) : a8O l := ⟨by have := h.1; simp at this; omega, fun q hq => h.2 q (by simp [hq])⟩
theorem b9y (s : Str) (hs : length s < 900000) : Ctr prog 67 [.d (.str s)] (.tup [.d (.str (W8 s).1), .d (.bool (W8 s).2)]) := by
 refine O0 (rv := .tmp 2) (rs := [.tmp 3]) (r := .d (.str (W8 s).1)) (ys := [.d (.bool (W8 s).2)]) (fun i => false) (by kernel_rfl) func67 (by kernel_rfl) rfl rfl (by simp) (nbl rfl) (by kernel_rfl) rfl rfl ?_; have c1 := a2y s hs; have hf := a1h s; rw [b9q]; generalize (E8 s).1 = l at *; simp only [K7] at c1; by_cases hv : L5 s = true
 · cases l with
   | nil =>
     simp -implicitDefEqProofs; refine A3 c1 ?_; simp -implicitDefEqProofs [hv]
   | cons p l =>
     rw [if_pos hv]; dsimp only; have c2 := a7v l hf.tail; have hlen : ¬ ((l.length : Int) + 1 = 0) := (by omega); have htk : take l.length (l.map P2) = l.map P2 := ttl (by simp); generalize I2 l = G at *; obtain ⟨t, g⟩ := G; simp only [K7] at c2; simp -implicitDefEqProofs; refine A3 c1 ?_; simp -implicitDefEqProofs [hv, hlen, htk]; refine ⟨⟨rfl, by rintro _ x y _ rfl; rfl⟩, ?_⟩; refine A3 c2 ?_; simp -implicitDefEqProofs
 · simp -implicitDefEqProofs; refine A3 c1 ?_; simp -implicitDefEqProofs [hv]
theorem a9R {l : List G3} {k : Nat} (h : k < l.length) : l.reverse[k]'(by simpa using h) = l[l.length - 1 - k]'(by omega) := by
 rw [getElem_reverse]
theorem c1g (l m : List G3) (k : Nat) (hk : k < l.length) (hk' : k < m.length) (hl : l.length < 1000000) (hm : m.length < 1000000) :
   Ctr prog 165 [.d (.int .i64 k), .d (.ref (K7 l)), .d (.ref (K7 m))] (.d (.int .i64 (a0v (l[l.length - 1 - k]'(by omega)) (m[m.length - 1 - k]'(by omega))))) := by
 refine fv (fun i => i == 9000001) func165 (by kernel_rfl) rfl rfl rfl rfl rfl ?_; have i1 : (0 : Int) ≤ (l.length : Int) - 1 - k := (by omega); have i2 : (0 : Int) ≤ (m.length : Int) - 1 - k := (by omega); have e1 : ((l.length : Int) - 1 - k).toNat = l.length - 1 - k := (by omega); have e2 : ((m.length : Int) - 1 - k).toNat = m.length - 1 - k := (by omega); have b1 : l.length - 1 - k < l.length := (by omega); have b2 : m.length - 1 - k < m.length := (by omega); generalize hx : l[l.length - 1 - k] = x; generalize hy : m[m.length - 1 - k] = y; obtain ⟨x1, x2⟩ := x; obtain ⟨y1, y2⟩ := y; have c1 := a8e x1 y1; have c2 := a8e x2 y2; have c3 := a6z [S4 x1 y1, S4 x2 y2] (by simp); have hor : orI [S4 x1 y1, S4 x2 y2] = a0v (x1, x2) (y1, y2) := by
   unfold a0v; simp only [orI]; by_cases h : S4 x1 y1 = 0
   · by_cases h' : S4 x2 y2 = 0 <;> simp [h, h']
   · simp [h]
 rw [hor] at c3; simp only [a2S, map_cons, map_nil] at c3; simp -implicitDefEqProofs [K7, i1, i2, e1, e2, b1, b2, hx, hy, P2]; (repeat refine ai (by omega) ?_); refine E4 c1 ?_; simp -implicitDefEqProofs; refine E4 c2 ?_; simp -implicitDefEqProofs; refine ⟨by decide, E4 c3 ?_⟩; simp -implicitDefEqProofs
theorem c1I {l m : List G3} {k : Nat} (hk : k < l.length) (hk' : k < m.length) : Q4 (l.reverse.drop k) (m.reverse.drop k) =
   if a0v (l[l.length - 1 - k]'(by omega)) (m[m.length - 1 - k]'(by omega)) = 0 then Q4 (l.reverse.drop (k + 1)) (m.reverse.drop (k + 1)) else a0v (l[l.length - 1 - k]'(by omega)) (m[m.length - 1 - k]'(by omega)) := by
 rw [drop_eq_getElem_cons (show k < l.reverse.length by simpa using hk), drop_eq_getElem_cons (show k < m.reverse.length by simpa using hk'), Q4, a9R hk, a9R hk']
theorem c2X {l m : List G3} {k : Nat} (hk : k = min l.length m.length) : Q4 (l.reverse.drop k) (m.reverse.drop k) = Z8 l.length m.length := by
 rcases Nat.lt_trichotomy l.length m.length with h | h | h
 · have e1 : l.reverse.drop k = [] := drop_eq_nil_of_le (by simp; omega); rw [e1, drop_eq_getElem_cons (show k < m.reverse.length by simp; omega), Q4, Z8, if_pos (by omega)]
 · rw [drop_eq_nil_of_le (by simp; omega), drop_eq_nil_of_le (by simp; omega), Q4, Z8, if_neg (by omega), if_neg (by omega)]
 · have e1 : m.reverse.drop k = [] := drop_eq_nil_of_le (by simp; omega); rw [e1, drop_eq_getElem_cons (show k < l.reverse.length by simp; omega), Q4, Z8, if_neg (by omega), if_pos (by omega)]
theorem c5g (a b : Str) : a1k a b = if L5 a = true then (if L5 b = true then Q4 (E8 a).1.reverse (E8 b).1.reverse else -1) else (if L5 b = true then 1 else S4 a b) := by
 rw [a1k, a7h, a7h]; by_cases h1 : L5 a = true <;> by_cases h2 : L5 b = true <;> simp [h1, h2]
def CoI (l m : List G3) (R : Int) (k : Nat) (τ : St) : Prop := τ 9 = .d (.clo 165 [.ref (K7 l), .ref (K7 m)]) ∧ τ 5 = .d (.ref (K7 l)) ∧ τ 7 = .d (.ref (K7 m)) ∧ τ 45 = .d (.int .i64 (min l.length m.length : Nat)) ∧ τ 46 = .d (.int .i64 k) ∧ Q4 (l.reverse.drop k) (m.reverse.drop k) = R
theorem c7g (a b : Nat) : (if (b : Int) < a then (b : Int) else a) = ((min a b : Nat) : Int) := by
 split <;> omega
theorem b7e (a b : Str) (ha : length a < 900000) (hb : length b < 900000) : Ctr prog 119 [.d (.str a), .d (.str b)] (.d (.int .i64 (a1k a b))) := by
 refine fv (fun i => false) func119 (by kernel_rfl) rfl rfl rfl rfl rfl ?_; have c1 := a2y a ha; have c2 := a2y b hb; have c3 := a8e a b; have f1 := (a1h a).1; have f2 := (a1h b).1; rw [c5g]; generalize (E8 a).1 = l at *; generalize (E8 b).1 = m at *; simp only [K7] at c1 c2; by_cases h1 : L5 a = true
 · by_cases h2 : L5 b = true
   · rw [if_pos h1, if_pos h2]; obtain ⟨R, hR⟩ : ∃ R, Q4 l.reverse m.reverse = R := ⟨_, rfl⟩; rw [hR]; simp -implicitDefEqProofs; refine A3 c1 ?_; simp -implicitDefEqProofs; refine A3 c2 ?_; simp -implicitDefEqProofs [h1, h2, c7g]; refine G7 (min l.length m.length) (CoI l m R) ⟨by simp [K7], by simp [K7], by simp [K7], by simp; split <;> omega, by simp, by simpa using hR⟩ ?_; rintro k τ hk ⟨g9, g5, g7, g45, g46, hI⟩; by_cases hlt : k < min l.length m.length
     · have hk1 : k < l.length := (by omega); have hk2 : k < m.length := (by omega); have hlt' : (k : Int) < ((min l.length m.length : Nat) : Int) := (by omega); have c4 := c1g l m k hk1 hk2 f1 f2; rw [c1I hk1 hk2] at hI; simp only [K7] at c4; generalize a0v (l[l.length - 1 - k]'(by omega)) (m[m.length - 1 - k]'(by omega)) = C at *; generalize hmn : min l.length m.length = N at *; by_cases h0 : C = 0
       · rw [if_pos h0] at hI; subst h0; simp -implicitDefEqProofs [g9, g5, g7, g45, g46, hlt']; refine A3 c4 ?_; simp -implicitDefEqProofs [g9, g5, g7, g45, g46, hlt']; (repeat refine ai (by omega) ?_); exact D5 hlt ⟨by simp [g9, K7], by simp [g5, K7], by simp [g7, K7], by simp [g45, hmn], by simp, hI⟩
       · rw [if_neg h0] at hI; rw [hI] at c4 h0; simp -implicitDefEqProofs [g9, g5, g7, g45, g46, hlt']; refine A3 c4 ?_; simp -implicitDefEqProofs [g9, g5, g7, g45, g46, hlt', h0]
     · have hke : k = min l.length m.length := (by omega); have hlt' : ¬ (k : Int) < ((min l.length m.length : Nat) : Int) := (by omega); have c4 := a9g l.length m.length; rw [c2X hke] at hI; rw [hI] at c4; generalize min l.length m.length = N at *; simp -implicitDefEqProofs [g9, g5, g7, g45, g46, hlt', K7]; refine A3 c4 ?_; simp -implicitDefEqProofs [g9, g5, g7, g45, g46]
   · simp -implicitDefEqProofs; refine A3 c1 ?_; simp -implicitDefEqProofs; refine A3 c2 ?_; simp -implicitDefEqProofs [h1, h2]
 · by_cases h2 : L5 b = true
   · simp -implicitDefEqProofs; refine A3 c1 ?_; simp -implicitDefEqProofs; refine A3 c2 ?_; simp -implicitDefEqProofs [h1, h2]
   · simp -implicitDefEqProofs; refine A3 c1 ?_; simp -implicitDefEqProofs; refine A3 c2 ?_; simp -implicitDefEqProofs [h1, h2]; refine A3 c3 ?_; simp -implicitDefEqProofs
abbrev VK := Str × Str
abbrev idC (c : Chg) : Str := c.2.2.1
abbrev opC (c : Chg) : Int := c.2.1
abbrev nmC (c : Chg) : Str := c.2.2.2.1
abbrev a0D (c : Chg) : VK := c.2.2.2.2
structure Abt where
 cr : Bool
 rm : Bool
 nm : Chg
 vs : List (VK × Chg)
def R7 : Abt := ⟨false, false, M3, []⟩
def ltM (a b : Chg) : Bool := decide (orI [H8 a.1 b.1, a0r (G6 a).1 (G6 b).1] < 0)
def O4 (a b : Chg) : Chg := if opC a = 0 ∨ (opC b ≠ 0 ∧ ltM a b = true) then b else a
def a0X (vs : List (VK × Chg)) (k : VK) : Option Chg := (vs.find? fun p => decide (p.1 = k)).map (·.2)
def a0T (vs : List (VK × Chg)) (k : VK) : Chg := (a0X vs k).getD M3
def a4c (vs : List (VK × Chg)) (k : VK) (c : Chg) : List (VK × Chg) := if vs.any (fun p => decide (p.1 = k)) then vs.map (fun p => if p.1 = k then (p.1, c) else p) else vs ++ [(k, c)]
def N6 (a : Abt) (c : Chg) : Abt :=
 if opC c = 1 then { a with cr := true, nm := O4 a.nm c }
 else if opC c = 3 then { a with nm := O4 a.nm c }
 else if opC c = 2 then { a with rm := true }
 else { a with vs := a4c a.vs (a0D c) (O4 (a0T a.vs (a0D c)) c) }
abbrev a4a := List (Str × Abt)
def Z1 (A : a4a) (id : Str) : Option Abt := (A.find? fun p => decide (p.1 = id)).map (·.2)
def a4I (A : a4a) (c : Chg) : a4a := if A.any (fun p => decide (p.1 = idC c)) then A.map (fun p => if p.1 = idC c then (p.1, N6 p.2 c) else p) else A ++ [(idC c, N6 R7 c)]
def S9 (R : List Chg) : a4a := R.foldl a4I []
theorem a5m (R : List Chg) (c : Chg) : S9 (R ++ [c]) = a4I (S9 R) c := by simp [S9]
theorem b3Z {A : a4a} {id : Str} : Z1 A id = none ↔ ∀ p ∈ A, p.1 ≠ id := by
 simp [Z1, find?_eq_none]
theorem c0C {A : a4a} {id : Str} {a : Abt} (hn : (A.map (·.1)).Nodup) : Z1 A id = some a ↔ (id, a) ∈ A := by
 induction A with
 | nil => simp [Z1]
 | cons p A ih =>
   rw [map_cons, nodup_cons] at hn; by_cases h : p.1 = id
   · have : Z1 (p :: A) id = some p.2 := (by simp [Z1, h]); rw [this]; constructor
     · intro e; simp only [Option.some.injEq] at e; subst e; subst h; exact mem_cons.2 (.inl rfl)
     · intro e; rcases mem_cons.1 e with e | e
       · rw [← e]
       · exact absurd (mem_map.2 ⟨_, e, rfl⟩) (by rw [← h]; exact hn.1)
   · have : Z1 (p :: A) id = Z1 A id := (by simp [Z1, h]); rw [this, ih hn.2]; constructor
     · intro e; exact mem_cons_of_mem _ e
     · intro e; rcases mem_cons.1 e with e | e
       · exact absurd (by rw [← e]) h
       · exact e
theorem c0c (A : a4a) (c : Chg) : (a4I A c).map (·.1) = if A.any (fun p => decide (p.1 = idC c)) then A.map (·.1) else A.map (·.1) ++ [idC c] := by
 unfold a4I; split
 · rw [map_map]; refine map_congr_left fun p _ => ?_
   simp only [Function.comp_apply]; split <;> rfl
 · simp
theorem b9X {A : a4a} (hn : (A.map (·.1)).Nodup) (c : Chg) : ((a4I A c).map (·.1)).Nodup := by
 rw [c0c]; split
 · exact hn
 · rename_i h
   refine nodup_append.2 ⟨hn, by simp, fun x hx z hz => ?_⟩; simp only [mem_singleton] at hz; subst hz; rintro rfl; obtain ⟨p, hp, e⟩ := mem_map.1 hx; exact h (any_eq_true.2 ⟨p, hp, by simpa using e⟩)
theorem a4j (R : List Chg) : ((S9 R).map (·.1)).Nodup := by
 have : ∀ (R : List Chg) (A : a4a), (A.map (·.1)).Nodup → ((R.foldl a4I A).map (·.1)).Nodup := by
   intro R
   induction R with
   | nil => intro A h; exact h
   | cons c R ih => intro A h; exact ih _ (b9X h c)
 exact this R [] (by simp)
def abF (R : List Chg) (id : Str) : Abt := (R.filter fun c => decide (idC c = id)).foldl N6 R7
theorem a0S (R : List Chg) (c : Chg) (id : Str) : abF (R ++ [c]) id = if idC c = id then N6 (abF R id) c else abF R id := by
 unfold abF; by_cases h : idC c = id <;> simp [h]
theorem U6 {α : Type} {P : List α → Prop} (h0 : P []) (h1 : ∀ l a, P l → P (l ++ [a])) (l : List α) : P l := by
 have : ∀ l : List α, P l.reverse := fun l => by
   induction l with
   | nil => exact h0
   | cons a l ih => rw [reverse_cons]; exact h1 _ _ ih
 simpa using this l.reverse
theorem b6n (k : Str) (f : Abt → Abt) (id : Str) : ∀ A : a4a, Z1 (A.map fun p => if p.1 = k then (p.1, f p.2) else p) id = if k = id then (Z1 A id).map f else Z1 A id
 | [] => by simp [Z1]
 | p :: A => by
   have ih := b6n k f id A; unfold Z1 at ih ⊢; rw [map_cons]; by_cases h1 : p.1 = k <;> by_cases h2 : p.1 = id
   · have : k = id := h1.symm.trans h2; simp [h1, h2, this]
   · have : ¬ k = id := fun e => h2 (h1.trans e)
     rw [if_neg this] at ih ⊢; simp [h1, h2, this]; simpa [h1] using ih
   · have : ¬ k = id := fun e => h1 (h2.trans e.symm)
     rw [if_neg h1, find?_cons_of_pos (by simpa using h2), find?_cons_of_pos (by simpa using h2), if_neg this]
   · rw [if_neg h1, find?_cons_of_neg (by simpa using h2), find?_cons_of_neg (by simpa using h2)]; exact ih
theorem c0n {A : a4a} (c : Chg) (id : Str) : Z1 (a4I A c) id = if idC c = id then some (N6 ((Z1 A id).getD R7) c) else Z1 A id := by
 unfold a4I; by_cases ha : A.any (fun p => decide (p.1 = idC c)) = true
 · rw [if_pos ha, b6n (idC c) (fun a => N6 a c) id A]; by_cases h : idC c = id
   · rw [if_pos h, if_pos h]; obtain ⟨p, hp, e⟩ := any_eq_true.1 ha; cases hg : Z1 A id with
     | none => exact absurd ((by simpa using e : p.1 = idC c).trans h) (b3Z.1 hg p hp)
     | some a => rfl
   · rw [if_neg h, if_neg h]
 · rw [if_neg ha]; have hn : Z1 A (idC c) = none := b3Z.2 fun p hp e => ha (any_eq_true.2 ⟨p, hp, by simpa using e⟩)
   by_cases h : idC c = id
   · rw [if_pos h]; rw [h] at hn; rw [hn]; unfold Z1 at hn ⊢; rw [find?_append]; cases hf : find? (fun p => decide (p.1 = id)) A with
     | some x => rw [hf] at hn; simp at hn
     | none => simp [h]
   · rw [if_neg h]; unfold Z1; rw [find?_append]; cases hf : find? (fun p => decide (p.1 = id)) A with
     | some x => simp
     | none => simp [h]
theorem c2Q {R : List Chg} {id : Str} (h : R.any (fun c => decide (idC c = id)) = false) : abF R id = R7 := by
 have : R.filter (fun c => decide (idC c = id)) = [] := by
   rw [filter_eq_nil_iff]; intro c hc; have := any_eq_false.1 h c hc; exact this
 simp [abF, this]
theorem c3z (R : List Chg) (id : Str) : Z1 (S9 R) id = if R.any (fun c => decide (idC c = id)) then some (abF R id) else none := by
 refine U6 (P := fun R => Z1 (S9 R) id = if R.any (fun c => decide (idC c = id)) then some (abF R id) else none) rfl (fun R c ih => ?_) R; rw [a5m, c0n, ih, a0S, any_append]; by_cases h : idC c = id
 · rw [if_pos h, if_pos h]; cases ha : R.any (fun c => decide (idC c = id)) with
   | true => simp
   | false => simp [h, c2Q ha]
 · simp only [h, if_false, any_cons, any_nil, decide_false, Bool.or_false]
theorem a6R {R : List Chg} {id : Str} {a : Abt} : (id, a) ∈ S9 R ↔ (∃ c ∈ R, idC c = id) ∧ a = abF R id := by
 rw [← c0C (a4j R), c3z]; by_cases h : R.any (fun c => decide (idC c = id)) = true
 · rw [if_pos h]; have h2 : ∃ c ∈ R, idC c = id := by
     obtain ⟨c, hc, e⟩ := any_eq_true.1 h; exact ⟨c, hc, by simpa using e⟩
   simp only [Option.some.injEq, h2, true_and]; exact eq_comm
 · rw [if_neg h]; simp only [reduceCtorEq, false_iff, not_and]; rintro ⟨c, hc, e⟩; exact absurd (any_eq_true.2 ⟨c, hc, by simpa using e⟩) h
def vkD (k : VK) : D := .agg [.str k.1, .str k.2]
def P5 (a : Abt) (x : D) : D := .agg [.bool a.cr, .bool a.rm, A6 a.nm, x]
abbrev Y9 := Str × Abt × Nat × Nat
def vsM (vs : List (VK × Chg)) : List (D × D) := vs.map fun p => (vkD p.1, A6 p.2)
def S0 (R : List Chg) : List (D × D) := R.map fun c => (A6 c, D.bool true)
def S6 (L : List Y9) : List (D × D) := L.map fun e => (D.str e.1, D.raw (va e.2.2.1))
def a3f (e : Y9) : List AV := [.hb (va e.2.2.1) 78 (P5 e.2.1 (.raw (.map (some e.2.2.2)))), .hm (.map (some e.2.2.2)) 101 (vsM e.2.1.vs) none]
def U5 (s r m : Nat) (R : List Chg) (L : List Y9) : List AV :=
 [.hb (va s) 65 (.agg [.raw (.map (some r)), .raw (.map (some m))]), .hm (.map (some r)) 35 (S0 R) none, .hm (.map (some m)) 9 (S6 L) none]
def stH (s r m : Nat) (R : List Chg) (L : List Y9) : List AV := U5 s r m R L ++ L.flatMap a3f
def a0m (L : List Y9) : a4a := L.map fun e => (e.1, e.2.1)
def AbD (a : Abt) (d : D) : Prop := ∃ u V bs clk, d = .ref (P5 a (.map u (V.map fun p => vkD p.1) (V.map fun p => A6 p.2) bs clk)) ∧ Perm V a.vs
def StD (R : List Chg) (d : D) : Prop := ∃ u1 R1 bs1 c1 u2 bs2 c2, ∃ M : List (Str × Abt × D), d = .ref (.agg [.map u1 (R1.map A6) (R1.map fun _ => .bool true) bs1 c1, .map u2 (M.map fun x => .str x.1) (M.map fun x => x.2.2) bs2 c2]) ∧
 Perm R1 R ∧ Perm (M.map fun x => (x.1, x.2.1)) (S9 R) ∧ ∀ x ∈ M, AbD x.2.1 x.2.2
theorem a2L {α β : Type} {f : α → β} {m x : List β} (h : Perm m x) : ∀ {l : List α}, x = l.map f → ∃ V, Perm V l ∧ V.map f = m := by
 induction h with
 | nil => intro l e; cases l <;> simp at e; exact ⟨[], .nil, rfl⟩
 | cons a _ ih =>
   intro l e; cases l with
   | nil => simp at e
   | cons y l =>
     simp only [map_cons, List.cons.injEq] at e; obtain ⟨rfl, e⟩ := e; obtain ⟨V, h1, h2⟩ := ih e; exact ⟨y :: V, h1.cons y, by simp [h2]⟩
 | swap a b l2 =>
   intro l e; cases l with
   | nil => simp at e
   | cons y l =>
     cases l with
     | nil => simp at e
     | cons z l =>
       simp only [map_cons, List.cons.injEq] at e; obtain ⟨rfl, rfl, rfl⟩ := e; exact ⟨z :: y :: l, Perm.swap y z l, by simp⟩
 | trans _ _ ih1 ih2 =>
   intro l e; obtain ⟨V, h1, h2⟩ := ih2 e; obtain ⟨V', h3, h4⟩ := ih1 h2.symm; exact ⟨V', h3.trans h1, h4⟩
theorem a6h {P : Program} {w : World} {L : Nat → Nat → Prop} {hs : List AV} : ∀ ds : List D, LnL P w L hs ds ds
 | [] => .nil
 | d :: ds => .cons (.same d) (a6h ds)
theorem c6Z {w : World} {L : Nat → Nat → Prop} {hs : List AV} (hr : ∀ x ∈ hs, RH prog w L x) {e : Y9} (he : ∀ x ∈ a3f e, x ∈ hs) : ∃ d, AbD e.2.1 d ∧ Ln prog w L hs (.raw (va e.2.2.1)) d := by
 have h1 := he (.hm (.map (some e.2.2.2)) 101 (vsM e.2.1.vs) none) (by simp [a3f]); have h2 := he (.hb (va e.2.2.1) 78 (P5 e.2.1 (.raw (.map (some e.2.2.2))))) (by simp [a3f]); obtain ⟨g, m', es, clk, k1, k2, k3, k4, k5, k6, _⟩ : a1z prog w L _ 101 (vsM e.2.1.vs) none (.map (some e.2.2.2)) := (hr _ h1).2; simp only [Value.map.injEq, Option.some.injEq] at k2; subst k2; obtain ⟨V, v1, v2⟩ := a2L k5 rfl; refine ⟨_, ⟨.map (some e.2.2.2), V, es.toList.map (·.born), clk, rfl, v1⟩, .box h2 ?_⟩; refine .agg (.cons (.same _) (.cons (.same _) (.cons (.same _) (.cons ?_ .nil)))); have := Ln.map (P := prog) h1 k3 k6 k5 (a6h _); rw [← v2] at this; simpa [Function.comp_def] using this
theorem b7v {w : World} {L : Nat → Nat → Prop} {hs : List AV} (hr : ∀ x ∈ hs, RH prog w L x) : ∀ {E : List Y9}, (∀ e ∈ E, ∀ x ∈ a3f e, x ∈ hs) →
   ∃ M : List (Str × Abt × D), (M.map fun x => (x.1, x.2.1)) = a0m E ∧ (M.map fun x => D.str x.1) = E.map (fun e => D.str e.1) ∧ LnL prog w L hs (E.map fun e => .raw (va e.2.2.1)) (M.map fun x => x.2.2) ∧ ∀ x ∈ M, AbD x.2.1 x.2.2
 | [], _ => ⟨[], rfl, rfl, .nil, by simp⟩
 | e :: E, he => by
   obtain ⟨M, m1, m2, m3, m4⟩ := b7v hr (E := E) (fun e' h' => he e' (by simp [h'])); obtain ⟨d, d1, d2⟩ := c6Z hr (he e (by simp)); refine ⟨(e.1, e.2.1, d) :: M, by simp [a0m] at m1 ⊢; exact m1, by simp at m2 ⊢; exact m2, .cons d2 m3, fun x hx => ?_⟩; rcases mem_cons.1 hx with rfl | hx
   · exact d1
   · exact m4 x hx
theorem b0k {w : World} {L : Nat → Nat → Prop} {hs : List AV} (hr : ∀ x ∈ hs, RH prog w L x) {s r m : Nat} {R : List Chg} {E : List Y9} (hE : a0m E = S9 R) (hh : ∀ x ∈ stH s r m R E, x ∈ hs) :
   ∃ d, StD R d ∧ Ln prog w L hs (.raw (va s)) d := by
 have h0 := hh (.hb (va s) 65 (.agg [.raw (.map (some r)), .raw (.map (some m))])) (by simp [stH, U5]); have h1 := hh (.hm (.map (some r)) 35 (S0 R) none) (by simp [stH, U5]); have h2 := hh (.hm (.map (some m)) 9 (S6 E) none) (by simp [stH, U5]); obtain ⟨g, m1, es1, c1, k1, k2, k3, k4, k5, k6, _⟩ : a1z prog w L _ 35 (S0 R) none (.map (some r)) := (hr _ h1).2; simp only [Value.map.injEq, Option.some.injEq] at k2; subst k2; obtain ⟨g, m2, es2, c2, q1, q2, q3, q4, q5, q6, _⟩ : a1z prog w L _ 9 (S6 E) none (.map (some m)) := (hr _ h2).2; simp only [Value.map.injEq, Option.some.injEq] at q2; subst q2; obtain ⟨R1, r1, r2⟩ := a2L k5 rfl; obtain ⟨E1, e1, e2⟩ := a2L q5 rfl; obtain ⟨M, n1, n2, n3, n4⟩ := b7v hr (E := E1) (fun e he x hx => hh x (by
   simp only [stH, mem_append, mem_flatMap]; exact .inr ⟨e, e1.mem_iff.1 he, hx⟩))
 refine ⟨_, ⟨.map (some r), R1, es1.toList.map (·.born), c1, .map (some m), es2.toList.map (·.born), c2, M, rfl, r1, ?_, n4⟩, .box h0 (.agg (.cons ?_ (.cons ?_ .nil)))⟩
 · rw [n1, ← hE]; exact e1.map _
 · have := Ln.map (P := prog) h1 k3 k6 k5 (a6h _); rw [← r2] at this; simpa [Function.comp_def] using this
 · have h3 : m2.map (·.2) = E1.map fun e => .raw (va e.2.2.1) := by rw [← e2]; simp [S6, Function.comp_def]
   have := Ln.map (P := prog) h2 q3 q6 q5 (by rw [h3]; exact n3); have h4 : m2.map (·.1) = M.map fun x => D.str x.1 := by rw [n2, ← e2]; simp [S6, Function.comp_def]
   rw [h4] at this; exact this
end Go.Proofs.Tz
namespace Go.Proofs.Tz
open Go.Vw
theorem b7Q (H : List AV) : ∀ rs : List Row, (∀ r ∈ rs, hnd r ∈ H) → FzL H (rs.map a1G) ((rs.map nv).map att)
 | [], _ => .nil
 | r :: rs, h => .cons (.agg (.cons (.same _) (.cons (.sl (h r (by simp))) .nil))) (b7Q H rs fun x hx => h x (by simp [hx]))
theorem c1X (l : List Att) (hl : a5N l) : Ctr prog 100 [.d (H9 l)] (.own true 72 ((G4 l).map att)) := by
 refine (b8J l hl).frozen (by simp) ?_; rintro r hs ⟨rs, rfl, rfl, hp, ha⟩; refine ⟨_, rfl, ?_⟩; have := b3K l (rs.map nv) hp (fun i j hij hj => by
   have := ha i j hij (by simpa using hj); simpa [nv] using this)
 rw [← this]; exact b7Q _ rs fun r hr => mem_map.2 ⟨r, hr, rfl⟩
theorem c1p (a b : List Att) (ha : a5N a) (hb : a5N b) (ha' : b2I (G4 a)) (hb' : b2I (G4 b)) : Ctr prog 26 [.d (H9 a), .d (H9 b)] (.d (.bool (decide (G4 a = G4 b)))) := by
 refine fv (fun _ => false) func26 (by kernel_rfl) rfl rfl rfl rfl rfl ?_; simp -implicitDefEqProofs; refine A3 (b1x a ha) ?_; simp -implicitDefEqProofs; refine A3 (b1x b hb) ?_; simp -implicitDefEqProofs; refine A3 (c4u _ _ ha' hb') ?_; simp -implicitDefEqProofs
theorem c0u (g : FuncId) (cs : List D) (hcs : (cs.all fun c => !c.isAgg) = true) (p : Str → Bool) (l : List Str) (hl : l.length < 1000000) (hp : ∀ a ∈ l, Ctr prog g ([.d (.str a)] ++ cs.map .d) (.d (.bool (p a)))) :
   Ctr prog 115 [.d (C7 l), .d (.clo g cs)] (.d (.int .i64 (a2Y p 0 l))) := by
 refine fv (fun _ => false) func115 (by kernel_rfl) rfl rfl rfl rfl rfl ?_; simp -implicitDefEqProofs [C7]; refine G7 l.length (fun k τ => τ 0 = .d (C7 l) ∧ τ 1 = .d (.clo g cs) ∧ τ 7 = .d (.int .i64 l.length) ∧ τ 8 = .d (.int .i64 k) ∧ a2Y p 0 l = a2Y p k (l.drop k)) (by simp [C7]) ?_; rintro k τ hk ⟨h0, h1, h7, h8, hi⟩; by_cases hlt : k < l.length
 · rw [c1A hlt] at hi; have hf := hp _ (gmm hlt); simp only [cons_append, nil_append] at hf; simp -implicitDefEqProofs [h0, h1, h7, h8, C7, hlt]; refine ⟨by simpa using hcs, A3 hf ?_⟩; by_cases he : p l[k] = true
   · simp -implicitDefEqProofs [h0, h1, h7, h8, C7, hlt, he]; rw [hi, if_pos he]
   · simp -implicitDefEqProofs [h0, h1, h7, h8, C7, hlt, he]; refine ⟨by omega, D5 hlt ⟨by simp [h0, C7], by simp [h1], by simp [h7], by simp, ?_⟩⟩; rw [hi, if_neg he]
 · simp -implicitDefEqProofs [h0, h1, h7, h8, C7, hlt]; rw [hi, drop_eq_nil_of_le (by omega)]; simp -implicitDefEqProofs [a2Y]
theorem b6E {α : Type} (p : α → Bool) : ∀ (l : List α) (k : Nat), a2Y p k l = -1 → l.filter (fun x => !p x) = l
 | [], k, _ => rfl
 | x :: l, k, h => by
   rw [a2Y] at h; by_cases hx : p x = true
   · rw [if_pos hx] at h; omega
   · rw [if_neg hx] at h; simp -implicitDefEqProofs [hx, b6E p l (k + 1) h]
theorem b5h {α : Type} (p : α → Bool) : ∀ (l : List α) (k : Nat), a2Y p k l ≠ -1 → ∃ i : Nat, a2Y p k l = ((k + i : Nat) : Int) ∧ i < l.length ∧ (l.take i).filter (fun x => !p x) = l.take i ∧ (l.take (i + 1)).filter (fun x => !p x) = l.take i
 | [], k, h => absurd rfl h
 | x :: l, k, h => by
   rw [a2Y] at h ⊢; by_cases hx : p x = true
   · rw [if_pos hx]; exact ⟨0, by simp, by simp, by simp, by simp [hx]⟩
   · rw [if_neg hx] at h ⊢; obtain ⟨i, h1, h2, h3, h4⟩ := b5h p l (k + 1) h; refine ⟨i + 1, by rw [h1]; omega, by simpa using h2, ?_, ?_⟩
     · simp -implicitDefEqProofs [hx, h3]
     · rw [take_succ_cons, filter_cons, if_pos (by simp [hx]), h4, take_succ_cons]
end Go.Proofs.Tz
namespace Go.Proofs.Tz
open Go.Vw Go.Lib
theorem b7a (l : List Att) : (G4 l).Perm (((grp l).filter a4f).map a2l) := by
 have hp : ((((grp l).filter a4f).map a2l).mergeSort fun a b => decide (a.1 ≤ b.1)).Perm (((grp l).filter a4f).map a2l) := mergeSort_perm _ _; have hs := pairwise_mergeSort (le := fun a b : Att => decide (a.1 ≤ b.1)) (fun a b c h1 h2 => by
   simp only [decide_eq_true_eq] at *; exact List.le_trans h1 h2) (fun a b => by
   simp only [Bool.or_eq_true, decide_eq_true_eq]; exact List.le_total a.1 b.1) (((grp l).filter a4f).map a2l)
 rw [← b3K l _ hp (fun i j hij hj => by
   have := pairwise_iff_getElem.1 hs i j (by omega) hj hij; rw [b3b]; simpa using this)]
 exact hp
theorem b7p (l : List Str) : (compact l).length ≤ l.length := by
 have key : ∀ m, (compactUpTo l.toArray m).length ≤ m := by
   intro m
   induction m with
   | zero => simp [compactUpTo]
   | succ m ih =>
     rw [compactUpTo_succ]; split <;> simp <;> omega
 exact key l.length
theorem b8i {a b : List Att} (h : a.Perm b) : I4 a = I4 b := (h.map _).sum_nat
theorem b9k (l : List Att) : I4 ((l.filter a4f).map a2l) ≤ I4 l := by
 induction l with
 | nil => simp [I4]
 | cons a l ih =>
   have hc := b7p (I7 a.2); have hs : (I7 a.2).length = a.2.length := (by simp [I7]); rw [filter_cons]; split
   · simp only [map_cons, I4, sum_cons] at ih ⊢; simp only [a2l]; omega
   · simp only [I4, map_cons, sum_cons] at ih ⊢; omega
theorem a7T (l : List Att) : I4 (G4 l) ≤ I4 l := by
 rw [b8i (b7a l), ← a8L l]; exact b9k _
theorem a9J {l : List Att} {x : Att} (h : x ∈ G4 l) : ∃ a ∈ l, a.2 ≠ [] ∧ D9 a.1 = x.1 := by
 obtain ⟨n, hn, rfl⟩ := mem_map.1 h; have hN := (a1i l [] (by simp [SS])).2 n; rw [show l.foldl Y8 [] = X6 l from rfl] at hN; rcases hN.1 hn with h | h
 · simp at h
 · exact h
theorem b9c {l : List Att} {x : Att} (h : x ∈ G4 l) {v : Str} (hv : v ∈ x.2) : ∃ a ∈ l, D9 a.1 = x.1 ∧ v ∈ a.2 := by
 obtain ⟨n, hn, rfl⟩ := mem_map.1 h; have hV := (a0P n l [] (by simp [SS])).2 v; rw [show l.foldl (a0V n) [] = a0A l n from rfl] at hV; rcases hV.1 hv with h | h
 · simp at h
 · exact h
theorem b7t {l : List Att} (hl : a5N l) : a5N (G4 l) := by
 refine ⟨⟨Nat.lt_of_le_of_lt (b9r l) hl.1.1, fun x hx => ⟨?_, ?_⟩⟩, Nat.lt_of_le_of_lt (a7T l) hl.2⟩
 · obtain ⟨a, ha, _, e⟩ := a9J hx; rw [← e, T4]; exact (hl.1.2 a ha).1
 · have h1 := a8F hx; have h2 := a7T l; have h3 := hl.2; omega
def b2X (l : List Att) (n v : Str) : Prop := ∃ a ∈ l, D9 a.1 = n ∧ v ∈ a.2
structure NF (s : List Att) : Prop where
 names : SS (s.map (·.1))
 vals : ∀ x ∈ s, SS x.2
 ne : ∀ x ∈ s, x.2 ≠ []
theorem c1P (c : UInt8) : a1I (a1I c) = a1I c := by
 unfold a1I; by_cases h : 65 ≤ (c.toNat : Int) ∧ (c.toNat : Int) ≤ 90
 · rw [if_pos h, if_neg]; rw [UInt8.toNat_add]; have : (32 : UInt8).toNat = 32 := rfl; omega
 · rw [if_neg h, if_neg h]
theorem b6O (s : Str) : D9 (D9 s) = D9 s := by simp [D9, c1P]
theorem b4t (l : List Att) : NF (G4 l) := by
 have hN := a1i l [] (by simp [SS]); refine ⟨?_, fun x hx => ?_, fun x hx => ?_⟩
 · rw [G4, map_map]; rw [show ((fun x : Att => x.1) ∘ fun n => (n, a0A l n)) = id from rfl, map_id]; exact hN.1
 · obtain ⟨n, _, rfl⟩ := mem_map.1 hx; exact (a0P n l [] (by simp [SS])).1
 · obtain ⟨n, hn, rfl⟩ := mem_map.1 hx; have hV := (a0P n l [] (by simp [SS])).2; rcases (hN.2 n).1 hn with h | ⟨a, ha, hne, e⟩
   · simp at h
   · obtain ⟨v, hv⟩ := exists_mem_of_ne_nil _ hne; exact ne_nil_of_mem ((hV v).2 (.inr ⟨a, ha, e, hv⟩))
theorem a6L (l : List Att) (n v : Str) : Has (G4 l) n v ↔ b2X l n v := by
 have hN := a1i l [] (by simp [SS]); constructor
 · rintro ⟨x, hx, rfl, hv⟩; obtain ⟨a, ha, e, h⟩ := b9c hx hv; exact ⟨a, ha, e, h⟩
 · rintro ⟨a, ha, e, hv⟩; refine ⟨(n, a0A l n), mem_map.2 ⟨n, ?_, rfl⟩, rfl, ?_⟩
   · exact (hN.2 n).2 (.inr ⟨a, ha, ne_nil_of_mem hv, e⟩)
   · exact ((a0P n l [] (by simp [SS])).2 v).2 (.inr ⟨a, ha, e, hv⟩)
theorem a8T {α : Type} {l : List α} (h : l.Nodup) {i j : Nat} (hi : i < l.length) (hj : j < l.length) (e : l[i] = l[j]) : i = j := by
 have h1 := pairwise_iff_getElem.1 h; rcases Nat.lt_trichotomy i j with h2 | h2 | h2
 · exact absurd e (h1 i j hi hj h2)
 · exact h2
 · exact absurd e.symm (h1 j i hj hi h2)
theorem c0f {s : List Att} (hs : NF s) {x y : Att} (hx : x ∈ s) (hy : y ∈ s) (h : x.1 = y.1) : x = y := by
 have hnd := hs.names.nodup; obtain ⟨i, hi, rfl⟩ := mem_iff_getElem.1 hx; obtain ⟨j, hj, rfl⟩ := mem_iff_getElem.1 hy; have := a8T hnd (i := i) (j := j) (by simpa using hi) (by simpa using hj) (by simpa using h); subst this; rfl
theorem c6U {s t : List Att} (hs : NF s) (ht : NF t) (h : ∀ n v, Has s n v ↔ Has t n v) : s = t := by
 have e1 : s.map (·.1) = t.map (·.1) := by
   refine a7F hs.names ht.names fun n => ?_
   constructor
   · intro hn; obtain ⟨x, hx, rfl⟩ := mem_map.1 hn; obtain ⟨v, hv⟩ := exists_mem_of_ne_nil _ (hs.ne x hx); obtain ⟨y, hy, e, _⟩ := (h x.1 v).1 ⟨x, hx, rfl, hv⟩; exact mem_map.2 ⟨y, hy, e⟩
   · intro hn; obtain ⟨x, hx, rfl⟩ := mem_map.1 hn; obtain ⟨v, hv⟩ := exists_mem_of_ne_nil _ (ht.ne x hx); obtain ⟨y, hy, e, _⟩ := (h x.1 v).2 ⟨x, hx, rfl, hv⟩; exact mem_map.2 ⟨y, hy, e⟩
 have hl : s.length = t.length := by simpa using congrArg length e1
 refine ext_getElem hl fun i h1 h2 => ?_
 have en : s[i].1 = t[i].1 := by
   have := getElem_of_eq e1 (i := i) (by simpa using h1); simpa using this
 refine Prod.ext en ?_; refine a7F (hs.vals _ (gmm h1)) (ht.vals _ (gmm h2)) fun v => ?_
 constructor
 · intro hv; obtain ⟨y, hy, e, hv⟩ := (h s[i].1 v).1 ⟨_, gmm h1, rfl, hv⟩; rw [← c0f ht hy (gmm h2) (e.trans en)]; exact hv
 · intro hv; obtain ⟨y, hy, e, hv⟩ := (h t[i].1 v).2 ⟨_, gmm h2, rfl, hv⟩; rw [← c0f hs hy (gmm h1) (e.trans en.symm)]; exact hv
theorem b1m {a b : List Att} (h : ∀ n v, b2X a n v ↔ b2X b n v) : G4 a = G4 b :=
 c6U (b4t a) (b4t b) fun n v => by rw [a6L, a6L, h]
theorem b1I {l : List Att} {x : Att} (h : x ∈ G4 l) : D9 x.1 = x.1 := by
 obtain ⟨a, _, _, e⟩ := a9J h; rw [← e, b6O]
theorem b7k (l : List Att) (n v : Str) : b2X (G4 l) n v ↔ b2X l n v := by
 rw [← a6L l n v]; constructor
 · rintro ⟨x, hx, e, hv⟩; exact ⟨x, hx, (b1I hx).symm.trans e, hv⟩
 · rintro ⟨x, hx, e, hv⟩; exact ⟨x, hx, (b1I hx).trans e, hv⟩
theorem b7s (l : List Att) : G4 (G4 l) = G4 l := b1m (b7k l)
end Go.Proofs.Tz
namespace Go.Proofs.Tz
open Go.Vw Go.RowKit Go.Proofs Go.Sort
structure a1H (K ss : List Str) (seen : List D) : Prop where
 eq : seen = ss.map .str
 nd : ss.Nodup
 sub : ∀ s ∈ ss, s ∈ K
theorem a1H.nil (K : List Str) : a1H K [] [] := ⟨rfl, nodup_nil, by simp⟩
theorem a1H.mem {K ss : List Str} {seen : List D} (h : a1H K ss seen) {s : Str} : D.str s ∈ seen ↔ s ∈ ss := by
 rw [h.eq]; simp
theorem a1H.next {K ss : List Str} {seen : List D} (h : a1H K ss seen) {s : Str} (hs : s ∈ K) (hn : D.str s ∉ seen) : a1H K (ss ++ [s]) (seen ++ [.str s]) := by
 rw [h.mem] at hn; refine ⟨by rw [h.eq]; simp, ?_, ?_⟩
 · rw [nodup_append]; refine ⟨h.nd, by simp, ?_⟩; intro a ha b hb; simp only [mem_singleton] at hb; subst hb; rintro rfl; exact hn ha
 · intro x hx; rcases mem_append.1 hx with hx | hx
   · exact h.sub x hx
   · simp only [mem_singleton] at hx; subst hx; exact hs
theorem a1H.le {K ss : List Str} {seen : List D} (h : a1H K ss seen) (hK : K.Nodup) : ss.length ≤ K.length := by
 have hp : ss.Perm (K.filter fun s => decide (s ∈ ss)) := (perm_ext_iff_of_nodup h.nd (hK.filter _)).2 fun s => by
   simp only [mem_filter, decide_eq_true_eq]; exact ⟨fun hs => ⟨h.sub s hs, hs⟩, fun hs => hs.2⟩
 rw [hp.length_eq]; exact length_filter_le _ _
theorem a1H.lt {K ss : List Str} {seen : List D} (h : a1H K ss seen) (hK : K.Nodup) {s : Str} (hs : s ∈ K) (hn : D.str s ∉ seen) : ss.length < K.length := by
 have := (h.next hs hn).le hK; simp only [length_append, length_singleton] at this; omega
theorem a1H.all {K ss : List Str} {seen : List D} (h : a1H K ss seen) (hK : K.Nodup) (ha : ∀ s ∈ K, D.str s ∈ seen) : ss.Perm K :=
 (perm_ext_iff_of_nodup h.nd hK).2 fun s => ⟨h.sub s, fun hs => h.mem.1 (ha s hs)⟩
theorem a9G {α : Type} (f : α → Bool) (l : List α) (x : α) : (l ++ [x]).filter f = l.filter f ++ (if f x = true then [x] else []) := by
 rw [filter_append]; by_cases h : f x = true <;> simp [h]
abbrev a0I := Str × Abt × D
def V8 (u1 : Value) (R1 : List Chg) (bs1 : List Nat) (c1 : Nat) (u2 : Value) (M : List a0I) (bs2 : List Nat) (c2 : Nat) : D :=
 .ref (.agg [.map u1 (R1.map A6) (R1.map fun _ => .bool true) bs1 c1, .map u2 (M.map fun x => .str x.1) (M.map fun x => x.2.2) bs2 c2])
structure MR (R : List Chg) (M : List a0I) : Prop where
 perm : Perm (M.map fun x => (x.1, x.2.1)) (S9 R)
 ab : ∀ x ∈ M, AbD x.2.1 x.2.2
theorem StD.open {R : List Chg} {d : D} (h : StD R d) : ∃ u1 R1 bs1 c1 u2 M bs2 c2, d = V8 u1 R1 bs1 c1 u2 M bs2 c2 ∧ Perm R1 R ∧ MR R M := by
 obtain ⟨u1, R1, bs1, c1, u2, bs2, c2, M, h1, h2, h3, h4⟩ := h; exact ⟨u1, R1, bs1, c1, u2, M, bs2, c2, h1, h2, h3, h4⟩
theorem MR.keys {R : List Chg} {M : List a0I} (h : MR R M) : Perm (M.map (·.1)) ((S9 R).map (·.1)) := by
 have := h.perm.map (·.1); simpa [Function.comp_def] using this
theorem MR.nodup {R : List Chg} {M : List a0I} (h : MR R M) : (M.map (·.1)).Nodup := h.keys.nodup_iff.2 (a4j R)
theorem MR.has {R : List Chg} {M : List a0I} (h : MR R M) {c : Chg} (hc : c ∈ R) : ∃ d, (idC c, abF R (idC c), d) ∈ M ∧ AbD (abF R (idC c)) d := by
 have : (idC c, abF R (idC c)) ∈ M.map fun x => (x.1, x.2.1) := h.perm.mem_iff.2 (a6R.2 ⟨⟨c, hc, rfl⟩, rfl⟩)
 obtain ⟨x, hx, e⟩ := mem_map.1 this; obtain ⟨i, a, d⟩ := x; simp only [Prod.mk.injEq] at e; obtain ⟨rfl, rfl⟩ := e; exact ⟨d, hx, h.ab _ hx⟩
def a8n (M : List a0I) : List (D × D) := M.map fun x => (D.str x.1, x.2.2)
theorem a7b (M : List a0I) : (M.map fun x => D.str x.1).zip (M.map fun x => x.2.2) = a8n M := by
 induction M with
 | nil => rfl
 | cons x M ih => simp only [map_cons, zip_cons_cons, ih, a8n]
theorem L9 (a b : Str) : H1 (.str a) (.str b) = decide (a = b) := rfl
theorem c2q {M : List a0I} (hn : (M.map (·.1)).Nodup) {id : Str} {a : Abt} {d : D} (h : (id, a, d) ∈ M) : M5 (a8n M) (.str id) = some d := by
 induction M with
 | nil => simp at h
 | cons x M ih =>
   rw [map_cons, nodup_cons] at hn; rcases mem_cons.1 h with rfl | h
   · simp [M5, a8n, L9]
   · have hne : ¬ x.1 = id := fun e => hn.1 (mem_map.2 ⟨_, h, e.symm⟩)
     have := ih hn.2 h; simp only [M5, a8n, map_cons, find?_cons, L9, decide_eq_false hne] at this ⊢; exact this
theorem a3p (u1 : Value) (R1 : List Chg) (bs1 : List Nat) (c1 : Nat) (u2 : Value) (M : List a0I) (bs2 : List Nat) (c2 : Nat) : Ctr prog 39 [.d (V8 u1 R1 bs1 c1 u2 M bs2 c2)] (.d (.bool true)) := by
 refine fv (fun _ => false) func39 (by kernel_rfl) rfl rfl rfl rfl rfl ?_; simp -implicitDefEqProofs [V8]
def a2A (a : Abt) : Bool := a.cr && !a.rm
def a3s (R : List Chg) : List Str := ((S9 R).filter fun p => a2A p.2).map (·.1)
def B9 (R : List Chg) : List Str := I7 (a3s R)
def a0n (M : List a0I) (s : Str) : Bool := M.any fun x => decide (x.1 = s) && a2A x.2.1
theorem b2d {l m : List Str} (h : l.Perm m) : I7 l = I7 m := by
 unfold I7; refine Perm.eq_of_pairwise (le := fun x y => decide (x ≤ y) = true) (fun a b _ _ x y => List.le_antisymm (by simpa using x) (by simpa using y)) ?_ ?_ ((mergeSort_perm _ _).trans (h.trans (mergeSort_perm _ _).symm))
 · exact pairwise_mergeSort (fun a b c h1 h2 => by simp at h1 h2 ⊢; exact List.le_trans h1 h2) (fun a b => by simp; exact List.le_total a b) _
 · exact pairwise_mergeSort (fun a b c h1 h2 => by simp at h1 h2 ⊢; exact List.le_trans h1 h2) (fun a b => by simp; exact List.le_total a b) _
theorem b5C {M : List a0I} (hn : (M.map (·.1)).Nodup) {x : a0I} (hx : x ∈ M) : a0n M x.1 = a2A x.2.1 := by
 unfold a0n; cases h : a2A x.2.1 with
 | true => exact any_eq_true.2 ⟨x, hx, by simp [h]⟩
 | false =>
   rw [any_eq_false]; intro y hy e; simp only [Bool.and_eq_true, decide_eq_true_eq] at e; have : y = x := by
     obtain ⟨i, hi, e1⟩ := getElem_of_mem hy; obtain ⟨j, hj, e2⟩ := getElem_of_mem hx; have := a8T hn (i := i) (j := j) (by simpa using hi) (by simpa using hj) (by simp [e1, e2, e.1]); subst this; rw [← e1, ← e2]
   rw [this, h] at e; simp at e
theorem c2f {R : List Chg} {M : List a0I} (h : MR R M) : ((M.map (·.1)).filter (a0n M)).Perm (a3s R) := by
 have h1 : (M.map (·.1)).filter (a0n M) = ((M.map fun x => (x.1, x.2.1)).filter fun p => a2A p.2).map (·.1) := by
   have : ∀ N : List a0I, (∀ x ∈ N, x ∈ M) → (N.map (·.1)).filter (a0n M) = ((N.map fun x => (x.1, x.2.1)).filter fun p => a2A p.2).map (·.1) := by
     intro N
     induction N with
     | nil => intro _; rfl
     | cons x N ih =>
       intro hN; have e := b5C h.nodup (hN x (by simp)); rw [map_cons, filter_cons, map_cons, filter_cons, e, ih (fun y hy => hN y (by simp [hy]))]; by_cases hb : a2A x.2.1 = true <;> simp [hb]
   exact this M fun _ h => h
 rw [h1]; exact (h.perm.filter _).map _
theorem c3w {M : List a0I} {k v : D} (h : (k, v) ∈ a8n M) : ∃ x ∈ M, k = .str x.1 ∧ v = x.2.2 := by
 obtain ⟨x, hx, e⟩ := mem_map.1 h; simp only [Prod.mk.injEq] at e; exact ⟨x, hx, e.1.symm, e.2.symm⟩
theorem c3Q {M : List a0I} {seen : List D} (h : ∀ p ∈ a8n M, p.1 ∈ seen) : ∀ s ∈ M.map (·.1), D.str s ∈ seen := by
 intro s hs; obtain ⟨x, hx, rfl⟩ := mem_map.1 hs; exact h (.str x.1, x.2.2) (mem_map.2 ⟨x, hx, rfl⟩)
theorem b2b (M : List a0I) : ∀ k ∈ M.map (fun x => D.str x.1), H1 k k = true := by
 intro k hk; obtain ⟨x, _, rfl⟩ := mem_map.1 hk; simp [L9]
def LvI (sd : D) (u2 : Value) (M : List a0I) (bs2 : List Nat) (c2 : Nat) (k : Nat) (τ : St) : Prop := ∃ ss seen, a1H (M.map (·.1)) ss seen ∧ ss.length = k ∧ τ 0 = .d sd ∧ τ 3 = .own true 9 ((ss.filter (a0n M)).map .str) ∧
 τ 12 = .d (.map u2 (M.map fun x => .str x.1) (M.map fun x => x.2.2) bs2 c2) ∧ τ 13 = .mit u2 ((M.map fun x => D.str x.1).zip bs2, c2) seen
theorem a3m (R : List Chg) (d : D) (hd : StD R d) (hl : (S9 R).length < 100000) : Ctr prog 27 [.d d] (.own true 9 ((B9 R).map .str)) := by
 obtain ⟨u1, R1, bs1, c1, u2, M, bs2, c2, rfl, hR1, hM⟩ := hd.open; have hml : M.length < 100000 := by have := hM.perm.length_eq; simp at this; omega
 have hlive : I7 ((M.map (·.1)).filter (a0n M)) = B9 R := b2d (c2f hM); rw [← hlive]; refine fv (fun i => i == 2 || i == 3 || i == 33 || i == 3000035) func27 (by kernel_rfl) rfl rfl rfl rfl rfl ?_; simp -implicitDefEqProofs; refine A3 (a3p u1 R1 bs1 c1 u2 M bs2 c2) ?_; simp -implicitDefEqProofs [V8]; obtain ⟨sd, hsd⟩ : ∃ sd, V8 u1 R1 bs1 c1 u2 M bs2 c2 = sd := ⟨_, rfl⟩; refine G7 M.length (LvI sd u2 M bs2 c2) ⟨[], [], a1H.nil _, rfl, by simp [← hsd, V8], by simp, by simp, by simp⟩ ?_; rintro k τ hk ⟨ss, seen, hS, hsl, g0, g3, g12, g13⟩; have hfs : ∀ s, (ss ++ [s]).filter (a0n M) = _ := a9G (a0n M) ss; have hll : (ss.filter (a0n M)).length ≤ M.length := by
   have h1 := length_filter_le (a0n M) ss; have h2 := hS.le hM.nodup; simp only [length_map] at h2; omega
 simp -implicitDefEqProofs [g0, g3, g12, g13]; refine c7R (vs := M.map fun x => x.2.2) 12 (by simp [g12]) (b2b M) (fun x v hm hn => ?_) (fun hall => ?_)
 · rw [a7b] at hm; obtain ⟨x, hx, rfl, rfl⟩ := c3w hm; have hin : x.1 ∈ M.map (·.1) := mem_map.2 ⟨x, hx, rfl⟩; have hS2 := hS.next hin hn; have hlt := hS.lt hM.nodup hin hn; rw [hsl, length_map] at hlt; have hlv := b5C hM.nodup hx; have hfx := hfs x.1; rw [hlv] at hfx; obtain ⟨u, V, bs, clk, hd1, hV⟩ := hM.ab x hx; rw [← a7b] at hm; simp -implicitDefEqProofs [g0, g3, g12, g13]; refine c7Y (vs := M.map fun x => x.2.2) 12 (by simp [g12]) (b2b M) hm ?_; rw [hd1]; generalize hT2 : (ss ++ [x.1]).filter (a0n M) = T2 at *; generalize hT : ss.filter (a0n M) = T at *; have hli : a2A x.2.1 = (x.2.1.cr && !x.2.1.rm) := rfl; cases hcr : x.2.1.cr <;> cases hrm : x.2.1.rm <;> rw [hcr, hrm] at hli <;> simp only [hli] at hfx <;> simp at hfx
   all_goals simp -implicitDefEqProofs [g0, g3, g12, g13, P5, hcr, hrm]
   all_goals first
     | (refine D5 hlt ⟨ss ++ [x.1], seen ++ [.str x.1], hS2, by simp [hsl], by simp [g0], by simp [g3, hT2, hfx], by simp [g12], by simp⟩; done)
     | (repeat refine ai (by omega) ?_
        exact D5 hlt ⟨ss ++ [x.1], seen ++ [.str x.1], hS2, by simp [hsl], by simp [g0], by simp [hT2, hfx], by simp [g12], by simp⟩)
 · rw [a7b] at hall; have hp := (hS.all hM.nodup (c3Q hall)).filter (a0n M); have c1 := b2S (ss.filter (a0n M)) (by omega); rw [b2d hp] at c1; generalize ss.filter (a0n M) = T at *; generalize I7 ((M.map (·.1)).filter (a0n M)) = T2 at *; simp -implicitDefEqProofs [g0, g3, g12, g13]; refine b6e c1 ?_; simp -implicitDefEqProofs [g0, g3, g12, g13]
def M8 (R : List Chg) (id : Str) : Str := nmC (abF R id).nm
abbrev SM := List (Str × Str)
def O6 (m : SM) : List (D × D) := m.map fun p => (D.str p.1, D.str p.2)
def K9 (m : SM) (k : Str) : Option Str := (m.find? fun p => decide (p.1 = k)).map (·.2)
def O5 (R : List Chg) (l : List Str) : SM := l.foldl (fun m id => if (K9 m (M8 R id)).isSome then m else m ++ [(M8 R id, id)]) []
theorem b3j (R : List Chg) (l : List Str) (id : Str) : O5 R (l ++ [id]) = if (K9 (O5 R l) (M8 R id)).isSome then O5 R l else O5 R l ++ [(M8 R id, id)] := by unfold O5; rw [foldl_append]; rfl
theorem a3N (m : SM) (k : Str) : M5 (O6 m) (.str k) = (K9 m k).map .str := by
 induction m with
 | nil => rfl
 | cons p m ih =>
   simp only [M5, O6, K9, map_cons, find?_cons, L9] at ih ⊢; by_cases h : p.1 = k
   · simp [h]
   · simp only [decide_eq_false h]; exact ih
theorem a7y {m : SM} {k v : Str} (h : K9 m k = none) : S1 (O6 m) (.str k) (.str v) = O6 (m ++ [(k, v)]) := by
 have : (O6 m).any (fun p => H1 p.1 (.str k)) = false := by
   rw [any_eq_false]; intro p hp; obtain ⟨q, hq, rfl⟩ := mem_map.1 hp; simp only [K9, Option.map_eq_none_iff, find?_eq_none] at h; simpa [L9] using h q hq
 unfold S1; rw [this]; simp [O6]
theorem A9 (c : Csn) : B6 (B0 c) = 3 := rfl
theorem G1 (s : Str) : E0 prog 9 (.str s) = true := rfl
theorem a5n (M : List a0I) : ∀ k ∈ M.map (fun x => D.str x.1), E0 prog 9 k = true := by
 intro k hk; obtain ⟨x, _, rfl⟩ := mem_map.1 hk; exact G1 _
theorem a4k : Program.underlying prog 63 = some (.map 9 75) := by kernel_rfl
theorem Y1 : Program.underlying prog 80 = some (.map 9 9) := by kernel_rfl
theorem a5z {R : List Chg} {id : Str} : id ∈ B9 R ↔ (∃ c ∈ R, idC c = id) ∧ a2A (abF R id) = true := by
 unfold B9 a3s; rw [b4s, mem_map]; constructor
 · rintro ⟨p, hp, rfl⟩; obtain ⟨h1, h2⟩ := mem_filter.1 hp; obtain ⟨h3, h4⟩ := a6R.1 h1; exact ⟨h3, by rw [← h4]; exact h2⟩
 · rintro ⟨h1, h2⟩; exact ⟨(id, abF R id), mem_filter.2 ⟨a6R.2 ⟨h1, rfl⟩, h2⟩, rfl⟩
theorem a0K (R : List Chg) : (B9 R).length ≤ (S9 R).length := by
 unfold B9 a3s I7; rw [length_mergeSort, length_map]; exact length_filter_le _ _
theorem MR.live {R : List Chg} {M : List a0I} (h : MR R M) {id : Str} (hid : id ∈ B9 R) : ∃ d, M5 (a8n M) (.str id) = some d ∧ AbD (abF R id) d := by
 obtain ⟨⟨c, hc, rfl⟩, _⟩ := a5z.1 hid; obtain ⟨d, h1, h2⟩ := h.has hc; exact ⟨d, c2q h.nodup h1, h2⟩
def OwI (R : List Chg) (sd : D) (g : Nat) (k : Nat) (τ : St) : Prop := τ 0 = .d sd ∧ τ 3 = .d (.raw (.map (some g))) ∧ τ 11 = .own false 9 ((B9 R).map .str) ∧ τ 12 = .d (.int .i64 (B9 R).length) ∧ τ 13 = .d (.int .i64 k) ∧
 τ 1000000 = .hm (.map (some g)) 9 (O6 (O5 R ((B9 R).take k))) none
theorem b4c (R : List Chg) (d : D) (hd : StD R d) (hl : (S9 R).length < 100000) : H5 prog 63 [.d d] [] (fun r hs' => ∃ g, r = .d (.raw (.map (some g))) ∧ hs' = [.hm (.map (some g)) 9 (O6 (O5 R (B9 R))) none]) := by
 obtain ⟨u1, R1, bs1, c1, u2, M, bs2, c2, rfl, hR1, hM⟩ := hd.open; have hll := a0K R; have hlv := a3m R _ hd hl; refine a1P (fun _ => false) (by kernel_rfl) func63 (by kernel_rfl) rfl rfl (nbl rfl) (by kernel_rfl) rfl ?_; simp -implicitDefEqProofs [A7]; refine b0U 9 1000000 (by simp [A7]) (fun g => ?_); simp -implicitDefEqProofs [A7]; refine A3 hlv ?_; simp -implicitDefEqProofs [A7]; obtain ⟨sd, hsd⟩ : ∃ sd, V8 u1 R1 bs1 c1 u2 M bs2 c2 = sd := ⟨_, rfl⟩; refine G7 (B9 R).length (OwI R sd g) ⟨by simp [A7, ← hsd], by simp [A7], by simp [A7], by simp [A7], by simp [A7], by simp [A7, O5, O6]⟩ ?_; rintro k τ hk ⟨g0, g3, g11, g12, g13, gA⟩; by_cases hlt : k < (B9 R).length
 · have hlt' : (k : Int) < (B9 R).length := (by omega); obtain ⟨id, hid⟩ : ∃ id, (B9 R)[k] = id := ⟨_, rfl⟩; have hin : id ∈ B9 R := by rw [← hid]; exact gmm _
   obtain ⟨d, hg1, hab⟩ := hM.live hin; obtain ⟨u, V, bs, clk, hd1, hV⟩ := hab; have htk : (B9 R).take (k + 1) = (B9 R).take k ++ [id] := by rw [F6 hlt, hid]
   have hsn := b3j R ((B9 R).take k) id; rw [← htk] at hsn; have chg_eq : A6 (abF R id).nm = .agg [B0 (abF R id).nm.1, .int .i64 (abF R id).nm.2.1, .str (abF R id).nm.2.2.1, .str (M8 R id), .str (abF R id).nm.2.2.2.2.1, .str (abF R id).nm.2.2.2.2.2] := rfl; have hmg := a3N (O5 R ((B9 R).take k)) (M8 R id); rw [← a7b] at hg1; rw [hd1] at hg1; simp -implicitDefEqProofs [g0, g3, g11, g12, g13, ← hsd, V8, hlt, hlt', hid]; refine a0j a4k (G1 _) (a5n M) Tryz.zd_75 hg1 ?_; simp -implicitDefEqProofs [g0, g3, g11, g12, g13, P5, chg_eq, A9]; cases hs : K9 (O5 R ((B9 R).take k)) (M8 R id) with
   | some v =>
     rw [hs] at hsn hmg; simp at hsn; refine a1m (m := O6 (O5 R ((B9 R).take k))) (E := none) 1000000 (by omega) Y1 (by simp [gA]) (G1 _) Tryz.zd_9 hmg ?_; simp -implicitDefEqProofs [g0, g3, g11, g12, g13, hlt]; (repeat refine ai (by omega) ?_); exact D5 hlt ⟨by simp [g0, ← hsd, V8], by simp [g3], by simp [g11], by simp [g12], by simp, by simp [gA, hsn]⟩
   | none =>
     rw [hs] at hsn hmg; simp at hsn; refine a1m (m := O6 (O5 R ((B9 R).take k))) (E := none) 1000000 (by omega) Y1 (by simp [gA]) (G1 _) Tryz.zd_9 hmg ?_; simp -implicitDefEqProofs [g0, g3, g11, g12, g13, hlt]; refine a6M (m := O6 (O5 R ((B9 R).take k))) (E := none) 1000000 Y1 (by simp [gA]) (G1 _) _ (Perm.refl _) ?_; rw [a7y hs]; simp -implicitDefEqProofs [g0, g3, g11, g12, g13, hlt]; (repeat refine ai (by omega) ?_); exact D5 hlt ⟨by simp [g0, ← hsd, V8], by simp [g3], by simp [g11], by simp [g12], by simp, by simp [hsn]⟩
 · have hlt' : ¬ (k : Int) < (B9 R).length := (by omega); rw [ttl (by omega)] at gA; simp -implicitDefEqProofs [g0, g3, g11, g12, g13, hlt, hlt']; exact ⟨_, [1000000], by simp, by simp [gA, isH], by simp [a1Z], g, rfl, by simp [gA]⟩
theorem b6I (a b : Chg) (ha : O8 a) (hb : O8 b) : Ctr prog 81 [.d (A6 a), .d (A6 b)] (.d (A6 (O4 a b))) := by
 have c1 := a9e a ha; have c2 := a9e b hb; have c3 := b7X a.1 b.1; have c4 := a3Z (G6 a).1 (G6 b).1; have c5 := a6z [H8 a.1 b.1, a0r (G6 a).1 (G6 b).1] (by simp); have hlt : ltM a b = decide (orI [H8 a.1 b.1, a0r (G6 a).1 (G6 b).1] < 0) := rfl; have hla : O4 a b = if opC a = 0 ∨ (opC b ≠ 0 ∧ ltM a b = true) then b else a := rfl
 simp only [a2S, map_cons, map_nil] at c5; obtain ⟨la, hla1⟩ : ∃ la, (G6 a).1 = la := ⟨_, rfl⟩; obtain ⟨lb, hlb1⟩ : ∃ lb, (G6 b).1 = lb := ⟨_, rfl⟩; obtain ⟨ea, hea⟩ : ∃ ea, (G6 a).2 = ea := ⟨_, rfl⟩; obtain ⟨eb, heb⟩ : ∃ eb, (G6 b).2 = eb := ⟨_, rfl⟩; obtain ⟨o, ho⟩ : ∃ o, orI [H8 a.1 b.1, a0r (G6 a).1 (G6 b).1] = o := ⟨_, rfl⟩; obtain ⟨x1, hx1⟩ : ∃ x, H8 a.1 b.1 = x := ⟨_, rfl⟩; obtain ⟨x2, hx2⟩ : ∃ x, a0r (G6 a).1 (G6 b).1 = x := ⟨_, rfl⟩; rw [ho] at c5 hlt; rw [hx2] at c4 c5; rw [hx1] at c3 c5; rw [hla1] at c1 c4; rw [hlb1] at c2 c4; rw [hea] at c1; rw [heb] at c2; have ea_eq : A6 a = .agg [B0 a.1, .int .i64 (opC a), .str a.2.2.1, .str a.2.2.2.1, .str a.2.2.2.2.1, .str a.2.2.2.2.2] := rfl; have eb_eq : A6 b = .agg [B0 b.1, .int .i64 (opC b), .str b.2.2.1, .str b.2.2.2.1, .str b.2.2.2.2.1, .str b.2.2.2.2.2] := rfl; generalize hR : O4 a b = R at *; refine O0 (rv := .cell 4 35) (rs := []) (r := .d (A6 R)) (ys := []) (fun i => false) (by kernel_rfl) func81 (by kernel_rfl) rfl rfl (by simp) (nbl rfl) (by kernel_rfl) rfl rfl ?_; rw [ea_eq] at c1 ⊢; rw [eb_eq] at c2 ⊢; rcases Classical.em (opC a = 0) with h1 | h1
 · rw [if_pos (.inl h1)] at hla; subst hla; rw [eb_eq]; rw [h1] at c1; simp -implicitDefEqProofs [A9, h1]; refine A3 c1 ?_; simp -implicitDefEqProofs [A9, h1]; refine A3 c2 ?_; simp -implicitDefEqProofs [A9, h1]
 · rcases Classical.em (opC b = 0) with h2 | h2
   · rw [if_neg (by simp [h1, h2])] at hla; subst hla; rw [ea_eq]; rw [h2] at c2; simp -implicitDefEqProofs [A9, h1, h2]; refine A3 c1 ?_; simp -implicitDefEqProofs [A9, h1, h2]; refine A3 c2 ?_; simp -implicitDefEqProofs [A9, h1, h2]
   · rcases Classical.em (o < 0) with h3 | h3
     · rw [if_pos (.inr ⟨h2, by simp [hlt, h3]⟩)] at hla; subst hla; rw [eb_eq]; simp -implicitDefEqProofs [A9, h1, h2]; refine A3 c1 ?_; simp -implicitDefEqProofs [A9, h1, h2]; refine A3 c2 ?_; simp -implicitDefEqProofs [A9, h1, h2]; refine ⟨rfl, rfl, A3 c3 ?_⟩; simp -implicitDefEqProofs [A9, h1, h2]; refine A3 c4 ?_; simp -implicitDefEqProofs [A9, h1, h2]; refine ⟨by decide, A3 c5 ?_⟩; simp -implicitDefEqProofs [A9, h1, h2, h3]
     · rw [if_neg (by simp [h1, hlt, h3])] at hla; subst hla; rw [ea_eq]; simp -implicitDefEqProofs [A9, h1, h2]; refine A3 c1 ?_; simp -implicitDefEqProofs [A9, h1, h2]; refine A3 c2 ?_; simp -implicitDefEqProofs [A9, h1, h2]; refine ⟨rfl, rfl, A3 c3 ?_⟩; simp -implicitDefEqProofs [A9, h1, h2]; refine A3 c4 ?_; simp -implicitDefEqProofs [A9, h1, h2]; refine ⟨by decide, A3 c5 ?_⟩; simp -implicitDefEqProofs [A9, h1, h2, h3]
def abH (b v : Nat) (a : Abt) : List AV := [.hb (va b) 78 (P5 a (.raw (.map (some v)))), .hm (.map (some v)) 101 (vsM a.vs) none]
theorem b3H (k : VK) : E0 prog 101 (.agg [.str k.1, .str k.2]) = true := by simp [E0]
theorem c5a : Program.underlying prog 76 = some (.map 101 35) := by kernel_rfl
structure b6q (a : Abt) : Prop where
 nm : O8 a.nm
 vs : ∀ k, O8 (a0T a.vs k)
theorem a8t (a b : VK) : H1 (vkD a) (vkD b) = decide (a = b) := by
 obtain ⟨a1, a2⟩ := a; obtain ⟨b1, b2⟩ := b; simp [vkD, H1, W6, Z4]
theorem c3n (vs : List (VK × Chg)) (k : VK) : M5 (vsM vs) (vkD k) = (a0X vs k).map A6 := by
 induction vs with
 | nil => rfl
 | cons p m ih =>
   simp only [M5, vsM, a0X, map_cons, find?_cons, a8t] at ih ⊢; by_cases h : p.1 = k
   · simp [h]
   · simp only [decide_eq_false h]; exact ih
theorem c2L (vs : List (VK × Chg)) (k : VK) (c : Chg) : S1 (vsM vs) (vkD k) (A6 c) = vsM (a4c vs k c) := by
 have e : (vsM vs).any (fun p => H1 p.1 (vkD k)) = vs.any fun p => decide (p.1 = k) := by
   simp only [vsM, any_map, Function.comp_def, a8t]
 unfold S1 a4c; rw [e]; split
 · simp only [vsM, map_map]; refine map_congr_left fun p _ => ?_
   simp only [Function.comp_apply, a8t, decide_eq_true_eq]; split <;> rfl
 · simp [vsM]
theorem b7F (b v : Nat) (a : Abt) (c : Chg) (ha : b6q a) (hc : O8 c) : H5 prog 40 [.d (.raw (va b)), .d (A6 c)] (abH b v a) (fun r hs' => r = .tup [] ∧ hs' = abH b v (N6 a c)) := by
 have c1 := b6I a.nm c ha.nm hc; have c2 := b6I (a0T a.vs (a0D c)) c (ha.vs _) hc; have hmg := c3n a.vs (a0D c); have hms := c2L a.vs (a0D c) (O4 (a0T a.vs (a0D c)) c); have ec_eq : A6 c = .agg [B0 c.1, .int .i64 (opC c), .str c.2.2.1, .str c.2.2.2.1, .str c.2.2.2.2.1, .str c.2.2.2.2.2] := rfl; have hta : N6 a c = if opC c = 1 then { a with cr := true, nm := O4 a.nm c }
 else if opC c = 3 then { a with nm := O4 a.nm c }
 else if opC c = 2 then { a with rm := true }
 else { a with vs := a4c a.vs (a0D c) (O4 (a0T a.vs (a0D c)) c) } := rfl
 generalize N6 a c = A2 at *; obtain ⟨cr, rm, nm, vs⟩ := a; simp only at c1 c2 hmg hms hta; refine a3L (rs := []) (fun i => false) (by kernel_rfl) func40 (by kernel_rfl) rfl rfl (by simp) (nbl rfl) (by kernel_rfl) rfl ?_; have chg_w : ∀ x : Chg, B6 (A6 x) = 8 := fun _ => rfl
 rcases Classical.em (opC c = 1) with h1 | h1
 · rw [if_pos h1] at hta; subst hta; rw [ec_eq, h1] at c1 ⊢; generalize O4 nm c = N2 at *; simp -implicitDefEqProofs [A7, abH, P5, A9]; refine P4 (e := 78) (ds := [.bool cr, .bool rm, A6 nm, .raw (.map (some v))]) 1000000 (by simp [A7, abH, P5]) (by omega) (by simp) (by kernel_rfl) ?_; simp -implicitDefEqProofs [A7, chg_w, A9]; refine P4 (e := 78) (ds := [.bool true, .bool rm, A6 nm, .raw (.map (some v))]) 1000000 (by simp [A7, abH, P5]) (by omega) (by simp) (by kernel_rfl) ?_; simp -implicitDefEqProofs [A7, chg_w, A9]; refine ⟨rfl, E4 c1 ?_⟩; simp -implicitDefEqProofs [A7, chg_w, A9]; refine P4 (e := 78) (ds := [.bool true, .bool rm, A6 nm, .raw (.map (some v))]) 1000000 (by simp [A7, abH, P5]) (by omega) (by simp) (by kernel_rfl) ?_; simp -implicitDefEqProofs [A7, chg_w, A9]; exact ⟨[], [1000000, 1000001], by simp, by simp [A7, isH], by simp [X0], rfl, by simp [A7]⟩
 · rw [if_neg h1] at hta; rcases Classical.em (opC c = 3) with h3 | h3
   · rw [if_pos h3] at hta; subst hta; rw [ec_eq, h3] at c1 ⊢; generalize O4 nm c = N2 at *; simp -implicitDefEqProofs [A7, abH, P5, A9]; refine P4 (e := 78) (ds := [.bool cr, .bool rm, A6 nm, .raw (.map (some v))]) 1000000 (by simp [A7, abH, P5]) (by omega) (by simp) (by kernel_rfl) ?_; simp -implicitDefEqProofs [A7, chg_w, A9]; refine ⟨rfl, E4 c1 ?_⟩; simp -implicitDefEqProofs [A7, chg_w, A9]; refine P4 (e := 78) (ds := [.bool cr, .bool rm, A6 nm, .raw (.map (some v))]) 1000000 (by simp [A7, abH, P5]) (by omega) (by simp) (by kernel_rfl) ?_; simp -implicitDefEqProofs [A7, chg_w, A9]; exact ⟨[], [1000000, 1000001], by simp, by simp [A7, isH], by simp [X0], rfl, by simp [A7]⟩
   · rw [if_neg h3] at hta; rcases Classical.em (opC c = 2) with h2 | h2
     · rw [if_pos h2] at hta; subst hta; rw [ec_eq, h2] at c1 ⊢; simp -implicitDefEqProofs [A7, abH, P5, A9]; refine P4 (e := 78) (ds := [.bool cr, .bool rm, A6 nm, .raw (.map (some v))]) 1000000 (by simp [A7, abH, P5]) (by omega) (by simp) (by kernel_rfl) ?_; simp -implicitDefEqProofs [A7, chg_w, A9]; exact ⟨[], [1000000, 1000001], by simp, by simp [A7, isH], by simp [X0], rfl, by simp [A7]⟩
     · rw [if_neg h2] at hta; subst hta; have vk_eq : vkD (a0D c) = .agg [.str c.2.2.2.2.1, .str c.2.2.2.2.2] := rfl; have hlk : a0z false (.agg [.agg [.int .i64 0, .int .i64 0, .int .i64 0], .int .i64 0, .str [], .str [], .str [], .str []]) (Option.map A6 (a0X vs (a0D c))) = .d (A6 (a0T vs (a0D c))) := by
         unfold a0T; cases a0X vs (a0D c) <;> rfl
       rw [ec_eq] at c2 ⊢; rw [vk_eq] at hmg; simp -implicitDefEqProofs [A7, abH, P5, A9, h1, h2, h3]; refine P4 (e := 78) (ds := [.bool cr, .bool rm, A6 nm, .raw (.map (some v))]) 1000000 (by simp [A7, abH, P5]) (by omega) (by simp) (by kernel_rfl) ?_; simp -implicitDefEqProofs [A7, chg_w, A9]; refine P4 (e := 78) (ds := [.bool cr, .bool rm, A6 nm, .raw (.map (some v))]) 1000000 (by simp [A7, abH, P5]) (by omega) (by simp) (by kernel_rfl) ?_; simp -implicitDefEqProofs [A7, chg_w, A9]; refine a1m (m := vsM vs) (E := none) 1000001 (by omega) c5a (by simp [A7]) (b3H _) Tryz.zd_35 hmg ?_; rw [hlk]; simp -implicitDefEqProofs [A7, chg_w, A9]; refine E4 c2 ?_; simp -implicitDefEqProofs [A7, chg_w, A9]; refine a6M (m := vsM vs) (E := none) 1000001 c5a (by simp [A7]) (b3H _) _ (Perm.refl _) ?_; rw [← vk_eq, hms]; simp -implicitDefEqProofs [A7, chg_w, A9]; exact ⟨[], [1000000, 1000001], by simp, by simp [A7, isH], by simp [X0], rfl, by simp [A7]⟩
theorem b3m (a b : Chg) : H1 (A6 a) (A6 b) = decide (a = b) := by
 obtain ⟨⟨a1, a2, a3⟩, a4, a5, a6, a7, a8⟩ := a; obtain ⟨⟨b1, b2, b3⟩, b4, b5, b6, b7, b8⟩ := b; simp only [A6, B0, H1, W6, Z4, Prod.mk.injEq, Bool.decide_and, Bool.and_true]; simp [Bool.and_assoc, a0C, Z4]
theorem a8x (R : List Chg) (c : Chg) : M5 (S0 R) (A6 c) = if c ∈ R then some (.bool true) else none := by
 induction R with
 | nil => rfl
 | cons x R ih =>
   simp only [M5, S0, map_cons, find?_cons, b3m] at ih ⊢; by_cases h : x = c
   · simp [h]
   · simp only [decide_eq_false h]; rw [ih]; have : ¬ c = x := fun e => h e.symm
     simp [this]
theorem b3B {R : List Chg} {c : Chg} (h : c ∉ R) : S1 (S0 R) (A6 c) (.bool true) = S0 (R ++ [c]) := by
 unfold S1; rw [if_neg (by
   simp only [S0, any_map, any_eq_true, Function.comp_apply, b3m, decide_eq_true_eq, not_exists, not_and]; rintro x hx rfl; exact h hx)]
 simp [S0]
theorem a6E (c : Chg) : E0 prog 35 (A6 c) = true := by
 obtain ⟨⟨a1, a2, a3⟩, a4, a5, a6, a7, a8⟩ := c; simp [E0, A6, B0]
theorem a4q : Program.underlying prog 62 = some (.map 35 4) := by kernel_rfl
theorem b3c {E : List Y9} {id : Str} (h : ∀ e ∈ E, e.1 ≠ id) : M5 (S6 E) (.str id) = none := by
 induction E with
 | nil => rfl
 | cons x E ih =>
   have := ih fun e he => h e (by simp [he])
   simp only [M5, S6, map_cons, find?_cons, L9] at this ⊢; simp only [decide_eq_false (h x (by simp))]; exact this
theorem b2C {E : List Y9} (hn : (E.map (·.1)).Nodup) {e : Y9} (he : e ∈ E) : M5 (S6 E) (.str e.1) = some (.raw (va e.2.2.1)) := by
 induction E with
 | nil => simp at he
 | cons x E ih =>
   rw [map_cons, nodup_cons] at hn; rcases mem_cons.1 he with rfl | he
   · simp [M5, S6, L9]
   · have hne : ¬ x.1 = e.1 := fun q => hn.1 (mem_map.2 ⟨_, he, q.symm⟩)
     have := ih hn.2 he; simp only [M5, S6, map_cons, find?_cons, L9, decide_eq_false hne] at this ⊢; exact this
theorem b3E {E : List Y9} {id : Str} {a : Abt} {b v : Nat} (h : ∀ e ∈ E, e.1 ≠ id) : S1 (S6 E) (.str id) (.raw (va b)) = S6 (E ++ [(id, a, b, v)]) := by
 unfold S1; rw [if_neg (by
   simp only [S6, any_map, any_eq_true, Function.comp_apply, L9, decide_eq_true_eq, not_exists, not_and]; exact h)]
 simp [S6]
def Q9 (R : List Chg) (c : Chg) : Int := if F4 c ≠ 0 then F4 c else if c ∈ R then 0 else if 4096 ≤ R.length then 3 else 0
def N4 (R : List Chg) (c : Chg) : List Chg := if F4 c = 0 ∧ c ∉ R ∧ R.length < 4096 then R ++ [c] else R
def stD (r m : Nat) : D := .agg [.raw (.map (some r)), .raw (.map (some m))]
theorem a7L (s r m : Nat) : H5 prog 39 [.d (.raw (va s))] [.hb (va s) 65 (stD r m)] (fun x hs' => x = .d (.bool true) ∧ hs' = [.hb (va s) 65 (stD r m)]) := by
 refine a1P (fun _ => false) (by kernel_rfl) func39 (by kernel_rfl) rfl rfl (nbl rfl) (by kernel_rfl) rfl ?_; simp -implicitDefEqProofs [A7, stD]; refine P4 (e := 65) (ds := [.raw (.map (some r)), .raw (.map (some m))]) 1000000 (by simp [A7]) (by omega) (by simp) (by kernel_rfl) ?_; simp -implicitDefEqProofs [A7]; exact ⟨.d (.bool true), [1000000], by simp, by simp [A7, isH], by simp [a1Z], by simp, by simp [A7]⟩
theorem c0J (s r m : Nat) (R : List Chg) (E : List Y9) (c : Chg) (hc : O8 c) (h : F4 c ≠ 0 ∨ c ∈ R ∨ 4096 ≤ R.length) :
   H5 prog 13 [.d (.raw (va s)), .d (A6 c)] (U5 s r m R E) (fun x hs' => x = .d (.int .i64 (Q9 R c)) ∧ hs' = U5 s r m R E) := by
 have c1 := a7L s r m; have c2 := a6m c hc; have hmg := a8x R c; have ec_eq : A6 c = .agg [B0 c.1, .int .i64 (opC c), .str c.2.2.1, .str c.2.2.2.1, .str c.2.2.2.2.1, .str c.2.2.2.2.2] := rfl; have hkf := a6E c; simp only [stD] at c1; refine a5O (fun i => i == 5000007 || i == 5000056 || i == 21000012 || i == 1000047) (by kernel_rfl) func13 (by kernel_rfl) rfl rfl (nbl rfl) (by kernel_rfl) rfl ?_; rw [ec_eq] at c2 hkf hmg ⊢; have hlr : (S0 R).length = R.length := (by simp [S0]); rcases Classical.em (F4 c = 0) with h0 | h0
 · rw [h0] at c2; rcases Classical.em (c ∈ R) with h1 | h1
   · have he : Q9 R c = 0 := (by simp [Q9, h0, h1]); rw [if_pos h1] at hmg; rw [he]; simp -implicitDefEqProofs [A7, U5, A9]; refine M9 [1000000] 1000000 c1 (by simp [A7, U5]) rfl (by simp) ?_; rintro x hs' ⟨rfl, rfl⟩; simp -implicitDefEqProofs [A7, D2, C6, A9]; refine A3 c2 ?_; simp -implicitDefEqProofs [A7, D2, C6, A9]; refine P4 (e := 65) (ds := [.raw (.map (some r)), .raw (.map (some m))]) 1000000 (by simp [A7]) (by omega) (by simp) (by kernel_rfl) ?_; simp -implicitDefEqProofs [A7, D2, C6, A9]; refine a1m (m := S0 R) (E := none) 1000001 (by omega) a4q (by simp [A7]) hkf Tryz.zd_4 hmg ?_; simp -implicitDefEqProofs [A7, D2, C6, A9]; exact ⟨.d (.int .i64 (0)), [1000000, 1000001, 1000002], by simp, by simp [A7, isH], by simp [a1Z], by simp, by simp [A7]⟩
   · have h2 : 4096 ≤ R.length := by rcases h with h | h | h <;> first | contradiction | exact h
     have he : Q9 R c = 3 := (by simp [Q9, h0, h1, h2]); rw [if_neg h1] at hmg; rw [he]; simp -implicitDefEqProofs [A7, U5, A9]; refine M9 [1000000] 1000000 c1 (by simp [A7, U5]) rfl (by simp) ?_; rintro x hs' ⟨rfl, rfl⟩; simp -implicitDefEqProofs [A7, D2, C6, A9]; refine A3 c2 ?_; simp -implicitDefEqProofs [A7, D2, C6, A9]; refine P4 (e := 65) (ds := [.raw (.map (some r)), .raw (.map (some m))]) 1000000 (by simp [A7]) (by omega) (by simp) (by kernel_rfl) ?_; simp -implicitDefEqProofs [A7, D2, C6, A9]; refine a1m (m := S0 R) (E := none) 1000001 (by omega) a4q (by simp [A7]) hkf Tryz.zd_4 hmg ?_; simp -implicitDefEqProofs [A7, D2, C6, A9]; refine P4 (e := 65) (ds := [.raw (.map (some r)), .raw (.map (some m))]) 1000000 (by simp [A7]) (by omega) (by simp) (by kernel_rfl) ?_; simp -implicitDefEqProofs [A7, D2, C6, A9]; refine c2G (m := S0 R) (E := none) 1000001 (by omega) a4q (by simp [A7]) ?_; have h2' : (4096 : Int) ≤ (S0 R).length := by rw [hlr]; omega
     simp -implicitDefEqProofs [A7, D2, C6, A9, h2']; exact ⟨.d (.int .i64 (3)), [1000000, 1000001, 1000002], by simp, by simp [A7, isH], by simp [a1Z], by simp, by simp [A7]⟩
 · have he : Q9 R c = F4 c := (by simp [Q9, h0]); rw [he]; simp -implicitDefEqProofs [A7, U5, A9]; refine M9 [1000000] 1000000 c1 (by simp [A7, U5]) rfl (by simp) ?_; rintro x hs' ⟨rfl, rfl⟩; simp -implicitDefEqProofs [A7, D2, C6, A9]; refine A3 c2 ?_; simp -implicitDefEqProofs [A7, D2, C6, A9, h0]; exact ⟨.d (.int .i64 (F4 c)), [1000000, 1000001, 1000002], by simp, by simp [A7, isH], by simp [a1Z], by simp, by simp [A7]⟩
theorem c1n (s r m : Nat) (R : List Chg) (E : List Y9) (c : Chg) (a : Abt) (b v : Nat) (hn : (E.map (·.1)).Nodup) (hin : (idC c, a, b, v) ∈ E) (ha : b6q a) (hc : O8 c) (h0 : F4 c = 0) (h1 : c ∉ R) (h2 : R.length < 4096) :
   H5 prog 13 [.d (.raw (va s)), .d (A6 c)] (U5 s r m R E ++ abH b v a) (fun x hs' => x = .d (.int .i64 0) ∧ hs' = U5 s r m (R ++ [c]) E ++ abH b v (N6 a c)) := by
 have c1 := a7L s r m; have c2 := a6m c hc; have c3 := b7F b v a c ha hc; have hmg := a8x R c; have hms := b3B h1; have hge := b2C hn hin; have ec_eq : A6 c = .agg [B0 c.1, .int .i64 (opC c), .str c.2.2.1, .str c.2.2.2.1, .str c.2.2.2.2.1, .str c.2.2.2.2.2] := rfl; have hkf := a6E c; simp only [stD] at c1; rw [if_neg h1] at hmg; rw [h0] at c2; simp only at hge; refine a5O (fun i => i == 5000007 || i == 5000056 || i == 21000012 || i == 1000047) (by kernel_rfl) func13 (by kernel_rfl) rfl rfl (nbl rfl) (by kernel_rfl) rfl ?_; rw [ec_eq] at c2 c3 hkf hmg hms ⊢; have hlr : (S0 R).length = R.length := (by simp [S0]); have h2' : ¬ (4096 : Int) ≤ (S0 R).length := by rw [hlr]; omega
 simp only [abH] at c3 ⊢; generalize N6 a c = A2 at *; simp -implicitDefEqProofs [A7, U5, A9]; refine M9 [1000000] 1000000 c1 (by simp [A7, U5]) rfl (by simp) ?_; rintro x hs' ⟨rfl, rfl⟩; simp -implicitDefEqProofs [A7, D2, C6, A9]; refine A3 c2 ?_; simp -implicitDefEqProofs [A7, D2, C6, A9]; refine P4 (e := 65) (ds := [.raw (.map (some r)), .raw (.map (some m))]) 1000000 (by simp [A7]) (by omega) (by simp) (by kernel_rfl) ?_; simp -implicitDefEqProofs [A7, D2, C6, A9]; refine a1m (m := S0 R) (E := none) 1000001 (by omega) a4q (by simp [A7]) hkf Tryz.zd_4 hmg ?_; simp -implicitDefEqProofs [A7, D2, C6, A9]; refine P4 (e := 65) (ds := [.raw (.map (some r)), .raw (.map (some m))]) 1000000 (by simp [A7]) (by omega) (by simp) (by kernel_rfl) ?_; simp -implicitDefEqProofs [A7, D2, C6, A9]; refine c2G (m := S0 R) (E := none) 1000001 (by omega) a4q (by simp [A7]) ?_; simp -implicitDefEqProofs [A7, D2, C6, A9, h2']; refine P4 (e := 65) (ds := [.raw (.map (some r)), .raw (.map (some m))]) 1000000 (by simp [A7]) (by omega) (by simp) (by kernel_rfl) ?_; simp -implicitDefEqProofs [A7, D2, C6, A9]; refine a6M (m := S0 R) (E := none) 1000001 a4q (by simp [A7]) hkf _ (Perm.refl _) ?_; rw [hms]; simp -implicitDefEqProofs [A7, D2, C6, A9]; refine P4 (e := 65) (ds := [.raw (.map (some r)), .raw (.map (some m))]) 1000000 (by simp [A7]) (by omega) (by simp) (by kernel_rfl) ?_; simp -implicitDefEqProofs [A7, D2, C6, A9]; refine a1m (m := S6 E) (E := none) 1000002 (by omega) a4k (by simp [A7]) (G1 _) Tryz.zd_75 hge ?_; simp -implicitDefEqProofs [A7, D2, C6, A9]; refine P4 (e := 65) (ds := [.raw (.map (some r)), .raw (.map (some m))]) 1000000 (by simp [A7]) (by omega) (by simp) (by kernel_rfl) ?_; simp -implicitDefEqProofs [A7, D2, C6, A9]; refine a1m (m := S6 E) (E := none) 1000002 (by omega) a4k (by simp [A7]) (G1 _) Tryz.zd_75 hge ?_; simp -implicitDefEqProofs [A7, D2, C6, A9]; refine M9 [1000003, 1000004] 1000003 c3 (by simp [A7]) rfl (by simp) ?_; rintro x hs' ⟨rfl, rfl⟩; simp -implicitDefEqProofs [A7, D2, C6, A9]; exact ⟨.d (.int .i64 0), [1000000, 1000001, 1000002, 1000003, 1000004], by simp, by simp [A7, isH], by simp [a1Z], by simp, by simp [A7]⟩
theorem c0E : b6q R7 := by
 refine ⟨⟨by simp [R7, M3], by simp [R7, M3], by simp [R7, M3], by simp [R7, M3]⟩, fun k => ?_⟩; simp [R7, a0T, a0X]; exact ⟨by simp [M3], by simp [M3], by simp [M3], by simp [M3]⟩
theorem c2k (s r m : Nat) (R : List Chg) (E : List Y9) (c : Chg) (hnew : ∀ e ∈ E, e.1 ≠ idC c) (hc : O8 c) (h0 : F4 c = 0) (h1 : c ∉ R) (h2 : R.length < 4096) :
   H5 prog 13 [.d (.raw (va s)), .d (A6 c)] (U5 s r m R E) (fun x hs' => x = .d (.int .i64 0) ∧ ∃ b v, hs' = U5 s r m (R ++ [c]) (E ++ [(idC c, N6 R7 c, b, v)]) ++ abH b v (N6 R7 c)) := by
 have c1 := a7L s r m; have c2 := a6m c hc; have c3 : ∀ b v, _ := fun b v => b7F b v R7 c c0E hc
 have hmg := a8x R c; have hms := b3B h1; have hge := b3c hnew; have hme : ∀ b v, _ := fun b v => b3E (a := N6 R7 c) (b := b) (v := v) hnew
 have hg2 : ∀ b, M5 (S1 (S6 E) (.str (idC c)) (.raw (va b))) (.str (idC c)) = some (.raw (va b)) := fun b => by
   rw [b3E (a := N6 R7 c) (b := b) (v := 0) hnew]; have : ∀ E : List Y9, (∀ e ∈ E, e.1 ≠ idC c) → M5 (S6 (E ++ [(idC c, N6 R7 c, b, 0)])) (.str (idC c)) = some (.raw (va b)) := by
     intro E
     induction E with
     | nil => intro _; simp [M5, S6, L9]
     | cons x E ih =>
       intro h; have := ih fun e he => h e (by simp [he])
       simp only [M5, S6, cons_append, map_cons, find?_cons, L9, decide_eq_false (h x (by simp))] at this ⊢; exact this
   exact this E hnew
 have ec_eq : A6 c = .agg [B0 c.1, .int .i64 (opC c), .str c.2.2.1, .str c.2.2.2.1, .str c.2.2.2.2.1, .str c.2.2.2.2.2] := rfl; have hkf := a6E c; have za_eq : ∀ v, P5 R7 (.raw (.map (some v))) = .agg [.bool false, .bool false, .agg [.agg [.int .i64 0, .int .i64 0, .int .i64 0], .int .i64 0, .str [], .str [], .str [], .str []], .raw (.map (some v))] := fun _ => rfl
 have zv : R7.vs = [] := rfl; have zvm : vsM [] = [] := rfl; simp only [stD] at c1; rw [if_neg h1] at hmg; rw [h0] at c2; refine a5O (fun i => i == 5000007 || i == 5000056 || i == 21000012 || i == 1000047) (by kernel_rfl) func13 (by kernel_rfl) rfl rfl (nbl rfl) (by kernel_rfl) rfl ?_; rw [ec_eq] at c2 c3 hkf hmg hms ⊢; have hlr : (S0 R).length = R.length := (by simp [S0]); have h2' : ¬ (4096 : Int) ≤ (S0 R).length := by rw [hlr]; omega
 simp only [abH] at c3 ⊢; simp only [za_eq, zv, zvm] at c3; generalize N6 R7 c = A2 at *; simp -implicitDefEqProofs [A7, U5, A9]; refine M9 [1000000] 1000000 c1 (by simp [A7, U5]) rfl (by simp) ?_; rintro x hs' ⟨rfl, rfl⟩; simp -implicitDefEqProofs [A7, D2, C6, A9]; refine A3 c2 ?_; simp -implicitDefEqProofs [A7, D2, C6, A9]; refine P4 (e := 65) (ds := [.raw (.map (some r)), .raw (.map (some m))]) 1000000 (by simp [A7]) (by omega) (by simp) (by kernel_rfl) ?_; simp -implicitDefEqProofs [A7, D2, C6, A9]; refine a1m (m := S0 R) (E := none) 1000001 (by omega) a4q (by simp [A7]) hkf Tryz.zd_4 hmg ?_; simp -implicitDefEqProofs [A7, D2, C6, A9]; refine P4 (e := 65) (ds := [.raw (.map (some r)), .raw (.map (some m))]) 1000000 (by simp [A7]) (by omega) (by simp) (by kernel_rfl) ?_; simp -implicitDefEqProofs [A7, D2, C6, A9]; refine c2G (m := S0 R) (E := none) 1000001 (by omega) a4q (by simp [A7]) ?_; simp -implicitDefEqProofs [A7, D2, C6, A9, h2']; refine P4 (e := 65) (ds := [.raw (.map (some r)), .raw (.map (some m))]) 1000000 (by simp [A7]) (by omega) (by simp) (by kernel_rfl) ?_; simp -implicitDefEqProofs [A7, D2, C6, A9]; refine a6M (m := S0 R) (E := none) 1000001 a4q (by simp [A7]) hkf _ (Perm.refl _) ?_; rw [hms]; simp -implicitDefEqProofs [A7, D2, C6, A9]; refine P4 (e := 65) (ds := [.raw (.map (some r)), .raw (.map (some m))]) 1000000 (by simp [A7]) (by omega) (by simp) (by kernel_rfl) ?_; simp -implicitDefEqProofs [A7, D2, C6, A9]; refine a1m (m := S6 E) (E := none) 1000002 (by omega) a4k (by simp [A7]) (G1 _) Tryz.zd_75 hge ?_; simp -implicitDefEqProofs [A7, D2, C6, A9]; refine d3D 9 [0, 1, 2, 3, 4, 5, 6, 7, 8] [39, 40, 41, 42, 43, 44, 45, 46, 47] (by kernel_rfl) (by kernel_rfl) ?_; simp -implicitDefEqProofs [A7, D2, C6, A9]; refine P4 (e := 65) (ds := [.raw (.map (some r)), .raw (.map (some m))]) 1000000 (by simp [A7]) (by omega) (by simp) (by kernel_rfl) ?_; simp -implicitDefEqProofs [A7, D2, C6, A9]; refine c9A 101 1000004 (by omega) (by simp [A7]) (fun v => ?_); simp -implicitDefEqProofs [A7, D2, C6, A9]; refine c9p 1000003 (by omega) (by simp [A7]) (fun b => ?_); simp -implicitDefEqProofs [A7, D2, C6, A9]; refine a6M (m := S6 E) (E := none) 1000002 a4k (by simp [A7]) (G1 _) _ (Perm.refl _) ?_; have hme := hme b v; have hg2 := hg2 b; have hvb : va b = .pointer (some ⟨b, 0, none⟩) := rfl; rw [hme] at hg2; rw [← hvb, hme]; simp -implicitDefEqProofs [A7, D2, C6, A9]; refine P4 (e := 65) (ds := [.raw (.map (some r)), .raw (.map (some m))]) 1000000 (by simp [A7]) (by omega) (by simp) (by kernel_rfl) ?_; simp -implicitDefEqProofs [A7, D2, C6, A9]; refine a1m (m := S6 (E ++ [(idC c, A2, b, v)])) (E := none) 1000002 (by omega) a4k (by simp [A7]) (G1 _) Tryz.zd_75 hg2 ?_; simp -implicitDefEqProofs [A7, D2, C6, A9]; refine M9 [1000003, 1000004] 1000003 (c3 b v) (by simp [A7]) rfl (by simp) ?_; rintro x hs' ⟨rfl, rfl⟩; simp -implicitDefEqProofs [A7, D2, C6, A9]; exact ⟨.d (.int .i64 0), [1000000, 1000001, 1000002, 1000003, 1000004], by simp, by simp [A7, isH], by simp [a1Z], rfl, b, v, by simp [A7]⟩
theorem b3A : O8 M3 := ⟨by simp [M3], by simp [M3], by simp [M3], by simp [M3]⟩
theorem b3o (a b : Chg) : O4 a b = a ∨ O4 a b = b := by
 unfold O4; split
 · exact .inr rfl
 · exact .inl rfl
theorem c0I (vs : List (VK × Chg)) (k k' : VK) (c : Chg) : a0T (a4c vs k c) k' = if k = k' then c else a0T vs k' := by
 unfold a0T a0X a4c; by_cases ha : vs.any (fun p => decide (p.1 = k)) = true
 · rw [if_pos ha]; have key : ∀ vs : List (VK × Chg), ((vs.map fun p => if p.1 = k then (p.1, c) else p).find? fun p => decide (p.1 = k')) = (vs.find? fun p => decide (p.1 = k')).map fun p => if p.1 = k then (p.1, c) else p := by
     intro vs
     induction vs with
     | nil => rfl
     | cons p vs ih =>
       rw [map_cons, find?_cons, find?_cons]; by_cases h : p.1 = k
       · rw [if_pos h]; by_cases h2 : p.1 = k'
         · simp only [decide_eq_true h2, Option.map_some, if_pos h]
         · simp only [decide_eq_false h2]; exact ih
       · rw [if_neg h]; by_cases h2 : p.1 = k'
         · simp only [decide_eq_true h2, Option.map_some, if_neg h]
         · simp only [decide_eq_false h2]; exact ih
   rw [key]; by_cases h : k = k'
   · rw [if_pos h]; obtain ⟨p, hp, e⟩ := any_eq_true.1 ha; cases hf : vs.find? fun p => decide (p.1 = k') with
     | none => exact absurd (by rw [← h]; exact e) (find?_eq_none.1 hf p hp)
     | some q =>
       have : q.1 = k' := by simpa using find?_some hf
       simp [this, h]
   · rw [if_neg h]; cases hf : vs.find? fun p => decide (p.1 = k') with
     | none => rfl
     | some q =>
       have hq : q.1 = k' := by simpa using find?_some hf
       have : ¬ q.1 = k := fun e => h (e.symm.trans hq)
       simp [this]
 · rw [if_neg ha, find?_append]; by_cases h : k = k'
   · subst h; rw [if_pos rfl]; have : vs.find? (fun p => decide (p.1 = k)) = none := by
       rw [find?_eq_none]; intro p hp hq; exact ha (any_eq_true.2 ⟨p, hp, hq⟩)
     simp [this]
   · rw [if_neg h]; have : find? (fun p : VK × Chg => decide (p.1 = k')) [(k, c)] = none := by simp [h]
     simp [this]
theorem b5d (R : List Chg) (id : Str) : ((abF R id).nm ∈ R ∨ (abF R id).nm = M3) ∧ ∀ k, a0T (abF R id).vs k ∈ R ∨ a0T (abF R id).vs k = M3 := by
 refine U6 (P := fun R => ((abF R id).nm ∈ R ∨ (abF R id).nm = M3) ∧ ∀ k, a0T (abF R id).vs k ∈ R ∨ a0T (abF R id).vs k = M3) ⟨.inr rfl, fun k => .inr rfl⟩ (fun R c ih => ?_) R; have h1 : (abF R id).nm ∈ R ++ [c] ∨ (abF R id).nm = M3 := ih.1.imp (fun h => by simp [h]) (fun h => h); have h2 : ∀ k, a0T (abF R id).vs k ∈ R ++ [c] ∨ a0T (abF R id).vs k = M3 := fun k => (ih.2 k).imp (fun h => by simp [h]) (fun h => h)
 rw [a0S]; split
 · have h3 : O4 (abF R id).nm c ∈ R ++ [c] ∨ O4 (abF R id).nm c = M3 := by
     rcases b3o (abF R id).nm c with e | e
     · rw [e]; exact h1
     · rw [e]; simp
   unfold N6; split
   · exact ⟨h3, h2⟩
   · split
     · exact ⟨h3, h2⟩
     · split
       · exact ⟨h1, h2⟩
       · refine ⟨h1, fun k => ?_⟩; simp only [c0I]; split
         · rcases b3o (a0T (abF R id).vs (a0D c)) c with e | e
           · rw [e]; exact h2 _
           · rw [e]; simp
         · exact h2 k
 · exact ⟨h1, h2⟩
theorem c6n {R : List Chg} (h : ∀ c ∈ R, O8 c) (id : Str) : b6q (abF R id) := by
 obtain ⟨h1, h2⟩ := b5d R id; refine ⟨h1.elim (h _) fun e => by rw [e]; exact b3A, fun k => (h2 k).elim (h _) fun e => by rw [e]; exact b3A⟩
theorem b6P {E : List Y9} {R : List Chg} (hE : a0m E = S9 R) : E.map (·.1) = (S9 R).map (·.1) := by
 rw [← hE]; simp [a0m, Function.comp_def]
theorem c4H {E1 E2 : List Y9} {i : Str} {a a' : Abt} {b v : Nat} : S6 (E1 ++ (i, a', b, v) :: E2) = S6 (E1 ++ (i, a, b, v) :: E2) := by simp [S6]
theorem b2Y (i : Str) (a : Abt) (b v : Nat) : a3f (i, a, b, v) = abH b v a := rfl
theorem c3u (s r m : Nat) (R : List Chg) (E : List Y9) (hE : a0m E = S9 R) (hR : ∀ c ∈ R, O8 c) (c : Chg) (hc : O8 c) :
   H5 prog 13 [.d (.raw (va s)), .d (A6 c)] (stH s r m R E) (fun x hs' => x = .d (.int .i64 (Q9 R c)) ∧ ∃ E', a0m E' = S9 (N4 R c) ∧ hs' = stH s r m (N4 R c) E') := by
 have hnd : (E.map (·.1)).Nodup := by rw [b6P hE]; exact a4j R
 by_cases hrej : F4 c ≠ 0 ∨ c ∈ R ∨ 4096 ≤ R.length
 · have e1 : N4 R c = R := by
     unfold N4; rw [if_neg]; rintro ⟨h1, h2, h3⟩; rcases hrej with h | h | h
     · exact h h1
     · exact h2 h
     · omega
   rw [e1]; refine ((c0J s r m R E c hc hrej).frame (E.flatMap a3f)).post ?_; rintro x hs' ⟨h1, rfl, rfl, rfl⟩; exact ⟨rfl, E, hE, rfl⟩
 · have h0 : F4 c = 0 := by
     refine Classical.byContradiction fun h => hrej (.inl h)
   have h1 : c ∉ R := fun h => hrej (.inr (.inl h))
   have h2 : R.length < 4096 := by
     refine Classical.byContradiction fun h => hrej (.inr (.inr (by omega)))
   have e1 : N4 R c = R ++ [c] := by unfold N4; rw [if_pos ⟨h0, h1, h2⟩]
   have e2 : Q9 R c = 0 := by
     unfold Q9; rw [if_neg (by simpa using h0), if_neg h1, if_neg (by omega)]
   rw [e1, e2]; by_cases hk : ∃ e ∈ E, e.1 = idC c
   · obtain ⟨⟨i, a, b, v⟩, he, hi⟩ := hk; simp only at hi; subst hi; obtain ⟨E1, E2, rfl⟩ := append_of_mem he; have hmem : (idC c, a) ∈ S9 R := by rw [← hE]; exact mem_map.2 ⟨_, he, rfl⟩
     have ha : b6q a := by rw [(a6R.1 hmem).2]; exact c6n hR _
     have hc1 := ((c1n s r m R (E1 ++ (idC c, a, b, v) :: E2) c a b v hnd he ha hc h0 h1 h2).frame (E1.flatMap a3f ++ E2.flatMap a3f)).perm (hs2 := stH s r m R (E1 ++ (idC c, a, b, v) :: E2)) (by
       simp only [stH, flatMap_append, flatMap_cons, append_assoc, b2Y]; refine perm_append_left_iff _ |>.2 ?_
       rw [← append_assoc, ← append_assoc]; exact Perm.append_right _ perm_append_comm)
     refine hc1.permOut ?_; rintro x hs' ⟨h1', rfl, rfl, rfl⟩; refine ⟨stH s r m (R ++ [c]) (E1 ++ (idC c, N6 a c, b, v) :: E2), ?_, rfl, E1 ++ (idC c, N6 a c, b, v) :: E2, ?_, rfl⟩
     · simp only [stH, U5, flatMap_append, flatMap_cons, append_assoc, b2Y, c4H (a := a) (a' := N6 a c)]; refine perm_append_left_iff _ |>.2 ?_
       rw [← append_assoc, ← append_assoc]; exact Perm.append_right _ perm_append_comm
     · rw [a5m, ← hE]; have hd1 : ∀ e ∈ E1, ¬ e.1 = idC c := fun e he' q => by
         rw [map_append, nodup_append] at hnd; exact hnd.2.2 e.1 (mem_map.2 ⟨e, he', rfl⟩) (idC c) (by simp) q
       have hd2 : ∀ e ∈ E2, ¬ e.1 = idC c := fun e he' q => by
         rw [map_append, nodup_append] at hnd; have := hnd.2.1; rw [map_cons, nodup_cons] at this; exact this.1 (by rw [← q]; exact mem_map.2 ⟨e, he', rfl⟩)
       unfold a4I; rw [if_pos (by simp [a0m])]; simp only [a0m, map_append, map_cons, map_map, if_true]; congr 1
       · refine map_congr_left fun e he' => ?_
         simp only [Function.comp_apply, if_neg (hd1 e he')]
       · congr 1
         refine map_congr_left fun e he' => ?_
         simp only [Function.comp_apply, if_neg (hd2 e he')]
   · have hnew : ∀ e ∈ E, e.1 ≠ idC c := fun e he q => hk ⟨e, he, q⟩
     have hc1 := (c2k s r m R E c hnew hc h0 h1 h2).frame (E.flatMap a3f); refine hc1.permOut ?_; rintro x hs' ⟨h1', rfl, rfl, b, v, rfl⟩; refine ⟨_, ?_, rfl, E ++ [(idC c, N6 R7 c, b, v)], ?_, rfl⟩
     · simp only [stH, flatMap_append, flatMap_cons, flatMap_nil, append_nil, append_assoc, b2Y]; exact perm_append_left_iff _ |>.2 perm_append_comm
     · rw [a5m, ← hE]; unfold a4I a0m; rw [if_neg]
       · simp
       · simp only [any_map, any_eq_true, Function.comp_apply, decide_eq_true_eq, not_exists, not_and]; exact hnew
theorem c0K : H5 prog 11 [] [] (fun x hs' => ∃ s r m, x = .d (.raw (va s)) ∧ hs' = stH s r m [] []) := by
 refine a1P (fun i => i == 1000004) (by kernel_rfl) func11 (by kernel_rfl) rfl rfl (nbl rfl) (by kernel_rfl) rfl ?_; simp -implicitDefEqProofs [A7]; refine b0U 35 1000001 (by simp [A7]) (fun r => ?_); simp -implicitDefEqProofs [A7]; refine b0U 9 1000002 (by simp [A7]) (fun m => ?_); simp -implicitDefEqProofs [A7]; refine ⟨1000000, by simp [A7], fun s => ?_⟩; simp -implicitDefEqProofs [A7]; exact ⟨.d (.raw (va s)), [1000000, 1000001, 1000002], by simp, by simp [A7, isH], by simp [a1Z, A7], s, rfl, r, m, by simp [A7, stH, U5, S0, S6]⟩
@[simp] theorem c7C {P : Program} {F : Nat → Bool} {K : St → Prop} {σ : St} (ds : List Nat) (d : Nat) (args : Array Operand) (ts : Array TypeId) (ty : TypeId) (pos : String) (after : Array Edge) (g : Option (Nat × Bool)) (rest : List Oper) :
   F5 P F ds ({ dst := some d, op := .call { callee := .builtin .min, args, argTypes := ts }, type := ty, pos, after, guard := g } :: rest) K σ = D6 P F (.call { callee := .builtin .min, args, argTypes := ts }) d σ (M0 ds d (F5 P F ds rest K) σ) := rfl
def b5V (v id : Str) : Str := v.take (min v.length (256 - (id.length + 1))) ++ 35 :: id
def b2M (own id : Str) : List G3 := match (E8 own).1 with
 | [] => []
 | p :: l => (p.1, b5V p.2 id) :: l
def b0x (own id : Str) : Str := (I2 (b2M own id)).1
theorem c2x (own id : Str) (ho : length own < 900000) (hi : length id < 200) (hp : (E8 own).1 ≠ []) : Ctr prog 89 [.d (.str own), .d (.str id)] (.d (.str (b0x own id))) := by
 have c1 := b3M own ho; obtain ⟨p, l, hpl⟩ : ∃ p l, (E8 own).1 = p :: l := by
   cases h : (E8 own).1 with
   | nil => exact absurd h hp
   | cons p l => exact ⟨p, l, rfl⟩
 have hoth : b2M own id = (p.1, b5V p.2 id) :: l := (by simp [b2M, hpl]); have hfit : a8O (b2M own id) := by
   have h1 := a1h own; rw [hpl] at h1; rw [hoth]; refine ⟨by simpa using h1.1, fun q hq => ?_⟩; rcases mem_cons.1 hq with rfl | hq
   · have := h1.2 p (by simp); refine ⟨this.1, ?_⟩; simp only [b5V, length_append, length_take, length_cons]; omega
   · exact h1.2 q (by simp [hq])
 have c2 := a7v _ hfit; rw [hpl] at c1; obtain ⟨e1, he1⟩ : ∃ e1, (E8 own).2 = e1 := ⟨_, rfl⟩; rw [he1] at c1; obtain ⟨S, hS⟩ : ∃ S, I2 (b2M own id) = S := ⟨_, rfl⟩; have hos : b0x own id = S.1 := by rw [← hS]; rfl
 rw [hS] at c2; rw [hos]; rw [hoth] at c2; refine fv (fun i => i == 9000003 || i == 9000004 || i == 41) func89 (by kernel_rfl) rfl rfl rfl rfl rfl ?_; simp -implicitDefEqProofs; refine A3 c1 ?_; simp -implicitDefEqProofs [K7, P2]; refine ⟨by omega, ⟨by omega, by omega⟩, ?_⟩; have hmin : ((if (256 : Int) - ((length id : Nat) + 1) < (length p.2 : Nat) then (256 : Int) - ((length id : Nat) + 1) else (length p.2 : Nat)) : Int) = ((min p.2.length (256 - (id.length + 1)) : Nat) : Int) := by
   split <;> omega
 have hcut : b5V p.2 id = p.2.take (min p.2.length (256 - (id.length + 1))) ++ 35 :: id := rfl; have hm0 : min p.2.length (256 - (id.length + 1)) ≤ p.2.length := Nat.min_le_left _ _; generalize min p.2.length (256 - (id.length + 1)) = m at *; simp -implicitDefEqProofs [K7, P2, hmin]; have hl8 : l.length < 1000000 := by have := (hoth ▸ hfit : a8O ((p.1, b5V p.2 id) :: l)).1; simp at this; omega
 refine ⟨hm0, by have := Nat.min_le_left m (length p.2); have := a1h own; rw [hpl] at this; have := (this.2 p (by simp)).2; omega, ?_, ?_, by omega, by omega, ?_⟩
 · rintro a x y _ rfl; rfl
 · intro u hu; obtain ⟨q, _, rfl⟩ := mem_map.1 (mem_of_mem_take hu); rfl
 have htk : (l.map P2).take l.length = l.map P2 := ttl (by simp); rw [htk]; rw [hcut] at c2; refine E4 c2 ?_; simp -implicitDefEqProofs
end Go.Proofs.Tz