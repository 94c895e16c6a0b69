/-
  The abstract walk through a translated function, part 4 of 4: its data, its operations, and that it is sound, for every program. No conditions beyond those that each theorem states.
-/import Derived.Test.YtnknfnfinhagoaaGreatDoorWc
import Derived.Shelf.SlIter.Collect
import Derived.Shelf.SlMaps.Clone
open List
set_option linter.unusedSimpArgs false
set_option linter.unusedVariables false
set_option maxHeartbeats 4000000
namespace Go.Vw
open Go.RowKit Go.Proofs
variable {P : Program} {f : FuncId} {w w' : World} {L L' : Nat → Nat → Prop}
mutual
inductive Ln (P : Program) (w : World) (L : Nat → Nat → Prop) (hs : List AV) : D → D → Prop
 | same (d : D) : Ln P w L hs d d
 | box {u : Value} {e : TypeId} {d d' : D} : AV.hb u e d ∈ hs → Ln P w L hs d d' → Ln P w L hs (.raw u) (.ref d')
 | map {g : Nat} {kt : TypeId} {m m' : List (D × D)} {E : Option (List (D × Nat) × Nat)} {es : Array MapEntry} {clk : Nat} {vs' : List D} : AV.hm (.map (some g)) kt m E ∈ hs → w.heap[g]? = some (.map es clk) → I6 w L m' es.toList → Perm m' m →
     LnL P w L hs (m'.map (·.2)) vs' → Ln P w L hs (.raw (.map (some g))) (.map (.map (some g)) (m'.map (·.1)) vs' (es.toList.map (·.born)) clk)
 | agg {ds ds' : List D} : LnL P w L hs ds ds' → Ln P w L hs (.agg ds) (.agg ds')
inductive LnL (P : Program) (w : World) (L : Nat → Nat → Prop) (hs : List AV) : List D → List D → Prop
 | nil : LnL P w L hs [] []
 | cons {d d' : D} {ds ds' : List D} : Ln P w L hs d d' → LnL P w L hs ds ds' → LnL P w L hs (d :: ds) (d' :: ds')
end
theorem Ln.isAgg {hs : List AV} {d d' : D} (h : Ln P w L hs d d') : d'.isAgg = d.isAgg := by cases h <;> rfl
theorem LnL.aggs {hs : List AV} : ∀ {ds ds' : List D}, LnL P w L hs ds ds' → ds'.map D.isAgg = ds.map D.isAgg
 | _, _, .nil => rfl
 | _, _, .cons h1 h2 => by rw [map_cons, map_cons, h1.isAgg, h2.aggs]
def c2h (w : World) (b o : Nat) : Prop := (∃ C e m, w.heap[b]? = some (.cells C e m) ∧ o = C.size) ∨ ∃ es c, w.heap[b]? = some (.map es c) ∧ o = 0
theorem b0h {b o : Nat} (h : c2h w b o) : w.cell? ⟨b, o, none⟩ = none := by
 rcases h with ⟨C, e, m, h1, rfl⟩ | ⟨es, c, h1, rfl⟩ <;> simp [World.cell?, h1]
def a5q (w : World) (L : Nat → Nat → Prop) (hs : List AV) : Nat → Nat → Prop := fun b o => L b o ∨ (some b ∈ hs.map B7 ∧ c2h w b o)
theorem a5I (hs : List AV) : Ext w L w (a5q w L hs) := fun _ _ h => ⟨.inl h, fun _ h => h⟩
theorem I6.reps : ∀ {m : List (D × D)} {es : List MapEntry}, I6 w L m es → A6 w L (m.map (·.1)) (es.map fun e => e.key.cells.toList) ∧ A6 w L (m.map (·.2)) (es.map fun e => e.val.cells.toList) ∧
   (m.map (·.1)).map D.isAgg = es.map (fun e => I4 e.key) ∧ (m.map (·.2)).map D.isAgg = es.map fun e => I4 e.val
 | [], _, h => by simp only [I6] at h; subst h; simp [A6]
 | p :: m, _, h => by
   obtain ⟨e, es, rfl, h1, h2, h3⟩ := h; obtain ⟨i1, i2, i3, i4⟩ := h3.reps; refine ⟨?_, ?_, ?_, ?_⟩
   · simp only [map_cons, A6]; exact ⟨_, _, rfl, h1.1, i1⟩
   · simp only [map_cons, A6]; exact ⟨_, _, rfl, h2.1, i2⟩
   · simp only [map_cons, i3, h1.2]
   · simp only [map_cons, i4, h2.2]
mutual
theorem Rep.ln {hs : List AV} (hr : ∀ x ∈ hs, RH P w L x) : ∀ {d d' : D} {cs : List Value}, Ln P w L hs d d' → Rep w L d cs → Rep w (a5q w L hs) d' cs
 | _, _, _, .same d, h => Rep.mono (a5I hs) _ _ h
 | _, _, _, .box (u := u) (e := e) (d := d) hm h1, h => by
   simp only [Rep] at h; obtain ⟨rfl, _⟩ := h; obtain ⟨g, C, g1, g2, g3, g4, g5⟩ : Y4 w L (B7 (.hb u e d)) e d u := (hr _ hm).2; simp only [Rep]; refine ⟨g, 0, C.toList, by rw [g2]; rfl, Rep.ln hr h1 g4, fun k v hk => ⟨?_, .inr ⟨C, e, _, g3, .inr ⟨mem_map.2 ⟨_, hm, g1⟩, .inl ⟨C, e, _, g3, rfl⟩⟩⟩⟩⟩; simp only [World.cell?, g3]; simpa using hk
 | _, _, _, .map (g := g) (kt := kt) (m := m) (E := E) hm hh he hp hv, h => by
   simp only [Rep] at h; obtain ⟨rfl, _⟩ := h; obtain ⟨g', m2, es2, clk2, k1, k2, k3, k4, k5, k6, k7, k8, k9, k10, k11⟩ : a0d P w L (B7 (.hm (.map (some g)) kt m E)) kt m E (.map (some g)) := (hr _ hm).2; simp only [Value.map.injEq, Option.some.injEq] at k2; subst k2; rw [hh] at k3; simp only [Option.some.injEq, Obj.map.injEq] at k3; obtain ⟨rfl, rfl⟩ := k3; obtain ⟨e1, e2, e3, e4⟩ := he.reps; simp only [Rep]; refine ⟨g, _, _, _, trivial, rfl, hh, .inr ⟨mem_map.2 ⟨_, hm, rfl⟩, .inr ⟨_, _, hh, rfl⟩⟩, A6.mono (a5I hs) _ _ e1, A6.ln hr hv e2, rfl, rfl, e3, by rw [hv.aggs, e4], rfl, (hp.map _).nodup_iff.2 k7, k9, fun b hb => ?_⟩; obtain ⟨e, he, rfl⟩ := mem_map.1 hb; exact k10 e he
 | _, _, _, .agg hL, h => by
   simp only [Rep] at h ⊢; obtain ⟨css, h1, h2⟩ := h; exact ⟨css, A6.ln hr hL h1, h2⟩
theorem A6.ln {hs : List AV} (hr : ∀ x ∈ hs, RH P w L x) : ∀ {ds ds' : List D} {css : List (List Value)}, LnL P w L hs ds ds' → A6 w L ds css → A6 w (a5q w L hs) ds' css
 | _, _, _, .nil, h => h
 | _, _, _, .cons h1 h2, h => by
   simp only [A6] at h ⊢; obtain ⟨c, cs, e, h3, h4⟩ := h; exact ⟨c, cs, e, Rep.ln hr h1 h3, A6.ln hr h2 h4⟩
end
mutual
def a1q : D → Bool
 | .sl ds => S8 ds
 | .agg ds => S8 ds
 | .ref _ => false
 | .clo _ _ => false
 | .bnd _ _ => false
 | .map _ _ _ _ _ => false
 | _ => true
def S8 : List D → Bool
 | [] => true
 | d :: ds => a1q d && S8 ds
end
mutual
def T6 : AV → Bool
 | .d y => a1q y
 | .own _ _ l => S8 l
 | .tup xs => a8d xs
 | .nils => true
 | .undef => true
 | _ => false
def a8d : List AV → Bool
 | [] => true
 | x :: xs => T6 x && a8d xs
end
def a5t (w : World) (L L' : Nat → Nat → Prop) : Prop := ∀ b o v, w.cell? ⟨b, o, none⟩ = some v → L b o → L' b o
mutual
theorem Rep.cells {w : World} {L L' : Nat → Nat → Prop} (hx : a5t w L L') : ∀ (d : D) (cs : List Value), a1q d = true → Rep w L d cs → Rep w L' d cs
 | .bool _, _, _, h => h
 | .int _ _, _, _, h => h
 | .str _, _, _, h => h
 | .nilp, _, _, h => h
 | .raw _, _, _, h => h
 | .sl ds, _, hm, h => by
   simp only [a1q] at hm; simp only [Rep] at h ⊢; obtain ⟨a, cap, css, sz, h1, h2, h3, h4, h5⟩ := h; refine ⟨a, cap, css, sz, h1, A6.cells hx ds css hm h2, h3, h4, fun hn => ?_⟩; obtain ⟨b, off, ha, hat⟩ := h5 hn; exact ⟨b, off, ha, fun k v hk => ⟨(hat k v hk).1, hx _ _ _ (hat k v hk).1 (hat k v hk).2⟩⟩
 | .agg ds, _, hm, h => by
   simp only [a1q] at hm; simp only [Rep] at h ⊢; obtain ⟨css, h1, h2⟩ := h; exact ⟨css, A6.cells hx ds css hm h1, h2⟩
 | .ref _, _, hm, _ => by simp [a1q] at hm
 | .clo _ _, _, hm, _ => by simp [a1q] at hm
 | .bnd _ _, _, hm, _ => by simp [a1q] at hm
 | .map _ _ _ _ _, _, hm, _ => by simp [a1q] at hm
theorem A6.cells {w : World} {L L' : Nat → Nat → Prop} (hx : a5t w L L') : ∀ (ds : List D) (css : List (List Value)), S8 ds = true → A6 w L ds css → A6 w L' ds css
 | [], _, _, h => h
 | d :: ds, _, hm, h => by
   simp only [S8, Bool.and_eq_true] at hm; simp only [A6] at h ⊢; obtain ⟨c, cs, e, h1, h2⟩ := h; exact ⟨c, cs, e, Rep.cells hx d c hm.1 h1, A6.cells hx ds cs hm.2 h2⟩
end
mutual
theorem RC.cells {L L' : Nat → Nat → Prop} (hx : a5t w L L') {og : Option Nat} (ho : ∀ g, og = some g → ∀ o, L g o ↔ L' g o) : ∀ (x : AV) (v : Value), T6 x = true → RC P w L og x v → RC P w L' og x v
 | .undef, _, _, _ => by simp only [RC]
 | .d y, v, hm, h => by simp only [RC] at h ⊢; exact ⟨Rep.cells hx y _ hm h.1, h.2⟩
 | .nils, _, _, h => by simp only [RC] at h ⊢; exact h
 | .own m e l, v, hm, h => by
   simp only [RC] at h ⊢; obtain ⟨css, sz, h1, h2, h3, h4, h5⟩ := h; exact ⟨css, sz, h1, A6.cells hx _ _ hm h2, h3, h4, fun g hg => ⟨(h5 g hg).1, fun o => (ho g (h5 g hg).1 o).symm.trans ((h5 g hg).2 o)⟩⟩
 | .tup l, v, hm, h => by
   simp only [RC] at h ⊢; obtain ⟨vs, h1, h2⟩ := h; exact ⟨vs, h1, RCs.cells hx ho l vs hm h2⟩
 | .full _, _, hm, _ => by simp [T6] at hm
 | .bor .., _, hm, _ => by simp [T6] at hm
 | .box _, _, hm, _ => by simp [T6] at hm
 | .adr .., _, hm, _ => by simp [T6] at hm
 | .eadr .., _, hm, _ => by simp [T6] at hm
 | .iter .., _, hm, _ => by simp [T6] at hm
 | .hs .., _, hm, _ => by simp [T6] at hm
 | .hb .., _, hm, _ => by simp [T6] at hm
 | .sub .., _, hm, _ => by simp [T6] at hm
 | .hm .., _, hm, _ => by simp [T6] at hm
 | .mit .., _, hm, _ => by simp [T6] at hm
theorem RCs.cells {L L' : Nat → Nat → Prop} (hx : a5t w L L') {og : Option Nat} (ho : ∀ g, og = some g → ∀ o, L g o ↔ L' g o) : ∀ (xs : List AV) (vs : List Value), a8d xs = true → RCs P w L og xs vs → RCs P w L' og xs vs
 | [], _, _, h => by simp only [RCs] at h ⊢; exact h
 | x :: xs, vs, hm, h => by
   simp only [a8d, Bool.and_eq_true] at hm; simp only [RCs] at h ⊢; obtain ⟨v, us, h1, h2, h3⟩ := h; exact ⟨v, us, h1, RC.cells hx ho x v hm.1 h2, RCs.cells hx ho xs us hm.2 h3⟩
end
theorem RCs.lnL {hs : List AV} (hr : ∀ x ∈ hs, RH P w L x) : ∀ {ds ds' : List D} {vs : List Value}, LnL P w L hs ds ds' → RCs P w L none (ds.map .d) vs → RCs P w (a5q w L hs) none (ds'.map .d) vs
 | _, _, _, .nil, h => by simpa [RCs] using h
 | _, _, _, .cons h1 h2, h => by
   simp only [map_cons, RCs] at h ⊢; obtain ⟨v, us, rfl, h3, h4⟩ := h; have h3' : RepV w L _ v := h3; refine ⟨v, us, rfl, ?_, RCs.lnL hr h2 h4⟩
   show RepV w (a5q w L hs) _ v
   exact ⟨Rep.ln hr h1 h3'.1, by rw [h3'.2, h1.isAgg]⟩
theorem RH.locked {x : AV} (h : RH P w L x) {g : Nat} (hg : B7 x = some g) : g < w.heap.size ∧ ∀ q, ¬ L g q := by
 obtain ⟨h1, h2⟩ := h; cases x <;> simp [isH] at h1
 case hs u e l => exact RH.hs_lt ⟨rfl, h2⟩ hg
 case hb u e y =>
   obtain ⟨g', C, e1, e2, e3, e4, e5⟩ : Y4 w L (B7 (.hb u e y)) e y u := h2; rw [e1] at hg; obtain rfl := Option.some.inj hg; exact ⟨(Array.getElem?_eq_some_iff.1 e3).1, e5⟩
 case hm u kt m E =>
   obtain ⟨g', m', es, clk, e1, e2, e3, e4, e5⟩ : a0d P w L (B7 (.hm u kt m E)) kt m E u := h2; rw [e1] at hg; obtain rfl := Option.some.inj hg; exact ⟨(Array.getElem?_eq_some_iff.1 e3).1, e4⟩
theorem F5.lendL {ds : List D} {hs : List AV} {r : AV} (hE : Enters P f) (h : ∀ w L, (∀ x ∈ hs, RH P w L x) → ∃ ds', LnL P w L hs ds ds' ∧ Ctr P f (ds'.map .d) r) (hm : T6 r = true) :
   F5 P f (ds.map .d) hs (fun r' hs' => r' = r ∧ hs' = hs) := by
 refine ⟨hE, fun w L vals hl hg hrc hrh hap => ?_⟩; obtain ⟨ds', hln, hc⟩ := h w L hrh; have hb : ∀ g, some g ∈ hs.map B7 → g < w.heap.size ∧ ∀ q, ¬ L g q := fun g hg => by
   obtain ⟨x, hx, e⟩ := mem_map.1 hg; exact (hrh x hx).locked e
 refine (hc.2 w (a5q w L hs) none vals (fun b q hq => hq.elim (hl b q) fun h => (hb b h.1).1) (hg.mono (a5I _)) (by simp) (RCs.lnL hrh hln hrc)).mono ?_; rintro x w' ⟨v, L', og', rfl, hgr, hlok', hold', hog', hres⟩; have hgr' : E8 w w' noB := hgr.sub (fun b hb => by simp [E9] at hb); have hL : ∀ b q, b < w.heap.size → ((L' b q ∧ some b ∉ hs.map B7) ↔ L b q) := by
   intro b q hbs; rw [hold' b q hbs (by simp [E9])]; constructor
   · rintro ⟨h1, h2⟩; exact h1.elim id fun h => absurd h.1 h2
   · intro h1; exact ⟨.inl h1, fun h2 => (hb b h2).2 q h1⟩
 have hS : F4 w L w' (fun b q => L' b q ∧ some b ∉ hs.map B7) noB := by
   refine ⟨fun b q hq => ?_, fun b hb hne => hgr'.block b hb hne, fun b q hb _ => hL b q hb⟩; have hbs := hl b q hq; refine ⟨(hL b q hbs).2 hq, fun u hu => ?_⟩; rw [G7 (hgr'.block b hbs id)]; exact hu
 have hnew : ∀ g, og' = some g → g < w'.heap.size ∧ w.heap.size ≤ g := fun g hg => by
   have := hog' g hg; exact ⟨this.1, this.2.elim id fun h => by cases h⟩
 have hnin : ∀ g, w.heap.size ≤ g → some g ∉ hs.map B7 := fun g hg hm => by have := (hb g hm).1; omega
 have hcell : a5t w' L' (fun b q => L' b q ∧ some b ∉ hs.map B7) := fun b o v hv hq => by
   refine ⟨hq, fun hm => ?_⟩; have h1 := hb b hm; rcases (hold' b o h1.1 (by simp [E9])).1 hq with h2 | h2
   · exact h1.2 o h2
   · have h3 := b0h h2.2; have h4 := hgr'.block b h1.1 id; simp only [World.cell?, h4] at hv h3; rw [h3] at hv; cases hv
 refine ⟨v, fun b q => L' b q ∧ some b ∉ hs.map B7, og', r, hs, rfl, hgr.sub (fun b hb => by simp [E9] at hb), fun b q hq => hlok' b q hq.1, fun b q hbs _ => hL b q hbs, fun g hg => ?_, ⟨fun g hg hm => hnin g (hnew g hg).2 hm, hap⟩, ?_, fun x hx => ?_, rfl, rfl⟩
 · rcases mem_cons.1 hg with hg | hg
   · exact ⟨(hnew g hg.symm).1, .inl (hnew g hg.symm).2⟩
   · exact ⟨Nat.lt_of_lt_of_le (hb g hg).1 hgr.size, .inr hg⟩
 · refine RC.cells hcell (fun g hg o => ⟨fun h => ⟨h, hnin g (hnew g hg).2⟩, fun h => h.1⟩) r v hm hres
 · exact RH.step hS (fun g hg => ⟨((hrh x hx).locked hg).1, id⟩) (hrh x hx)
def apR (x y : Option Nat) : Prop := ∀ g, x = some g → y ≠ some g
theorem a7c : ∀ {l : List (Option Nat)}, J7 l ↔ l.Pairwise apR
 | [] => by simp [J7]
 | x :: xs => by
   rw [pairwise_cons, J7, a7c]; refine and_congr_left' ⟨fun h y hy g hg e => h g hg (e ▸ hy), fun h g hg hm => h _ hm g hg rfl⟩
theorem c4z {x y : Option Nat} (h : apR x y) : apR y x := fun g hg e => h g e hg
theorem b0f {l l' : List (Option Nat)} (h : Perm l l') (ha : J7 l) : J7 l' := by
 rw [a7c] at ha ⊢; exact (h.pairwise_iff (fun h => c4z h)).1 ha
theorem F5.perm {args hs hs2 : List AV} {Post : AV → List AV → Prop} (h : F5 P f args hs Post) (hp : Perm hs hs2) : F5 P f args hs2 Post := by
 have hm : ∀ b, some b ∈ hs.map B7 ↔ some b ∈ hs2.map B7 := fun b => (hp.map B7).mem_iff
 refine ⟨h.1, fun w L vals hl hg hrc hrh hap => (h.2 w L vals hl hg hrc (fun x hx => hrh x (hp.mem_iff.1 hx)) (b0f (hp.symm.map B7) hap)).mono ?_⟩; rintro x w' ⟨v, L', og, r, hs', rfl, hgr, hlok', hold', hog', hap', hres, hrh', hpost⟩; exact ⟨v, L', og, r, hs', rfl, hgr.sub fun b hb => (hm b).1 hb, hlok', fun b q hb hn => hold' b q hb (fun e => hn ((hm b).1 e)), fun g hg => ⟨(hog' g hg).1, (hog' g hg).2.imp id (hm g).1⟩, hap', hres, hrh', hpost⟩
theorem F5.permOut {args hs : List AV} {Post Post' : AV → List AV → Prop} (h : F5 P f args hs Post) (hp : ∀ r hs', Post r hs' → ∃ hs2, Perm hs' hs2 ∧ Post' r hs2) : F5 P f args hs Post' := by
 refine ⟨h.1, fun w L vals hl hg hrc hrh hap => (h.2 w L vals hl hg hrc hrh hap).mono ?_⟩; rintro x w' ⟨v, L', og, r, hs', rfl, hgr, hlok', hold', hog', hap', hres, hrh', hpost⟩; obtain ⟨hs2, h1, h2⟩ := hp r hs' hpost; have h3 := h1.map B7; exact ⟨v, L', og, r, hs2, rfl, hgr, hlok', hold', fun g hg => hog' g ((Perm.cons og h3).mem_iff.2 hg), b0f (Perm.cons og h3) hap', hres, fun x hx => hrh' x (h1.mem_iff.2 hx), h2⟩
theorem F5.frame {args hs : List AV} {Post : AV → List AV → Prop} (h : F5 P f args hs Post) (rest : List AV) : F5 P f args (hs ++ rest) (fun r hs' => ∃ h1, hs' = h1 ++ rest ∧ Post r h1) := by
 refine ⟨h.1, fun w L vals hl hg hrc hrh hap => ?_⟩; rw [map_append] at hap; obtain ⟨a1, a2, a3⟩ := b3M hap; have hin : ∀ b, some b ∈ hs.map B7 → some b ∈ (hs ++ rest).map B7 := fun b hb => by rw [map_append]; exact mem_append.2 (.inl hb)
 have hlk : ∀ x ∈ hs ++ rest, ∀ g, B7 x = some g → g < w.heap.size ∧ ∀ q, ¬ L g q := fun x hx g hg => (hrh x hx).locked hg
 refine (h.2 w L vals hl hg hrc (fun x hx => hrh x (by simp [hx])) a1).mono ?_; rintro x w' ⟨v, L', og, r, hs', rfl, hgr, hlok', hold', hog', hap', hres, hrh', hpost⟩; have hS : F4 w L w' L' (fun b => some b ∈ hs.map B7) := by
   refine ⟨fun b q hq => ?_, fun b hb hne => hgr.block b hb hne, fun b q hb hne => hold' b q hb hne⟩; have hne : some b ∉ hs.map B7 := fun e => by
     obtain ⟨x, hx, hx2⟩ := mem_map.1 e; exact (hlk x (by simp [hx]) b hx2).2 q hq
   have hb := hl b q hq; refine ⟨(hold' b q hb hne).2 hq, fun u hu => ?_⟩; rw [G7 (hgr.block b hb hne)]; exact hu
 have hrest : ∀ g, some g ∈ rest.map B7 → g < w.heap.size ∧ some g ∉ hs.map B7 := fun g hg => by
   obtain ⟨x, hx, hx2⟩ := mem_map.1 hg; exact ⟨(hlk x (by simp [hx]) g hx2).1, fun hm => a3 g hm hg⟩
 have hdis : ∀ g, some g ∈ og :: hs'.map B7 → some g ∉ rest.map B7 := fun g hg hm => by
   have h1 := hrest g hm; rcases (hog' g hg).2 with h2 | h2
   · omega
   · exact h1.2 h2
 refine ⟨v, L', og, r, hs' ++ rest, rfl, hgr.sub hin, hlok', fun b q hb hn => hold' b q hb (fun e => hn (hin b e)), fun g hg => ?_, ?_, hres, fun x hx => ?_, hs', rfl, hpost⟩
 · rw [map_append, ← cons_append] at hg; rcases mem_append.1 hg with hg | hg
   · exact ⟨(hog' g hg).1, (hog' g hg).2.imp id (hin g)⟩
   · exact ⟨Nat.lt_of_lt_of_le (hrest g hg).1 hgr.size, .inr (by rw [map_append]; exact mem_append.2 (.inr hg))⟩
 · rw [map_append, ← cons_append]; rw [a7c] at hap' a2 ⊢; refine pairwise_append.2 ⟨hap', a2, fun x hx y hy g hg e => hdis g (by rw [← hg]; exact hx) (by rw [← e]; exact hy)⟩
 · rcases mem_append.1 hx with hx | hx
   · exact hrh' x hx
   · refine RH.step hS (fun g hg => ?_) (hrh x (by simp [hx])); exact hrest g (mem_map.2 ⟨x, hx, hg⟩)
def Fam (σ : St) (B : Nat) (hs : List AV) : Prop := hs.all isH = true ∧ hs.length ≤ 500000 ∧ ∀ i (h : i < hs.length), σ (B + i) = hs[i]
def K0 (B n : Nat) : List Nat := (List.range n).map (B + ·)
theorem Fam.map {σ : St} {B : Nat} {hs : List AV} (h : Fam σ B hs) : (K0 B hs.length).map σ = hs := by
 apply ext_getElem
 · simp [K0]
 · intro i h1 h2; simp only [K0, map_map, getElem_map, getElem_range, Function.comp_apply]; exact h.2.2 i h2
theorem Fam.isH {σ : St} {B : Nat} {hs : List AV} (h : Fam σ B hs) : ∀ k ∈ K0 B hs.length, isH (σ k) = true := by
 intro k hk; obtain ⟨i, hi, rfl⟩ := mem_map.1 hk; have hi' : i < hs.length := (by simpa using hi); rw [h.2.2 i hi']; exact all_eq_true.1 h.1 _ (getElem_mem _)
theorem a0Z (B n : Nat) : (K0 B n).Nodup := by
 refine (pairwise_map).2 (Pairwise.imp ?_ nodup_range); intro a b hab e; exact hab (by omega)
theorem a3b (k : Nat) (ks : List Nat) (x : AV) : F3 ks (E0 k x) = F3 (k :: ks) x := by
 cases x with
 | bor j m e l => by_cases h : j = k <;> by_cases h2 : j ∈ ks <;> cases m <;> simp [E0, F3, h, h2] <;> simp_all
 | adr j p => by_cases h : j = k <;> by_cases h2 : j ∈ ks <;> simp [E0, F3, h, h2] <;> simp_all
 | eadr j i p => by_cases h : j = k <;> by_cases h2 : j ∈ ks <;> simp [E0, F3, h, h2] <;> simp_all
 | sub j i => by_cases h : j = k <;> by_cases h2 : j ∈ ks <;> simp [E0, F3, h, h2] <;> simp_all
 | _ => rfl
theorem a5M (x : AV) : F3 [] x = x := by cases x <;> rfl
theorem a7x (k : Nat) (ks : List Nat) (x : AV) : E0 k (F3 ks x) = F3 ks (E0 k x) := by
 cases x with
 | bor j m e l => by_cases h : j = k <;> by_cases h2 : j ∈ ks <;> cases m <;> simp [E0, F3, h, h2] <;> simp_all
 | adr j p => by_cases h : j = k <;> by_cases h2 : j ∈ ks <;> simp [E0, F3, h, h2] <;> simp_all
 | eadr j i p => by_cases h : j = k <;> by_cases h2 : j ∈ ks <;> simp [E0, F3, h, h2] <;> simp_all
 | sub j i => by_cases h : j = k <;> by_cases h2 : j ∈ ks <;> simp [E0, F3, h, h2] <;> simp_all
 | _ => rfl
theorem a3P : ∀ (ks ls : List Nat) (x : AV), F3 ls (F3 ks x) = F3 (ks ++ ls) x
 | [], ls, x => by rw [a5M]; rfl
 | k :: ks, ls, x => by rw [← a3b, a3P, cons_append, a3b]
theorem a3f : ∀ (ks : List Nat) (σ : St) (i : Nat), i ∉ ks → B9 σ ks i = F3 ks (σ i)
 | [], σ, i, _ => (a5M _).symm
 | k :: ks, σ, i, hi => by
   have hne : i ≠ k := fun e => hi (by simp [e])
   rw [B9, a3f ks _ _ (fun h => hi (by simp [h])), ← a3b]; simp only [put, if_neg hne]
def U7 : List Nat → Nat → Nat → List Nat
 | _, _, 0 => []
 | k :: ks, b, n + 1 => k :: U7 ks b n
 | [], b, n + 1 => b :: U7 [] (b + 1) n
theorem a2t : ∀ (n : Nat) (ks : List Nat) (b k : Nat), k ∈ U7 ks b n → k ∈ ks ∨ (b ≤ k ∧ k < b + n)
 | 0, ks, b, k, h => by cases ks <;> simp [U7] at h
 | n + 1, k' :: ks, b, k, h => by
   rcases mem_cons.1 (show k ∈ k' :: U7 ks b n from h) with rfl | h
   · simp
   · rcases a2t n ks b k h with h | h
     · simp [h]
     · exact .inr (by omega)
 | n + 1, [], b, k, h => by
   rcases mem_cons.1 (show k ∈ b :: U7 [] (b + 1) n from h) with rfl | h
   · exact .inr (by omega)
   · rcases a2t n [] (b + 1) k h with h | h
     · simp at h
     · exact .inr (by omega)
theorem W2 : ∀ (xs : List AV) (ks : List Nat) (σ : St) (b i : Nat), i ∉ U7 ks b xs.length → C6 σ ks b xs i = F3 (U7 ks b xs.length) (σ i)
 | [], [], _, _, _, _ => (a5M _).symm
 | [], _ :: _, _, _, _, _ => (a5M _).symm
 | x :: xs, k :: ks, σ, b, i, hi => by
   simp only [length_cons, U7, mem_cons, not_or] at hi ⊢; rw [C6, W2 xs ks _ _ _ hi.2, ← a3b]; simp only [put, if_neg hi.1]
 | x :: xs, [], σ, b, i, hi => by
   simp only [length_cons, U7, mem_cons, not_or] at hi ⊢; rw [C6, W2 xs [] _ _ _ hi.2, ← a3b]; simp only [put, if_neg hi.1]
theorem a0G {x : AV} (h : isH x = true) (ks : List Nat) : F3 ks x = x := by cases x <;> simp [isH] at h <;> rfl
theorem b6f : ∀ (xs : List AV) (σ : St) (B n : Nat), (∀ x ∈ xs, isH x = true) → ∀ i (h : i < xs.length), C6 σ (K0 B n) (B + n) xs (B + i) = xs[i]
 | [], _, _, _, _, _, h => by simp at h
 | x :: xs, σ, B, 0, hx, i, h => by
   have := a6l (x :: xs) σ B hx i h; simpa [K0] using this
 | x :: xs, σ, B, n + 1, hx, i, h => by
   have e : K0 B (n + 1) = B :: K0 (B + 1) n := by
     simp only [K0, range_succ_eq_map, map_cons, Nat.add_zero, map_map, List.cons.injEq, true_and]; refine map_congr_left fun a _ => ?_
     simp only [Function.comp_apply]; omega
   rw [e, show B + (n + 1) = (B + 1) + n by omega, C6]; cases i with
   | zero =>
     have hkx := a2c (hx x (by simp)); have e2 : (put σ B x) B = x := by simp only [put, if_true]; exact hkx B
     rw [show B + 0 = B from rfl, W2 xs _ _ _ B (fun hm => by
       rcases a2t _ _ _ _ hm with hm | hm
       · obtain ⟨j, _, hj⟩ := mem_map.1 hm; omega
       · omega), e2, a0G (hx x (by simp)), getElem_cons_zero]
   | succ i =>
     have := b6f xs (put σ B x) (B + 1) n (fun y hy => hx y (by simp [hy])) i (by simpa using h); rw [show B + (i + 1) = B + 1 + i by omega, this, getElem_cons_succ]
def b5H (B : Nat) (ks : List Nat) : Prop := ∀ k ∈ ks, B ≤ k ∧ k < B + 1000000
theorem b5H.not {B : Nat} {ks : List Nat} (h : b5H B ks) {j : Nat} (hj : j < B ∨ B + 1000000 ≤ j) : ks.contains j = false := by
 rw [Bool.eq_false_iff]; intro hc; have := h j (by simpa using hc); omega
theorem b5w {B n : Nat} (h : n ≤ 1000000) : b5H B (K0 B n) := fun k hk => by
 obtain ⟨j, hj, rfl⟩ := mem_map.1 hk; have : j < n := (by simpa using hj); omega
theorem c0n {σ σ1 : St} {B : Nat} {hs hs' : List AV} (hF : Fam σ B hs) (hB : 1000000 ≤ B) (h1 : hs'.all isH = true) (h2 : hs'.length ≤ 500000) :
   ∃ ks, b5H B ks ∧ Fam (C6 σ1 (K0 B hs.length) (B + hs.length) hs') B hs' ∧ (∀ i, (i < B ∨ B + 1000000 ≤ i) → C6 σ1 (K0 B hs.length) (B + hs.length) hs' i = F3 ks (σ1 i)) := by
 have hl := hF.2.1; have hL : b5H B (U7 (K0 B hs.length) (B + hs.length) hs'.length) := fun k hk => by
   rcases a2t _ _ _ _ hk with hk | hk
   · exact b5w (by omega) k hk
   · omega
 refine ⟨_, hL, ⟨h1, h2, fun i hi => b6f hs' _ _ _ (fun x hx => all_eq_true.1 h1 x hx) i hi⟩, fun i hi => W2 _ _ _ _ _ (fun hm => ?_)⟩; have := hL i hm; omega
theorem b6A {σ : St} {B : Nat} {hs : List AV} (hF : Fam σ B hs) (i : Nat) (hi : i < B ∨ B + 1000000 ≤ i) : B9 σ (K0 B hs.length) i = F3 (K0 B hs.length) (σ i) :=
 a3f _ _ _ fun hm => by have := b5w (B := B) (n := hs.length) (by have := hF.2.1; omega) i hm; omega
theorem Fam.put {σ : St} {B d : Nat} {hs : List AV} {x : AV} (h : Fam σ B hs) (hd : d < B) : Fam (put σ d x) B hs := by
 refine ⟨h.1, h.2.1, fun i hi => ?_⟩; simp only [Vw.put, if_neg (show ¬ B + i = d by omega), h.2.2 i hi]; exact a2c (all_eq_true.1 h.1 _ (getElem_mem _)) d
theorem Fam.setv {σ : St} {B d : Nat} {hs : List AV} {x : AV} (h : Fam σ B hs) (hd : d < B) : Fam (B0 σ d x) B hs := by
 refine ⟨h.1, h.2.1, fun i hi => ?_⟩; simp only [Vw.B0, if_neg (show ¬ B + i = d by omega), h.2.2 i hi]
theorem Fam.clean {σ : St} {B : Nat} {hs : List AV} (h : Fam σ B hs) (ds : List Nat) : Fam (I3 ds σ) B hs := by
 refine ⟨h.1, h.2.1, fun i hi => ?_⟩; simp only [Vw.I3, h.2.2 i hi]; exact a0G (all_eq_true.1 h.1 _ (getElem_mem _)) ds
section
variable {g : FuncId} {args : List AV} {σ : St} {d : Nat} {K : St → Prop} {Post : AV → List AV → Prop} {hs : List AV}
theorem c8e (B : Nat) (hB : 1000000 ≤ B) (hd : d < 1000000) (hF : Fam σ B hs) (h : F5 P g args hs Post) (hH : ∀ r hs', Post r hs' → hs'.all isH = true ∧ hs'.length ≤ 500000)
   (hk : ∀ r hs' τ ks ls, Post r hs' → Fam τ B hs' → (∀ j, j < 1000000 → ks.contains j = false) → (∀ j, j < 1000000 → ls.contains j = false) → (∀ i, i < 1000000 → τ i = if i = d then F3 ls (E0 d r) else F3 ks (E0 d (σ i))) →
     (∀ B2 hs2, Fam σ B2 hs2 → 1000000 ≤ B2 → (B2 + 1000000 ≤ B ∨ B + 1000000 ≤ B2) → Fam τ B2 hs2) → K τ) : a2T P g args σ d K := by
 refine ⟨K0 B hs.length, B + hs.length, Post, hF.isH, a0Z _ _, by rw [hF.map]; exact h, fun r hs' hp => ?_⟩; obtain ⟨ls, l1, l2, l3⟩ := c0n (σ1 := put (B9 σ (K0 B hs.length)) d r) hF hB (hH r hs' hp).1 (hH r hs' hp).2; have hks := b5w (B := B) (n := hs.length) (by have := hF.2.1; omega); refine hk r hs' _ (K0 B hs.length ++ ls) ls hp l2 (fun j hj => ?_) (fun j hj => l1.not (by omega)) (fun i hi => ?_) (fun B2 hs2 hF2 hB2 hBB => ⟨hF2.1, hF2.2.1, fun i hi => ?_⟩)
 · rw [contains_append, hks.not (by omega), l1.not (by omega)]; rfl
 · rw [l3 i (by omega)]; unfold put; split
   · rfl
   · rw [b6A hF i (by omega), a7x, a3P]
 · have := hF2.2.1; have hH2 := all_eq_true.1 hF2.1 _ (getElem_mem hi); rw [l3 _ (by omega)]; simp only [Vw.put, if_neg (show ¬ B2 + i = d by omega)]; rw [b6A hF _ (by omega), hF2.2.2 i hi, a0G hH2, a2c hH2, a0G hH2]
end
theorem F5.frzMap {args : List AV} {Post Post' : AV → List AV → Prop} (h : F5 P f args [] Post)
   (hp : ∀ r hs', Post r hs' → ∃ g kt m, r = .d (.raw (.map (some g))) ∧ hs' = [.hm (.map (some g)) kt m none] ∧ ∀ m' bs clk, Perm m' m → Post' (.d (.map (.map (some g)) (m'.map (·.1)) (m'.map (·.2)) bs clk)) []) : F5 P f args [] Post' := by
 refine ⟨h.1, fun w L vals hl hg hrc hrh hap => (h.2 w L vals hl hg hrc hrh hap).mono ?_⟩; rintro x w' ⟨v, L', og, r, hs', rfl, hgr, hlok', hold', hog', hap', hres, hrh', hpost⟩; obtain ⟨g, kt, m, rfl, rfl, hq⟩ := hp r hs' hpost; obtain ⟨g', m', es, clk, k1, k2, k3, k4, k5, k6, k7, k8, k9, k10, _⟩ : a0d P w' L' (B7 (.hm (.map (some g)) kt m none)) kt m none (.map (some g)) := (hrh' (.hm (.map (some g)) kt m none) (by simp)).2; simp only [Value.map.injEq, Option.some.injEq] at k2; subst k2; have hgn := hog' g (by simp [B7]); have hext : Ext w' L' w' (fun b q => L' b q ∨ (b = g ∧ q = 0)) := fun _ _ hq => ⟨.inl hq, fun _ hv => hv⟩
 obtain ⟨e1, e2, e3, e4⟩ := k6.reps; have hv' : RepV w' L' (.raw (.map (some g))) v := hres; obtain rfl := hv'.raw_inv; refine ⟨_, fun b q => L' b q ∨ (b = g ∧ q = 0), none, _, [], rfl, hgr, fun b q hq => ?_, fun b q hb hn => ?_, fun g' hg' => ?_, ⟨fun g' hg' => (by cases hg'), trivial⟩, ?_, by simp, hq m' (es.toList.map (·.born)) clk k5⟩
 · rcases hq with hq | ⟨rfl, _⟩
   · exact hlok' b q hq
   · exact hgn.1
 · rw [← hold' b q hb hn]; refine ⟨fun h => h.elim id fun h => ?_, .inl⟩; rcases hgn.2 with h1 | h1
   · omega
   · simp at h1
 · simp at hg'
 · show RepV w' _ _ _
   refine ⟨?_, rfl⟩; simp only [Rep]; refine ⟨g, es, _, _, rfl, rfl, k3, .inr (by simp), A6.mono hext _ _ e1, A6.mono hext _ _ e2, rfl, rfl, e3, e4, rfl, (k5.map _).nodup_iff.2 k7, k9, fun b hb => ?_⟩; obtain ⟨e, he, rfl⟩ := mem_map.1 hb; exact k10 e he
theorem b2Z {g : FuncId} {args : List AV} {σ : St} {d : Nat} {K : St → Prop} {Post : AV → List AV → Prop} (h : F5 P g args [] Post) (hk : ∀ r hs', Post r hs' → hs' = [] ∧ K (put σ d r)) : a2T P g args σ d K :=
 ⟨[], 1000000, Post, by simp, by simp, h, fun r hs' hp => by obtain ⟨rfl, hk⟩ := hk r hs' hp; exact hk⟩
theorem a0R : ∀ (ks : List Nat) (b : Nat), U7 ks b ks.length = ks
 | [], _ => rfl
 | k :: ks, b => by simp only [length_cons, U7, a0R ks b]
theorem a9t : ∀ (ks : List Nat) (σ τ : St) (b : Nat), ks.Nodup → (∀ k ∈ ks, isH (σ k) = true) → ∀ k ∈ ks, C6 τ ks b (ks.map σ) k = σ k
 | [], _, _, _, _, _, _, hk => by simp at hk
 | k :: ks, σ, τ, b, hn, hH, i, hi => by
   rw [nodup_cons] at hn; rw [map_cons, C6]; by_cases hik : i ∈ ks
   · exact a9t ks σ _ b hn.2 (fun k hk => hH k (by simp [hk])) i hik
   · have : i = k := by
       rcases mem_cons.1 hi with h | h
       · exact h
       · exact absurd h hik
     subst this; have e : (ks.map σ).length = ks.length := (by simp); have h1 := hH i (by simp); rw [W2 _ _ _ _ _ (by rw [e, a0R]; exact hik), e, a0R]; simp only [put, if_true, a2c h1 i, a0G h1]
theorem b7E {g : FuncId} {args : List AV} {σ : St} {d : Nat} {K : St → Prop} {r : AV} (ks : List Nat) (h6 : ∀ k ∈ ks, 1000000 ≤ k) (hd : d < 1000000) (hn : ks.Nodup) (hH : ∀ k ∈ ks, isH (σ k) = true) (h : F5 P g args (ks.map σ) (fun r' hs' => r' = r ∧ hs' = ks.map σ))
   (hk : ∀ τ, (∀ k ∈ ks, τ k = σ k) → τ d = F3 ks (E0 d r) → (∀ i, i ∉ ks → i ≠ d → τ i = F3 (ks ++ ks) (E0 d (σ i))) → K τ) : a2T P g args σ d K := by
 refine ⟨ks, 1000000, _, hH, hn, h, fun r' hs' hp => ?_⟩; obtain ⟨rfl, rfl⟩ := hp; have e : (ks.map σ).length = ks.length := (by simp); have hdk : d ∉ ks := fun hm => by have := h6 d hm; omega
 refine hk _ (fun k hk' => a9t ks σ _ _ hn hH k hk') ?_ (fun i hi hid => ?_)
 · rw [W2 _ _ _ _ _ (by rw [e, a0R]; exact hdk), e, a0R]; simp only [put, if_true]
 · rw [W2 _ _ _ _ _ (by rw [e, a0R]; exact hi), e, a0R]; simp only [put, if_neg hid]; rw [a3f _ _ _ hi, a7x, a3P]
end Go.Vw
namespace Go.Vw
open Go.RowKit Go.Proofs
variable {P : Program} {F : Nat → Bool} {w0 : World} {L0 : Nat → Nat → Prop} {row : Nat → Prop} {n : Nat} {K : St → Prop} {Q : Exit → Act → World → Prop}
 {w w' : World} {L L' : Nat → Nat → Prop} {O O' : Nat → Option Nat} {σ σ' : St} {a : Act} {o : Oper} {d : Nat} {v : Value} {tm : Nat → Value}
 {ops : Array Oper} {ds : List Nat}
def a2v (x : AV) : Bool := match H5 x with
 | some j => decide (j < 1000000)
 | none => true
def a6S : AV → Bool
 | .d (.raw _) => true
 | _ => false
def P7 (σ : St) : Operand → Bool
 | .tmp t => decide (t < 1000000) && (a2v (σ t) && (match H5 (A0 σ (.tmp t)) with
   | some j => decide (j < 1000000) && a2v (σ j)
   | none => true))
 | _ => true
def V7 (σ : St) : Op → Bool
 | .move x => P7 σ x
 | .assign x => P7 σ x
 | .pick c x y => P7 σ c && (P7 σ x && P7 σ y)
 | .load _ x => P7 σ x
 | .fieldAddr _ x _ => P7 σ x && !a6S (A0 σ x)
 | .indexAddr _ x i => P7 σ x && (P7 σ i && !a6S (A0 σ x))
 | .binOp _ _ x y _ => P7 σ x && P7 σ y
 | .unOp _ _ x => P7 σ x
 | .extract x _ => P7 σ x
 | .call c => (c.args.toList.all fun x => P7 σ x) && (match c.callee with
   | .value f => P7 σ f
   | .builtin _ => c.args.toList.all fun x => !a6S (A0 σ x)
   | _ => false)
 | _ => false
def a1E (xs : List Operand) (σ σ' : St) : Prop := ∀ x ∈ xs, (∀ t, x = .tmp t → σ t = σ' t) ∧ ∀ j, H5 (A0 σ x) = some j → σ j = σ' j
theorem Agr.one {xs : List Operand} (h : Agr xs σ σ') : a1E xs σ σ' := h.1
theorem a1E.aval {xs : List Operand} (h : a1E xs σ σ') {x : Operand} (hx : x ∈ xs) : Vw.A0 σ x = Vw.A0 σ' x := by
 cases x with
 | tmp t => simp only [Vw.A0, (h _ hx).1 t rfl]
 | const v => rfl
 | func f => rfl
 | global g => rfl
theorem a1E.deref {xs : List Operand} (h : a1E xs σ σ') {x : Operand} (hx : x ∈ xs) : Vw.W1 σ (Vw.A0 σ x) = Vw.W1 σ' (Vw.A0 σ' x) := by
 have h2 := (h x hx).2; rw [← h.aval hx]; cases hv : Vw.A0 σ x <;> rw [hv] at h2
 case d z => cases z <;> rfl
 case adr j p => simp only [Vw.W1, h2 j rfl]
 case eadr j i p => simp only [Vw.W1, h2 j rfl]
 all_goals rfl
theorem a1E.args {xs : List Operand} (h : a1E xs σ σ') : ∀ {ys : List Operand}, (∀ y ∈ ys, y ∈ xs) → Y3 σ ys = Y3 σ' ys ∧ N4 σ ys = N4 σ' ys
 | [], _ => ⟨rfl, rfl⟩
 | y :: ys, hy => by
   have h1 := h.aval (hy y (by simp)); have h2 := h.args (ys := ys) (fun z hz => hy z (mem_cons_of_mem _ hz)); simp only [Y3, b2S, N4, h1, h2.1, h2.2, and_self]
theorem a1E.lends {xs : List Operand} (h : a1E xs σ σ') : ∀ {ys : List Operand}, (∀ y ∈ ys, y ∈ xs) → X4 σ ys = X4 σ' ys
 | [], _ => rfl
 | y :: ys, hy => by
   have h1 := h.aval (hy y (by simp)); have h2 := h.lends (ys := ys) (fun z hz => hy z (mem_cons_of_mem _ hz)); simp only [X4, b1Z, h1, h2]
theorem a1E.plain {xs : List Operand} (h : a1E xs σ σ') : ∀ {ys : List Operand}, (∀ y ∈ ys, y ∈ xs) → L3 σ ys = L3 σ' ys
 | [], _ => rfl
 | y :: ys, hy => by
   have h1 := h.aval (hy y (by simp)); have h2 := h.plain (ys := ys) (fun z hz => hy z (mem_cons_of_mem _ hz)); simp only [L3, h1, h2]
theorem N8 {xs : List Operand} (h : a1E xs σ σ') {x : Operand} (hx : x ∈ xs) : P7 σ x = P7 σ' x := by
 cases x with
 | tmp t =>
   have h1 := (h _ hx).1 t rfl; have h2 := h.aval hx; have h3 := (h _ hx).2; simp only [P7, ← h1, ← h2]; cases hr : H5 (Vw.A0 σ (.tmp t)) with
   | none => rfl
   | some j => simp only [← h3 j hr]
 | const v => rfl
 | func f => rfl
 | global g => rfl
theorem a9a {op : Op} (h : a1E op.operands.toList σ σ') : V7 σ op = V7 σ' op := by
 unfold V7; split <;> try rfl
 · rw [N8 h (by simp [Op.operands])]
 · rw [N8 h (by simp [Op.operands])]
 · rename_i c x y
   rw [N8 h (x := c) (by simp [Op.operands]), N8 h (x := x) (by simp [Op.operands]), N8 h (x := y) (by simp [Op.operands])]
 · rw [N8 h (by simp [Op.operands])]
 · rename_i x f
   rw [N8 h (x := x) (by simp [Op.operands]), h.aval (x := x) (by simp [Op.operands])]
 · rename_i x i
   rw [N8 h (x := x) (by simp [Op.operands]), N8 h (x := i) (by simp [Op.operands]), h.aval (x := x) (by simp [Op.operands])]
 · rename_i x y t
   rw [N8 h (x := x) (by simp [Op.operands]), N8 h (x := y) (by simp [Op.operands])]
 · rw [N8 h (by simp [Op.operands])]
 · rw [N8 h (by simp [Op.operands])]
 · rename_i c
   have h1 : ∀ x ∈ c.args.toList, x ∈ (Op.call c).operands.toList := fun y hy => by simp only [Op.operands, Call.operands, Array.toList_append, mem_append]; exact .inr hy
   have e1 : (c.args.toList.all fun x => P7 σ x) = c.args.toList.all fun x => P7 σ' x := by
     rw [Bool.eq_iff_iff, all_eq_true, all_eq_true]; exact ⟨fun q x hx => by rw [← N8 h (h1 x hx)]; exact q x hx, fun q x hx => by rw [N8 h (h1 x hx)]; exact q x hx⟩
   have e2 : (c.args.toList.all fun x => !a6S (A0 σ x)) = c.args.toList.all fun x => !a6S (A0 σ' x) := by
     rw [Bool.eq_iff_iff, all_eq_true, all_eq_true]; exact ⟨fun q x hx => by rw [← h.aval (h1 x hx)]; exact q x hx, fun q x hx => by rw [h.aval (h1 x hx)]; exact q x hx⟩
   rw [e1, e2]; cases hc : c.callee with
   | value f =>
     have := N8 h (x := f) (by simp [Op.operands, Call.operands, hc]); simp only [this]
   | builtin b => rfl
   | invoke x m => rfl
theorem b9Y {op : Op} {C : AV → Prop} (ha : a1E op.operands.toList σ σ') (hcalm : V7 σ op = true) (h : D3 P F op d σ C) : D3 P F op d σ' C := by
 unfold D3 at h ⊢; split at h
 · rename_i x
   have hx := ha.aval (x := x) (by simp [Op.operands]); unfold X9 at h ⊢; split at h
   · rename_i t
     have ht := (ha (.tmp t) (by simp [Op.operands])).1 t rfl; rw [← ht, ← hx]; exact h
   · exact h.elim
   · rw [← hx]; exact h
 · rename_i x
   have hx := ha.aval (x := x) (by simp [Op.operands]); unfold X9 at h ⊢; split at h
   · rename_i t
     have ht := (ha (.tmp t) (by simp [Op.operands])).1 t rfl; rw [← ht, ← hx]; exact h
   · exact h.elim
   · rw [← hx]; exact h
 · rename_i c x y
   rw [← ha.aval (x := c) (by simp [Op.operands]), ← ha.aval (x := x) (by simp [Op.operands]), ← ha.aval (x := y) (by simp [Op.operands])]; exact h
 · rename_i t x
   have hx : X6 P σ x = X6 P σ' x := by
     have h1 := ha.deref (x := x) (by simp [Op.operands]); cases x with
     | global g => rfl
     | _ => exact h1
   rw [← hx]; exact h
 · simp [V7] at hcalm
 · simp [V7] at hcalm
 · simp [V7] at hcalm
 · rename_i s x f
   have hx := ha.aval (x := x) (by simp [Op.operands]); have hr := (ha x (by simp [Op.operands])).2; simp only [V7, Bool.and_eq_true, Bool.not_eq_true'] at hcalm; unfold T3 at h ⊢; rw [← hx]; split at h
   · exact h
   · rename_i u hv; rw [hv] at hcalm; simp [a6S] at hcalm
   · rename_i j p hv; rw [hv] at hr; simp only [← hr j rfl]; exact h
   · rename_i j i p hv; rw [hv] at hr; simp only [← hr j rfl]; exact h
   · exact h.elim
 · rename_i t x i
   have hx := ha.aval (x := x) (by simp [Op.operands]); have hi := ha.aval (x := i) (by simp [Op.operands]); simp only [V7, Bool.and_eq_true, Bool.not_eq_true'] at hcalm; unfold T4 at h ⊢; rw [← hx, ← hi]; refine F7 h fun e h => ?_
   split at h
   · obtain ⟨h0, h⟩ := h; refine ⟨h0, ?_⟩; split at h
     · exact h
     · rename_i u hv; rw [hv] at hcalm; simp [a6S] at hcalm
     · rename_i j lo hv
       have hr := (ha x (by simp [Op.operands])).2; rw [hv] at hr; simp only [← hr j rfl]; exact h
     · exact h
   · exact h.elim
 · simp [V7] at hcalm
 · simp [V7] at hcalm
 · rename_i op t x y t'
   rw [← ha.aval (x := x) (by simp [Op.operands]), ← ha.aval (x := y) (by simp [Op.operands])]; exact h
 · rename_i t x
   rw [← ha.aval (x := x) (by simp [Op.operands])]; exact h
 · simp [V7] at hcalm
 · rename_i x i
   unfold Y8 at h ⊢; split at h
   · rename_i t
     have ht := (ha (.tmp t) (by simp [Op.operands])).1 t rfl; rw [← ht]; exact h
   · exact h.elim
 · rename_i c
   simp only [V7, Bool.and_eq_true] at hcalm; unfold a3d at h ⊢; split at h
   · rename_i x t hc hx ht
     have hraw := hcalm.2; rw [hc] at hraw; simp only [hx, all_cons, all_nil, Bool.and_true, Bool.not_eq_true'] at hraw; rw [← ha.aval (x := x) (by simp [Op.operands, Call.operands, hx])]; split at h
     · exact h
     · exact h
     · split at h
       · rename_i u hv; rw [hv] at hraw; simp [a6S] at hraw
       · exact h
       · exact h.elim
     · exact h.elim
   · rename_i x y t t' hc hx ht
     rw [← ha.aval (x := x) (by simp [Op.operands, Call.operands, hx]), ← ha.aval (x := y) (by simp [Op.operands, Call.operands, hx])]; exact h
   · rename_i f hc
     have hf := ha.aval (x := f) (by simp [Op.operands, Call.operands, hc]); have hxs := ha.args (ys := c.args.toList) (fun y hy => by simp only [Op.operands, Call.operands, Array.toList_append, mem_append]; exact .inr hy); have hls := ha.lends (ys := c.args.toList) (fun y hy => by simp only [Op.operands, Call.operands, Array.toList_append, mem_append]; exact .inr hy); rw [← hf, ← hxs.1, ← hxs.2, ← hls]; exact h
   · exact h.elim
 · simp [V7] at hcalm
 · exact h.elim
theorem c4B {op : Op} (h : V7 σ op = true) : ∀ x ∈ op.operands.toList, P7 σ x = true := by
 intro y hy; unfold V7 at h; split at h
 · simp only [Op.operands, mem_singleton] at hy; rw [hy]; exact h
 · simp only [Op.operands, mem_singleton] at hy; rw [hy]; exact h
 · simp only [Bool.and_eq_true] at h; simp only [Op.operands, mem_cons, not_mem_nil, or_false] at hy; rcases hy with rfl | rfl | rfl
   · exact h.1
   · exact h.2.1
   · exact h.2.2
 · simp only [Op.operands, mem_singleton] at hy; rw [hy]; exact h
 · simp only [Bool.and_eq_true] at h; simp only [Op.operands, mem_singleton] at hy; rw [hy]; exact h.1
 · simp only [Bool.and_eq_true] at h; simp only [Op.operands, mem_cons, not_mem_nil, or_false] at hy; rcases hy with rfl | rfl
   · exact h.1
   · exact h.2.1
 · simp only [Bool.and_eq_true] at h; simp only [Op.operands, mem_cons, not_mem_nil, or_false] at hy; rcases hy with rfl | rfl
   · exact h.1
   · exact h.2
 · simp only [Op.operands, mem_singleton] at hy; rw [hy]; exact h
 · simp only [Op.operands, mem_singleton] at hy; rw [hy]; exact h
 · rename_i c
   simp only [Bool.and_eq_true, all_eq_true] at h; simp only [Op.operands, Call.operands, Array.toList_append, mem_append] at hy; rcases hy with hy | hy
   · cases hc : c.callee with
     | value f =>
       rw [hc] at h hy; simp only [mem_singleton] at hy; rw [hy]; exact h.2
     | builtin b => rw [hc] at hy; simp at hy
     | invoke x m => rw [hc] at h; exact absurd h.2 (by simp)
   · exact h.1 y hy
 · cases h
theorem a7n {x : AV} (h : a2v x = true) (k : Nat) (hk : 1000000 ≤ k) : E0 k x = x := a0P fun e => by
 simp only [a2v, e, decide_eq_true_eq] at h; omega
theorem a8M : ∀ (hs : List AV) (ks : List Nat) (b : Nat) (τ : St) (i : Nat), (∀ k ∈ ks, 1000000 ≤ k) → 1000000 ≤ b → i < 1000000 → (∀ k, 1000000 ≤ k → E0 k (τ i) = τ i) → C6 τ ks b hs i = τ i
 | [], ks, b, τ, i, _, _, _, _ => by cases ks <;> rfl
 | x :: xs, k :: ks, b, τ, i, hks, hb, hi, hk => by
   have hk1 := hks k (by simp); have e : put τ k x i = τ i := by simp only [put, if_neg (show ¬ i = k by omega)]; exact hk k hk1
   rw [C6, a8M xs ks b _ i (fun q hq => hks q (by simp [hq])) hb hi (by rw [e]; exact hk), e]
 | x :: xs, [], b, τ, i, hks, hb, hi, hk => by
   have e : put τ b x i = τ i := by simp only [put, if_neg (show ¬ i = b by omega)]; exact hk b hb
   rw [C6, a8M xs [] (b + 1) _ i (by simp) (by omega) hi (by rw [e]; exact hk), e]
theorem b2a : ∀ (ks : List Nat) (τ : St) (i : Nat), (∀ k ∈ ks, 1000000 ≤ k) → i < 1000000 → (∀ k, 1000000 ≤ k → E0 k (τ i) = τ i) → B9 τ ks i = τ i
 | [], _, _, _, _, _ => rfl
 | k :: ks, τ, i, hks, hi, hk => by
   have hk1 := hks k (by simp); have e : put τ k .undef i = τ i := by simp only [put, if_neg (show ¬ i = k by omega)]; exact hk k hk1
   rw [B9, b2a ks _ i (fun q hq => hks q (by simp [hq])) hi (by rw [e]; exact hk), e]
def a1w (σ : St) (ks : List Nat) (d : Nat) (r : AV) (b : Nat) (hs : List AV) : St := C6 (put (B9 σ ks) d r) ks b hs
theorem a7s {ks : List Nat} {r : AV} {b : Nat} {hs : List AV} (hks : ∀ k ∈ ks, 1000000 ≤ k) (hb : 1000000 ≤ b) {i : Nat} (hi : i < 1000000) (hid : i ≠ d) (hl : a2v (σ i) = true) (hr : H5 (σ i) ≠ some d) : a1w σ ks d r b hs i = σ i := by
 have h1 := b2a ks σ i hks hi (fun k hk => a7n hl k hk); have h2 : put (B9 σ ks) d r i = σ i := by simp only [put, if_neg hid, h1]; exact a0P hr
 unfold a1w; rw [a8M hs ks b _ i hks hb hi (by rw [h2]; exact fun k hk => a7n hl k hk), h2]
theorem a1f {di k : Nat} {x y : AV} (hne : di ≠ k) (hk : E0 k x = x) : put (B0 σ di x) k y = B0 (put σ k y) di x := by
 funext i
 simp only [put, B0]; by_cases h1 : i = k
 · subst h1; simp [show ¬ i = di from fun e => hne e.symm]
 · by_cases h2 : i = di
   · subst h2; simp [hne, hk]
   · simp [h1, h2]
theorem b1x {di : Nat} {x : AV} (hi : di < 1000000) (hk : ∀ k, 1000000 ≤ k → E0 k x = x) : ∀ (ks : List Nat) (τ : St), (∀ k ∈ ks, 1000000 ≤ k) → B9 (B0 τ di x) ks = B0 (B9 τ ks) di x
 | [], _, _ => rfl
 | k :: ks, τ, hks => by
   have hk1 := hks k (by simp); rw [B9, a1f (by omega) (hk k hk1), b1x hi hk ks _ (fun q hq => hks q (by simp [hq]))]; rfl
theorem a7W {di : Nat} {x : AV} (hi : di < 1000000) (hk : ∀ k, 1000000 ≤ k → E0 k x = x) : ∀ (hs : List AV) (ks : List Nat) (b : Nat) (τ : St), (∀ k ∈ ks, 1000000 ≤ k) → 1000000 ≤ b → C6 (B0 τ di x) ks b hs = B0 (C6 τ ks b hs) di x
 | [], ks, b, τ, _, _ => by cases ks <;> rfl
 | y :: ys, k :: ks, b, τ, hks, hb => by
   have hk1 := hks k (by simp); rw [C6, a1f (by omega) (hk k hk1), a7W hi hk ys ks b _ (fun q hq => hks q (by simp [hq])) hb]; rfl
 | y :: ys, [], b, τ, hks, hb => by
   rw [C6, a1f (by omega) (hk b hb), a7W hi hk ys [] (b + 1) _ (by simp) (by omega)]; rfl
theorem b9Q {di : Nat} {x : AV} {ks : List Nat} {r : AV} {b : Nat} {hs : List AV} (hks : ∀ k ∈ ks, 1000000 ≤ k) (hb : 1000000 ≤ b) (hi : di < 1000000) (hne : di ≠ d) (hl : a2v x = true) (hr : H5 x ≠ some d) : a1w (B0 σ di x) ks d r b hs = B0 (a1w σ ks d r b hs) di x := by
 unfold a1w; rw [b1x hi (fun k hk => a7n hl k hk) ks σ hks, a1f hne (a0P hr), a7W hi (fun k hk => a7n hl k hk) hs ks b _ hks hb]
theorem a3q {k : Nat} {x : AV} (hx : H8 ds x = true) (h : ∀ t, H8 ds (σ t) = true) : ∀ t, H8 ds (put σ k x t) = true := by
 have key : ∀ y : AV, H8 ds y = true → H8 ds (E0 k y) = true := fun y hy => by
   cases y with
   | bor j m e l => simp only [E0]; split
                    · cases m <;> rfl
                    · exact hy
   | adr j p => simp only [E0]; split
                · rfl
                · exact hy
   | eadr j i p => simp only [E0]; split
                   · rfl
                   · exact hy
   | sub j i => simp only [E0]; split
                · rfl
                · exact hy
   | _ => exact hy
 intro t; simp only [put]; split
 · exact key _ hx
 · exact key _ (h t)
theorem b3C : ∀ (ks : List Nat) {σ : St}, (∀ t, H8 ds (σ t) = true) → ∀ t, H8 ds (B9 σ ks t) = true
 | [], _, h => h
 | k :: ks, _, h => b3C ks (a3q rfl h)
theorem a8m : ∀ (hs : List AV) (ks : List Nat) (b : Nat) {σ : St}, (hs.all (H8 ds)) = true → (∀ t, H8 ds (σ t) = true) → ∀ t, H8 ds (C6 σ ks b hs t) = true
 | [], ks, b, _, _, h => by cases ks <;> exact h
 | x :: xs, k :: ks, b, _, hx, h => by
   simp only [all_cons, Bool.and_eq_true] at hx; exact a8m xs ks b hx.2 (a3q hx.1 h)
 | x :: xs, [], b, _, hx, h => by
   simp only [all_cons, Bool.and_eq_true] at hx; exact a8m xs [] (b + 1) hx.2 (a3q hx.1 h)
theorem INV.after {ks : List Nat} {r : AV} {b : Nat} {hs : List AV} (hI : INV ds σ) (h : (r :: hs).all (H8 ds) = true) : INV ds (a1w σ ks d r b hs) := by
 simp only [all_cons, Bool.and_eq_true] at h; exact ⟨a8m hs ks b h.2 (a3q h.1 (b3C ks hI.1)), hI.2⟩
theorem c2z {xs : List Operand} {ks : List Nat} {r : AV} {b : Nat} {hs : List AV} (hks : ∀ k ∈ ks, 1000000 ≤ k) (hb : 1000000 ≤ b) (hI : INV ds σ) (hd : d ∈ ds) (hc : ∀ x ∈ xs, P7 σ x = true) (hne : ∀ t, Operand.tmp t ∈ xs → t ≠ d) : a1E xs σ (a1w σ ks d r b hs) := by
 intro x hx; have hcx := hc x hx; refine ⟨fun t ht => ?_, fun j hj => ?_⟩
 · subst ht; simp only [P7, Bool.and_eq_true, decide_eq_true_eq] at hcx; exact (a7s hks hb hcx.1 (hne t hx) hcx.2.1 (fun e => N0 (hI.1 t) e hd)).symm
 · cases x with
   | tmp t =>
     simp only [P7, Bool.and_eq_true, decide_eq_true_eq, hj] at hcx; have hjd : j ≠ d := by
       rintro rfl; have h1 := hI.1 t; simp only [A0] at hj; cases hs' : σ t <;> rw [hs'] at hj h1 <;> simp only [rd, H5, Option.some.injEq] at hj
       case own => exact hne t hx hj
       case box => exact hne t hx hj
       case bor => subst hj; exact N0 h1 rfl hd
       case adr => subst hj; exact N0 h1 rfl hd
       case eadr => subst hj; exact N0 h1 rfl hd
       case sub => subst hj; exact N0 h1 rfl hd
       all_goals cases hj
     exact (a7s hks hb hcx.2.2.1 hjd hcx.2.2.2 (fun e => N0 (hI.1 j) e hd)).symm
   | const v =>
     simp only [A0] at hj; unfold a1G at hj; split at hj <;> simp [H5] at hj
   | func f => simp [A0, H5] at hj
   | global g => simp [A0, H5] at hj
def a2Q (F : Nat → Bool) (o : Oper) : Option (Nat × FuncId × List Operand) :=
 match o.dst, o.op with
 | some d, .call { callee := .value (.func g), args, argTypes := _ } => if F (d + 5000000) && !F (d + 2000000) && !F (d + 3000000) && !F (d + 4000000) then some (d, g, args.toList) else none
 | _, _ => none
def a6C (P : Program) (ds : List Nat) (g : FuncId) (args : List AV) (σ : St) (d : Nat) (K : St → Prop) : Prop :=
 ∃ ks b Post, (∀ k ∈ ks, 1000000 ≤ k) ∧ 1000000 ≤ b ∧ (∀ k ∈ ks, isH (σ k) = true) ∧ ks.Nodup ∧ F5 P g args (ks.map σ) Post ∧ ∀ r hs', Post r hs' → (r :: hs').all (H8 ds) = true ∧ K (a1w σ ks d r b hs')
def CV (P : Program) (F : Nat → Bool) (ops : Array Oper) (ds : List Nat) (o : Oper) (K : St → Prop) (σ : St) : Prop :=
 ∃ d g xs xa, a2Q F o = some (d, g, xs) ∧ d ∈ ds ∧ O5 ops o σ = some true ∧ L3 σ xs = some xa ∧ a6C P ds g xa σ d K
def DV (P : Program) (F : Nat → Bool) (ops : Array Oper) (ds : List Nat) (o : Oper) (d : Nat) (σ : St) (x : AV) : Prop :=
 YV P F ops ds o d σ x ∧ a2v x = true ∧ (O5 ops o σ = some true → V7 σ o.op = true)
def fOp (P : Program) (F : Nat → Bool) (ops : Array Oper) (ds : List Nat) (i : Nat) (K : St → Prop) (σ : St) : Prop :=
 match ops[i]? with
 | none => K σ
 | some o => (∃ d x, DV P F ops ds o d σ x ∧ K (B0 σ d x)) ∨ CV P F ops ds o K σ
theorem a6C.mono {g : FuncId} {args : List AV} {K K' : St → Prop} (h : ∀ σ, K σ → K' σ) (hh : a6C P ds g args σ d K) : a6C P ds g args σ d K' := by
 obtain ⟨ks, b, Post, h1, h2, h3, h4, h5, h6⟩ := hh; exact ⟨ks, b, Post, h1, h2, h3, h4, h5, fun r hs' hp => ⟨(h6 r hs' hp).1, h _ (h6 r hs' hp).2⟩⟩
theorem c4r {i : Nat} {K K' : St → Prop} (h : ∀ σ, K σ → K' σ) (hh : fOp P F ops ds i K σ) : fOp P F ops ds i K' σ := by
 unfold fOp at *; split at hh
 · exact h _ hh
 · rcases hh with ⟨d, x, h1, h2⟩ | ⟨d, g, xs, xa, h1, h2, h3, h4, h5⟩
   · exact .inl ⟨d, x, h1, h _ h2⟩
   · exact .inr ⟨d, g, xs, xa, h1, h2, h3, h4, h5.mono h⟩
theorem a5Z {g : FuncId} {xs : List Operand} (h : a2Q F o = some (d, g, xs)) : o.dst = some d ∧ ∃ args ts, o.op = .call { callee := .value (.func g), args, argTypes := ts } ∧ args.toList = xs ∧ F (d + 5000000) = true ∧ F (d + 2000000) = false ∧ F (d + 3000000) = false ∧ F (d + 4000000) = false := by
 unfold a2Q at h; split at h
 · rename_i d' g' args ts hd ho
   split at h
   · rename_i hc
     simp only [Option.some.injEq, Prod.mk.injEq] at h; obtain ⟨rfl, rfl, rfl⟩ := h; simp only [Bool.and_eq_true, Bool.not_eq_true'] at hc; exact ⟨hd, args, ts, ho, rfl, hc.1.1.1, hc.1.1.2, hc.1.2, hc.2⟩
   · cases h
 · cases h
theorem DV.back {x y : AV} {e : Nat} (hi : INV ds σ) (hd : d ∈ ds) (hk : d ∉ o.looksAt ops) (h : DV P F ops ds o e (B0 σ d x) y) : DV P F ops ds o e σ y := by
 obtain ⟨h1, h2, h3⟩ := h; refine ⟨h1.back hi hd hk, h2, fun hw => ?_⟩; rw [← a9a (a1b (x := x) hi hd hk).one]; exact h3 (by rw [a3a hk]; exact hw)
theorem DV.forth {x y : AV} {e : Nat} (hi : INV ds σ) (hd : d ∈ ds) (hk : d ∉ o.looksAt ops) (h : DV P F ops ds o e σ y) : DV P F ops ds o e (B0 σ d x) y := by
 obtain ⟨h1, h2, h3⟩ := h; refine ⟨h1.forth hi hd hk, h2, fun hw => ?_⟩; rw [a9a (a1b (x := x) hi hd hk).one]; exact h3 (by rw [a3a hk] at hw; exact hw)
theorem b0m {ks : List Nat} {r : AV} {b : Nat} {hs : List AV} {bb : Bool} (hall : ∀ o ∈ ops.toList, ∀ t, o.dst = some t → t ∈ ds) (hks : ∀ k ∈ ks, 1000000 ≤ k) (hb : 1000000 ≤ b) (hI : INV ds σ) (hk : d ∉ o.looksAt ops) (hw : O5 ops o σ = some bb) : O5 ops o (a1w σ ks d r b hs) = some bb := by
 unfold O5 at hw ⊢; cases hg : o.guard with
 | none => rw [hg] at hw; exact hw
 | some g =>
   obtain ⟨j, want⟩ := g; rw [hg] at hw; simp only at hw ⊢; cases ht : (ops[j]?).bind (·.dst) with
   | none => rw [ht] at hw; cases hw
   | some t =>
     rw [ht] at hw; simp only at hw ⊢; have htd : t ≠ d := by
       rintro rfl; exact hk (by simp [Oper.looksAt, hg, ht])
     have ht6 : t < 1000000 := by
       cases hoj : ops[j]? with
       | none => rw [hoj] at ht; cases ht
       | some oj =>
         rw [hoj] at ht; exact hI.2 t (hall oj (by rw [Array.mem_toList_iff]; exact Array.mem_of_getElem? hoj) t ht)
     have key : ∀ v, σ t = v → a2v v = true → H5 v ≠ some d → a1w σ ks d r b hs t = v := fun v hv h1 h2 => by
       subst hv; exact a7s hks hb ht6 htd h1 h2
     split at hw
     · rename_i c hc
       rw [key _ hc rfl (by simp [H5])]; exact hw
     · rename_i hc
       rw [key _ hc rfl (by simp [H5])]; exact hw
     · cases hw
theorem DV.after {ks : List Nat} {r y : AV} {b e : Nat} {hs : List AV} (hall : ∀ o ∈ ops.toList, ∀ t, o.dst = some t → t ∈ ds) (hks : ∀ k ∈ ks, 1000000 ≤ k) (hb : 1000000 ≤ b) (hI : INV ds σ) (hd : d ∈ ds) (hk : d ∉ o.looksAt ops) (h : DV P F ops ds o e σ y) : DV P F ops ds o e (a1w σ ks d r b hs) y := by
 obtain ⟨⟨h1, h2, h3, h4⟩, h5, h6⟩ := h; have hne : ∀ t, Operand.tmp t ∈ o.op.operands.toList → t ≠ d := fun t ht => by
   rintro rfl; exact hk (by simp only [Oper.looksAt, mem_append, mem_filterMap]; exact .inl ⟨_, ht, rfl⟩)
 rcases h4 with ⟨hw, hp⟩ | ⟨hw, hy⟩
 · have hA := c2z (r := r) (hs := hs) hks hb hI hd (c4B (h6 hw)) hne; exact ⟨⟨h1, h2, h3, .inl ⟨b0m hall hks hb hI hk hw, b9Y hA (h6 hw) hp⟩⟩, h5, fun _ => by rw [← a9a hA]; exact h6 hw⟩
 · have hw' := b0m (r := r) (hs := hs) hall hks hb hI hk hw; exact ⟨⟨h1, h2, h3, .inr ⟨hw', hy⟩⟩, h5, fun q => by rw [hw'] at q; cases q⟩
theorem c6j {j di : Nat} {oi oj : Oper} {x : AV} (hall : ∀ o ∈ ops.toList, ∀ t, o.dst = some t → t ∈ ds) (hj : ops[j]? = some oj) (hap : oi.apart ops oj = true) (hi : INV ds σ) (hy : DV P F ops ds oi di σ x) {K : St → Prop} (h : fOp P F ops ds j K (B0 σ di x)) :
   fOp P F ops ds j (fun σ' => INV ds σ' ∧ DV P F ops ds oi di σ' x ∧ K (B0 σ' di x)) σ := by
 obtain ⟨h1, h2, h3⟩ := Oper.apart_spec hap; have hdi := hy.1.2.1; have hk := h1 di hy.1.1; unfold fOp at *; simp only [hj] at *; rcases h with ⟨dj, u, hu, hK⟩ | ⟨dj, g, xs, xa, g1, g2, g3, g4, ks, b, Post, g5, g6, g7, g8, g9, g10⟩
 · refine .inl ⟨dj, u, hu.back hi hdi hk, hi.setv hu.1.2.2.1, hy.forth hi hu.1.2.1 (h3 dj hu.1.1), ?_⟩; rw [← a0O (fun e => h2 di hy.1.1 (by rw [hu.1.1, e]))]; exact hK
 · obtain ⟨q1, args, ts, q2, q3, q4⟩ := a5Z g1; have hdi6 := hi.2 di hdi; have hmem : ∀ z ∈ xs, z ∈ oj.op.operands.toList := fun z hz => by
     rw [q2]; simp only [Op.operands, Call.operands, Array.toList_append, mem_append]; exact .inr (by rw [q3]; exact hz)
   have hA := (a1b (x := x) hi hdi hk).one; have hks : ∀ k ∈ ks, B0 σ di x k = σ k := fun k hk' => by
     have := g5 k hk'; simp only [B0, if_neg (show ¬ k = di by omega)]
   have hne : di ≠ dj := fun e => h2 di hy.1.1 (by rw [q1, e])
   refine .inr ⟨dj, g, xs, xa, g1, g2, by rw [a3a hk] at g3; exact g3, by rw [← hA.plain hmem]; exact g4, ks, b, Post, g5, g6, fun k hk' => by rw [← hks k hk']; exact g7 k hk', g8, ?_, fun r hs' hp => ?_⟩
   · rw [← map_congr_left hks]; exact g9
   · obtain ⟨p1, p2⟩ := g10 r hs' hp; refine ⟨p1, hi.after p1, hy.after hall g5 g6 hi g2 (h3 dj q1), ?_⟩; rw [← b9Q g5 g6 hdi6 hne hy.2.1 (fun e => N0 hy.1.2.2.1 e g2)]; exact p2
def b2H (P : Program) (F : Nat → Bool) (ops : Array Oper) (ds : List Nat) (K : St → Prop) : Nat → Array Bool → St → Prop
 | 0, listed, σ => Region.ready .any ops listed = [] ∧ K σ
 | f + 1, listed, σ => Region.ready .any ops listed ≠ [] ∧ ∀ i ∈ Region.ready .any ops listed, fOp P F ops ds i (b2H P F ops ds K f (listed.setIfInBounds i true)) σ
theorem b8X {i di : Nat} {oi : Oper} {x : AV} (hall : ∀ o ∈ ops.toList, ∀ t, o.dst = some t → t ∈ ds) (hi : ops[i]? = some oi) :
   ∀ (f : Nat) (listed : Array Bool) (σ : St),
     (∀ j oj, ops[j]? = some oj → j ≠ i → listed.getD j true = false → (∀ e ∈ oj.after, Region.binds .any e = true → e.on ≠ i) → oi.apart ops oj = true) →
     i ∈ Region.ready .any ops listed → INV ds σ → DV P F ops ds oi di σ x →
     b2H P F ops ds K f (listed.setIfInBounds i true) (B0 σ di x) → b2H P F ops ds K (f + 1) listed σ := by
 intro f
 induction f with
 | zero =>
   intro listed σ _ hr hI hy H; refine ⟨fun h => (by rw [h] at hr; cases hr), fun j hj => ?_⟩; by_cases hji : j = i
   · subst hji; unfold fOp; simp only [hi]; exact .inl ⟨di, x, hy, H⟩
   · have := ready_mono hj hji; rw [H.1] at this; cases this
 | succ f ih =>
   intro listed σ hfree hr hI hy H; have hun := (mem_ready.1 hr).1; refine ⟨fun h => (by rw [h] at hr; cases hr), fun j hj => ?_⟩; by_cases hji : j = i
   · subst hji; unfold fOp; simp only [hi]; exact .inl ⟨di, x, hy, H⟩
   · have h1 := H.2 j (ready_mono hj hji); obtain ⟨hjun, oj, hoj, hall'⟩ := mem_ready.1 hj; have hnot : ∀ e ∈ oj.after, Region.binds .any e = true → e.on ≠ i := fun e he hb heq => by
       have h1 := hall' e he hb; rw [heq, getD_both hun] at h1; cases h1
     have h2 := c6j hall hoj (hfree j oj hoj hji hjun hnot) hI hy h1; have hfree' : ∀ k ok, ops[k]? = some ok → k ≠ i → (listed.setIfInBounds j true).getD k true = false →
         (∀ e ∈ ok.after, Region.binds .any e = true → e.on ≠ i) → oi.apart ops ok = true := fun k ok hk hki hun hno => by
       refine hfree k ok hk hki ?_ hno; by_cases hjk : j = k
       · subst hjk; exact hjun
       · rw [getD_set_ne true hjk] at hun; exact hun
     refine c4r (fun a' h3 => ih (listed.setIfInBounds j true) a' hfree' (ready_mono hr (Ne.symm hji)) h3.1 h3.2.1 ?_) h2; rw [Array.setIfInBounds_comm _ _ hji]; exact h3.2.2
def b2X (P : Program) (F : Nat → Bool) (ds : List Nat) (o : Oper) (d : Nat) (K : St → Prop) (σ : St) : Prop :=
 match a2Q F o with
 | some (_, g, xs) => A8 (L3 σ xs) fun xa => a6C P ds g xa σ d K
 | none => V7 σ o.op = true ∧ D3 P F o.op d σ fun x => (a2v x = true ∧ H8 ds x = true) ∧ K (B0 σ d x)
def Y2 (P : Program) (F : Nat → Bool) (ops : Array Oper) (ds : List Nat) : List Oper → (St → Prop) → St → Prop
 | [], K, σ => K σ
 | o :: rest, K, σ => A8 o.dst fun d => match o.guard with
   | none => b2X P F ds o d (Y2 P F ops ds rest K) σ
   | some (j, want) => A8 ((ops[j]?).bind (·.dst)) fun t => (match σ t with
     | .d (.bool b) => (b = want → b2X P F ds o d (Y2 P F ops ds rest K) σ) ∧ (b ≠ want → Y2 P F ops ds rest K (B0 σ d (.tup [])))
     | .tup [] => Y2 P F ops ds rest K (B0 σ d (.tup []))
     | _ => False)
theorem b4l {K : St → Prop} (hd : o.dst = some d) (hds : d ∈ ds) (hw : O5 ops o σ = some true) (h : b2X P F ds o d K σ) : (∃ x, DV P F ops ds o d σ x ∧ K (B0 σ d x)) ∨ CV P F ops ds o K σ := by
 unfold b2X at h; split at h
 · rename_i d' g xs hn
   obtain ⟨xa, h1, h2⟩ := A4 h; obtain ⟨q1, _⟩ := a5Z hn; obtain rfl : d = d' := Option.some.inj (hd.symm.trans q1); exact .inr ⟨d, g, xs, xa, hn, hds, hw, h1, h2⟩
 · obtain ⟨h1, h2⟩ := h; obtain ⟨x, h3, ⟨h4, h5⟩, h6⟩ := a0N h2; exact .inl ⟨x, ⟨⟨hd, hds, h5, .inl ⟨hw, h3⟩⟩, h4, fun _ => h1⟩, h6⟩
theorem c1j {rest : List Oper} (hds : ∀ d, o.dst = some d → d ∈ ds) (h : Y2 P F ops ds (o :: rest) K σ) :
   (∃ d x, DV P F ops ds o d σ x ∧ Y2 P F ops ds rest K (B0 σ d x)) ∨ CV P F ops ds o (Y2 P F ops ds rest K) σ := by
 simp only [Y2] at h; obtain ⟨d, hd, h⟩ := A4 h; cases hg : o.guard with
 | none =>
   rw [hg] at h; rcases b4l (ops := ops) hd (hds d hd) (by simp [O5, hg]) h with ⟨x, h1, h2⟩ | h1
   · exact .inl ⟨d, x, h1, h2⟩
   · exact .inr h1
 | some g =>
   obtain ⟨j, want⟩ := g; rw [hg] at h; obtain ⟨t, ht, h⟩ := A4 h; split at h
   · rename_i b hb
     by_cases hbw : b = want
     · rcases b4l (ops := ops) hd (hds d hd) (by simp [O5, hg, ht, hb, hbw]) (h.1 hbw) with ⟨x, h1, h2⟩ | h1
       · exact .inl ⟨d, x, h1, h2⟩
       · exact .inr h1
     · have hw : O5 ops o σ = some false := (by simp [O5, hg, ht, hb, hbw]); exact .inl ⟨d, .tup [], ⟨⟨hd, hds d hd, rfl, .inr ⟨hw, rfl⟩⟩, rfl, fun q => by rw [hw] at q; cases q⟩, h.2 hbw⟩
   · rename_i hb
     have hw : O5 ops o σ = some false := (by simp [O5, hg, ht, hb]); exact .inl ⟨d, .tup [], ⟨⟨hd, hds d hd, rfl, .inr ⟨hw, rfl⟩⟩, rfl, fun q => by rw [hw] at q; cases q⟩, h⟩
   · exact h.elim
def b2Q (F : Nat → Bool) (ops : Array Oper) : List Nat → Array Bool → Bool
 | [], listed => (Region.ready .any ops listed).isEmpty
 | i :: l, listed => (match ops[i]? with
   | some o => (Region.ready .any ops listed).contains i && (if (a2Q F o).isSome = true then (Region.ready .any ops listed).all (fun j => j == i) else Region.free .any ops listed i)
   | none => false) && b2Q F ops l (listed.setIfInBounds i true)
theorem b1i (hall : ∀ o ∈ ops.toList, ∀ t, o.dst = some t → t ∈ ds) : ∀ (l : List Nat) (listed : Array Bool) (σ : St), b2Q F ops l listed = true → INV ds σ → Y2 P F ops ds (l.filterMap fun i => ops[i]?) K σ → b2H P F ops ds K l.length listed σ
 | [], listed, σ, hB, _, h => ⟨by simpa [b2Q] using hB, h⟩
 | i :: l, listed, σ, hB, hI, h => by
   simp only [b2Q, Bool.and_eq_true] at hB; obtain ⟨hB1, hB2⟩ := hB; cases ho : ops[i]? with
   | none => rw [ho] at hB1; cases hB1
   | some o =>
     rw [ho] at hB1; simp only [Bool.and_eq_true] at hB1; obtain ⟨hr, hc⟩ := hB1; have hr' : i ∈ Region.ready .any ops listed := (by simpa using hr); have hmem : o ∈ ops.toList := by rw [Array.mem_toList_iff]; exact Array.mem_of_getElem? ho
     rw [filterMap_cons, ho] at h; simp only at h; rcases c1j (hall o hmem) h with ⟨d, x, hD, hK⟩ | hC
     · have ih := b1i hall l (listed.setIfInBounds i true) _ hB2 (hI.setv hD.1.2.2.1) hK; by_cases hn : (a2Q F o).isSome = true
       · rw [if_pos hn] at hc; refine ⟨fun e => (by rw [e] at hr'; cases hr'), fun j hj => ?_⟩; have : j = i := by simpa using all_eq_true.1 hc j hj
         subst this; unfold fOp; simp only [ho]; exact .inl ⟨d, x, hD, ih⟩
       · rw [if_neg hn] at hc; exact b8X hall ho l.length listed σ (Region.free_spec ho hc) hr' hI hD ih
     · have hn : (a2Q F o).isSome = true := by obtain ⟨d, g, xs, xa, q, _⟩ := hC; rw [q]; rfl
       rw [if_pos hn] at hc; refine ⟨fun e => (by rw [e] at hr'; cases hr'), fun j hj => ?_⟩; have : j = i := by simpa using all_eq_true.1 hc j hj
       subst this; unfold fOp; simp only [ho]; obtain ⟨d, g, xs, xa, q1, q2, q3, q4, ks, b, Post, q5, q6, q7, q8, q9, q10⟩ := hC; exact .inr ⟨d, g, xs, xa, q1, q2, q3, q4, ks, b, Post, q5, q6, q7, q8, q9, fun r hs' hp => ⟨(q10 r hs' hp).1, b1i hall l _ _ hB2 (hI.after (q10 r hs' hp).1) (q10 r hs' hp).2⟩⟩
theorem a4O {k : Nat} (hdst : ∀ o ∈ ops.toList, ∀ d, o.dst = some d → d < k) (hQ : ∀ a w, B6 P w0 L0 row k K a w → Q .normal a w) :
   ∀ (f : Nat) (listed : Array Bool) (a : Act) (w : World), B6 P w0 L0 row k (fun σ => INV ds σ ∧ b2H P F ops ds K f listed σ) a w → wpAny P .any ops Q f listed a w
 | 0, listed, a, w, h => by
   obtain ⟨L, O, σ, hR, hdef, hsz, hI, hr, hK⟩ := h; exact ⟨hr, hQ a w ⟨L, O, σ, hR, hdef, hsz, hK⟩⟩
 | f + 1, listed, a, w, h => by
   obtain ⟨L, O, σ, hR, hdef, hsz, hI, hne, hal⟩ := h; refine ⟨fun h0 => absurd h0 hne, fun i hi => ?_⟩; have hop := hal i hi; unfold fOp at hop; unfold wpOp; split at hop
   · rename_i hoi
     simp only [hoi]; exact a4O hdst hQ f _ a w ⟨L, O, σ, hR, hdef, hsz, hI, hop⟩
   · rename_i o hoi
     simp only [hoi]; have hmem : o ∈ ops.toList := by rw [Array.mem_toList_iff]; exact Array.mem_of_getElem? hoi
     have hlt := hdst o hmem; rcases hop with ⟨d, x, ⟨⟨h1, h2, h3, h4⟩, _, _⟩, hK⟩ | ⟨d, g, xs, xa, q1, q2, q3, q4, ks, b, Post, q5, q6, q7, q8, q9, q10⟩
     · rcases h4 with ⟨hw, hp⟩ | ⟨hw, rfl⟩
       · rw [if_pos (a3Y hR hw)]; refine .inl (Oper.wp_mono ?_ (a3n (K := fun τ => τ = put σ d x) h1 (hlt d h1) hsz hdef hR (a0h hp fun y hy => by rw [hy]))); rintro a' w' ⟨L1, O1, σ1, hR1, hd1, hs1, rfl⟩; rw [R5 hI h2 h3] at hR1; exact a4O hdst hQ f _ a' w' ⟨L1, O1, _, hR1, hd1, hs1, hI.setv h3, hK⟩
       · rw [if_neg (by rw [a3Y hR hw]; simp)]; have hg := a3p (K := fun τ => τ = put σ d (.tup [])) hR hlt hsz hdef (by rw [h1]; rfl); obtain ⟨L1, O1, σ1, hR1, hd1, hs1, rfl⟩ := hg; rw [R5 hI h2 h3] at hR1; exact a4O hdst hQ f _ _ w ⟨L1, O1, _, hR1, hd1, hs1, hI.setv h3, hK⟩
     · rw [if_pos (a3Y hR q3)]; obtain ⟨e1, args, ts, e2, e3, e4, e5, e6, e7⟩ := a5Z q1; refine .inl (Oper.wp_mono (K := B6 P w0 L0 row k (fun τ => INV ds τ ∧ b2H P F ops ds K f (listed.setIfInBounds i true) τ)) (fun a' w' hg => a4O hdst hQ f _ a' w' hg) ?_); refine a4N (F := F) hlt hsz hdef hR ?_; have hcl : A0 σ (.func g) = .d (.clo g []) := rfl; simp only [vop, e1, M2, e2, a4w, hcl, e3, q4, e4, e5, e6, e7, A8, if_true, all_nil, map_nil, append_nil, Bool.false_eq_true, if_false, true_and]; exact ⟨ks, b, Post, q7, q8, q9, fun r hs' hp => ⟨hI.after (q10 r hs' hp).1, (q10 r hs' hp).2⟩⟩
theorem c6V {id kk : Nat} {l : List Nat} (hm : P.follows .mixedOrders = true) (hB : b2Q F ops l (Array.replicate ops.size false) = true) (hlen : l.length = ops.size) (hdst : ∀ o ∈ ops.toList, ∀ d, o.dst = some d → d < kk) (h6 : ∀ d ∈ M5 ops.toList, d < 1000000)
   (h : B6 P w0 L0 row kk (fun σ => Y2 P F ops (M5 ops.toList) (l.filterMap fun i => ops[i]?) K (I3 (M5 ops.toList) σ)) a w) (hQ : ∀ a w, B6 P w0 L0 row kk K a w → Q .normal a w) : (Code.region id ops true).wp P Q a w := by
 obtain ⟨L, O, σ, hR, hdef, hsz, h⟩ := h; refine wp_region_any hm ?_; have hI := a3Q (σ := σ) h6; have hall : ∀ o ∈ ops.toList, ∀ t, o.dst = some t → t ∈ M5 ops.toList := fun o ho t ht => mem_filterMap.2 ⟨o, ho, ht⟩
 have := a4O (P := P) (F := F) (ds := M5 ops.toList) (K := K) (Q := Q) (w0 := w0) (L0 := L0) (row := row) hdst hQ l.length (Array.replicate ops.size false) a { w with drawn := w.drawn + 1 } ⟨L, O, _, hR.drew.clean _, hdef, hsz, hI, b1i hall l _ _ hB hI h⟩; rw [hlen] at this; exact this
def a2b (xs : List Operand) (σ σ' : St) : Prop := (∀ x ∈ xs, (∀ t, x = .tmp t → σ t = σ' t) ∧ ∀ j, H5 (A0 σ x) = some j → σ j = σ' j) ∧ ∀ j, 1000000 ≤ j → σ j ≠ .undef → σ j = σ' j
theorem a2b.one {xs : List Operand} (h : a2b xs σ σ') : a1E xs σ σ' := h.1
theorem a2b.aval {xs : List Operand} (h : a2b xs σ σ') {x : Operand} (hx : x ∈ xs) : Vw.A0 σ x = Vw.A0 σ' x := h.one.aval hx
theorem a2b.deref {xs : List Operand} (h : a2b xs σ σ') {x : Operand} (hx : x ∈ xs) : Vw.W1 σ (Vw.A0 σ x) = Vw.W1 σ' (Vw.A0 σ' x) := h.one.deref hx
theorem a2b.bnd {xs : List Operand} (h : a2b xs σ σ') {x : Option Operand} (hx : ∀ y, x = some y → y ∈ xs) (k : Nat) : Vw.bnd σ x k = Vw.bnd σ' x k := by
 cases x with
 | none => rfl
 | some y => simp only [Vw.bnd, h.aval (hx y rfl)]
theorem a2b.parts {xs : List Operand} (h : a2b xs σ σ') : ∀ {ps : List (Nat × Operand)}, (∀ p ∈ ps, p.2 ∈ xs) → O7 σ ps = O7 σ' ps
 | [], _ => rfl
 | (i, x) :: ps, hp => by
   simp only [O7, h.aval (hp (i, x) (by simp)), h.parts (ps := ps) (fun p hq => hp p (mem_cons_of_mem _ hq))]
theorem a2b.args {xs : List Operand} (h : a2b xs σ σ') {ys : List Operand} (hy : ∀ y ∈ ys, y ∈ xs) : Y3 σ ys = Y3 σ' ys ∧ N4 σ ys = N4 σ' ys := h.one.args hy
theorem a2b.lends {xs : List Operand} (h : a2b xs σ σ') {ys : List Operand} (hy : ∀ y ∈ ys, y ∈ xs) : X4 σ ys = X4 σ' ys := h.one.lends hy
theorem c2x {op : Op} {C : AV → Prop} (ha : a2b op.operands.toList σ σ') (h : D3 P F op d σ C) : D3 P F op d σ' C := by
 unfold D3 at h ⊢; split at h
 · rename_i x
   have hx := ha.aval (x := x) (by simp [Op.operands]); unfold X9 at h ⊢; split at h
   · rename_i t
     have ht := (ha.1 (.tmp t) (by simp [Op.operands])).1 t rfl; rw [← ht, ← hx]; exact h
   · exact h.elim
   · rw [← hx]; exact h
 · rename_i x
   have hx := ha.aval (x := x) (by simp [Op.operands]); unfold X9 at h ⊢; split at h
   · rename_i t
     have ht := (ha.1 (.tmp t) (by simp [Op.operands])).1 t rfl; rw [← ht, ← hx]; exact h
   · exact h.elim
   · rw [← hx]; exact h
 · rename_i c x y
   rw [← ha.aval (x := c) (by simp [Op.operands]), ← ha.aval (x := x) (by simp [Op.operands]), ← ha.aval (x := y) (by simp [Op.operands])]; exact h
 · rename_i t x
   have hx : X6 P σ x = X6 P σ' x := by
     have h1 := ha.deref (x := x) (by simp [Op.operands]); cases x with
     | global g => rfl
     | _ => exact h1
   rw [← hx]; exact h
 · rename_i x
   have h1 := ha.deref (x := x) (by simp [Op.operands]); have h2 := ha.aval (x := x) (by simp [Op.operands]); have h3 : a1Z σ (Vw.A0 σ x) = a1Z σ' (Vw.A0 σ' x) := by
     rw [← h2] at h1 ⊢; unfold a1Z; split
     · rfl
     · rw [h1]
   rw [← h2] at h3 ⊢; rw [← h3]; exact h
 · rename_i t ps
   rw [← ha.parts (ps := ps.toList) (fun p hp => by simp only [Op.operands, mem_map]; exact ⟨p, hp, rfl⟩)]; exact h
 · rename_i t len ps
   rw [← ha.parts (ps := ps.toList) (fun p hp => by simp only [Op.operands, mem_map]; exact ⟨p, hp, rfl⟩)]; exact h
 · rename_i s x f
   have hx := ha.aval (x := x) (by simp [Op.operands]); have hr := (ha.1 x (by simp [Op.operands])).2; unfold T3 at h ⊢; rw [← hx]; split at h
   · exact h
   · obtain ⟨j, e1, ds, h0, h1, h2⟩ := h; exact ⟨j, e1, ds, h0, by rw [← ha.2 j h0 (by rw [h1]; simp)]; exact h1, h2⟩
   · rename_i j p hv; rw [hv] at hr; simp only [← hr j rfl]; exact h
   · rename_i j i p hv; rw [hv] at hr; simp only [← hr j rfl]; exact h
   · exact h.elim
 · rename_i t x i
   have hx := ha.aval (x := x) (by simp [Op.operands]); have hi := ha.aval (x := i) (by simp [Op.operands]); unfold T4 at h ⊢; rw [← hx, ← hi]; refine F7 h fun e h => ?_
   split at h
   · obtain ⟨h0, h⟩ := h; refine ⟨h0, ?_⟩; split at h
     · exact h
     · obtain ⟨j, e', l, h1, h2, h3⟩ := h; exact ⟨j, e', l, h1, by rw [← ha.2 j h1 (by rw [h2]; simp)]; exact h2, h3⟩
     · rename_i j lo hv
       have hr := (ha.1 x (by simp [Op.operands])).2; rw [hv] at hr; simp only [← hr j rfl]; exact h
     · exact h
   · exact h.elim
 · rename_i t x i
   rw [← ha.aval (x := x) (by simp [Op.operands]), ← ha.aval (x := i) (by simp [Op.operands])]; exact h
 · rename_i t x lo hi
   have hx := ha.aval (x := x) (by simp [Op.operands]); have hl := fun k => ha.bnd (x := lo) (fun y hy => by subst hy; simp [Op.operands]) k
   have hh := fun k => ha.bnd (x := hi) (fun y hy => by subst hy; simp [Op.operands]) k
   unfold a2f at h ⊢; simp only [← hx, ← hl, ← hh]; exact h
 · rename_i op t x y t'
   rw [← ha.aval (x := x) (by simp [Op.operands]), ← ha.aval (x := y) (by simp [Op.operands])]; exact h
 · rename_i t x
   rw [← ha.aval (x := x) (by simp [Op.operands])]; exact h
 · rename_i s t x
   unfold a0v at h ⊢; rw [← ha.aval (x := x) (by simp [Op.operands])]; exact h
 · rename_i x i
   unfold Y8 at h ⊢; split at h
   · rename_i t
     have ht := (ha.1 (.tmp t) (by simp [Op.operands])).1 t rfl; rw [← ht]; exact h
   · exact h.elim
 · rename_i c
   unfold a3d at h ⊢; split at h
   · rename_i x t hc hx ht
     rw [← ha.aval (x := x) (by simp [Op.operands, Call.operands, hx])]; split at h
     · exact h
     · exact h
     · split at h
       · obtain ⟨j, kt, vt, kt', m, E, g0, g1, g2, h⟩ := h; exact ⟨j, kt, vt, kt', m, E, g0, g1, by rw [← ha.2 j g0 (by rw [g2]; simp)]; exact g2, h⟩
       · exact h
       · exact h.elim
     · exact h.elim
   · rename_i x y t t' hc hx ht
     rw [← ha.aval (x := x) (by simp [Op.operands, Call.operands, hx]), ← ha.aval (x := y) (by simp [Op.operands, Call.operands, hx])]; exact h
   · rename_i f hc
     have hf := ha.aval (x := f) (by simp [Op.operands, Call.operands, hc]); have hxs := ha.args (ys := c.args.toList) (fun y hy => by simp only [Op.operands, Call.operands, Array.toList_append, mem_append]; exact .inr hy); have hls := ha.lends (ys := c.args.toList) (fun y hy => by simp only [Op.operands, Call.operands, Array.toList_append, mem_append]; exact .inr hy); rw [← hf, ← hxs.1, ← hxs.2, ← hls]; exact h
   · exact h.elim
 · rename_i t x i c
   rw [← ha.aval (x := x) (by simp [Op.operands]), ← ha.aval (x := i) (by simp [Op.operands])]; split at h
   · refine F7 h fun k h => h.imp (fun ⟨j, kt, vt, z, m, E, g0, g1, g2, h⟩ => ⟨j, kt, vt, z, m, E, g0, g1, by rw [← ha.2 j g0 (by rw [g2]; simp)]; exact g2, h⟩) id
   · exact h
   · exact h.elim
 · exact h.elim
def b0F (F : Nat → Bool) (o : Oper) : Bool := match o.dst, o.op with
 | some _, .makeMap _ none => true
 | some d, .box _ _ => F (d + 1000000)
 | _, _ => false
def a4d (F : Nat → Bool) (op : Op) (d : Nat) (σ : St) (X U : Nat → AV) : Prop :=
 match op with
 | .makeMap _ none => ∃ kt, X = (fun g => .hm (.map (some g)) kt [] none) ∧ U = fun g => .d (.raw (.map (some g)))
 | .box t x => F (d + 1000000) = true ∧ ∃ y, asD (A0 σ x) = some y ∧ X = (fun g => .hb (.pointer (some ⟨g, 0, none⟩)) t y) ∧ U = fun g => .d (.raw (.pointer (some ⟨g, 0, none⟩)))
 | _ => False
theorem a4d.flat {op : Op} {X U : Nat → AV} (h : a4d F op d σ X U) (g : Nat) : H5 (X g) = none ∧ H5 (U g) = none := by
 unfold a4d at h; split at h
 · obtain ⟨kt, rfl, rfl⟩ := h; exact ⟨rfl, rfl⟩
 · obtain ⟨_, y, _, rfl, rfl⟩ := h; exact ⟨rfl, rfl⟩
 · exact h.elim
theorem a4d.vopd {op : Op} {ty : TypeId} {X U : Nat → AV} {j : Nat} (h : a4d F op d σ X U) (hj : σ j = .undef) (hk : ∀ g, K (put (put σ j (X g)) d (U g))) : M2 P F op ty d K σ := by
 unfold a4d at h; split at h
 · obtain ⟨kt, rfl, rfl⟩ := h; exact ⟨kt, j, hj, hk⟩
 · obtain ⟨hF, y, hy, rfl, rfl⟩ := h; simp only [Vw.M2, hF, if_true, hy, A8]; exact ⟨j, hj, hk⟩
 · exact h.elim
theorem a4d.agr {op : Op} {X U : Nat → AV} (ha : a1E op.operands.toList σ σ') (h : a4d F op d σ X U) : a4d F op d σ' X U := by
 unfold a4d at h ⊢; split at h
 · exact h
 · rename_i t x
   rw [← ha.aval (x := x) (by simp [Op.operands])]; exact h
 · exact h.elim
def a6e (σ : St) : Prop := ∀ t j, H5 (σ t) = some j → σ j ≠ .undef
def a3J (σ : St) (x : AV) : Prop := ∀ j, H5 x = some j → σ j ≠ .undef
theorem a6e.setv {x : AV} (hi : INV ds σ) (hn : a6e σ) (hd : d ∈ ds) (hx : H8 ds x = true) (hl : a3J σ x) : a6e (B0 σ d x) := by
 intro t j hj; have key : j ∉ ds → σ j ≠ .undef → Vw.B0 σ d x j ≠ .undef := fun h1 h2 => by
   have : ¬ j = d := fun e => h1 (e ▸ hd)
   simp only [Vw.B0, if_neg this]; exact h2
 simp only [Vw.B0] at hj; split at hj
 · exact key (N0 hx hj) (hl j hj)
 · exact key (N0 (hi.1 t) hj) (hn t j hj)
theorem b7y {j : Nat} {x : AV} (hn : a6e σ) (hj : σ j = .undef) (hx : H5 x = none) (i : Nat) : put σ j x i = if i = j then x else σ i := by
 simp only [put]; split
 · exact a0P (by rw [hx]; simp)
 · exact a0P fun e => hn i j e hj
def mkS (σ : St) (j d : Nat) (x u : AV) : St := B0 (put σ j x) d u
theorem a6m {j : Nat} {x u : AV} (hn : a6e σ) (hj : σ j = .undef) (hx : H5 x = none) {i : Nat} (h1 : i ≠ j) (h2 : i ≠ d) : mkS σ j d x u i = σ i := by
 simp only [mkS, B0, if_neg h2, b7y hn hj hx, if_neg h1]
theorem b3f {j : Nat} {x u : AV} (hi : INV ds σ) (hx : H5 x = none) (hu : H5 u = none) : INV ds (mkS σ j d x u) := by
 have h1 : H8 ds x = true := (by simp [H8, hx]); have h2 : H8 ds u = true := (by simp [H8, hu]); exact INV.setv ⟨a3q h1 hi.1, hi.2⟩ h2
theorem b0K {j : Nat} {x u : AV} (hi : INV ds σ) (hn : a6e σ) (hd : d ∈ ds) (hj6 : 1000000 ≤ j) (hj : σ j = .undef) (hx : H5 x = none) (hu : H5 u = none) : a6e (mkS σ j d x u) := by
 intro t k hk; have hdj : ¬ j = d := fun e => by have := hi.2 d hd; omega
 by_cases ht : t = d
 · subst ht; simp [mkS, B0, hu] at hk
 · by_cases htj : t = j
   · subst htj; simp only [mkS, B0, if_neg ht, b7y hn hj hx, if_true] at hk; rw [hx] at hk; cases hk
   · rw [a6m hn hj hx htj ht] at hk; have h1 := hn t k hk; have h2 : k ≠ j := fun e => h1 (e ▸ hj)
     have h3 : k ≠ d := fun e => N0 (hi.1 t) hk (e ▸ hd)
     rw [a6m hn hj hx h2 h3]; exact h1
theorem c6W {j : Nat} {x u : AV} (hi : INV ds σ) (hn : a6e σ) (hd : d ∈ ds) (hj : σ j = .undef) (hx : H5 x = none) (hk : d ∉ o.looksAt ops) (hlow : ∀ t, Operand.tmp t ∈ o.op.operands.toList → t ≠ j) : a2b o.op.operands.toList σ (mkS σ j d x u) := by
 refine ⟨fun y hy => ?_, fun k hk6 hku => ?_⟩
 · have hne : ∀ t, y = .tmp t → t ≠ d := by
     rintro t rfl rfl; exact hk (by simp only [Oper.looksAt, mem_append, mem_filterMap]; exact .inl ⟨_, hy, rfl⟩)
   refine ⟨fun t ht => ?_, fun k hk' => ?_⟩
   · subst ht; have h1 : t ≠ j := hlow t hy; exact (a6m hn hj hx h1 (hne t rfl)).symm
   · cases y with
     | tmp t =>
       have htd := hne t rfl; have htj : t ≠ j := hlow t hy; have h1 := hi.1 t; have h2 := hn t k; simp only [A0] at hk'; have key : k ≠ j → k ≠ d → σ k = mkS σ j d x u k := fun q1 q2 => (a6m hn hj hx q1 q2).symm
       cases hs : σ t <;> rw [hs] at hk' h1 h2 <;> simp only [rd, H5, Option.some.injEq] at hk'
       case own => subst hk'; exact key htj htd
       case box => subst hk'; exact key htj htd
       case bor => subst hk'; exact key (fun e => h2 rfl (e ▸ hj)) (fun e => N0 h1 rfl (e ▸ hd))
       case adr => subst hk'; exact key (fun e => h2 rfl (e ▸ hj)) (fun e => N0 h1 rfl (e ▸ hd))
       case eadr => subst hk'; exact key (fun e => h2 rfl (e ▸ hj)) (fun e => N0 h1 rfl (e ▸ hd))
       case sub => subst hk'; exact key (fun e => h2 rfl (e ▸ hj)) (fun e => N0 h1 rfl (e ▸ hd))
       all_goals cases hk'
     | const v =>
       simp only [A0] at hk'; unfold a1G at hk'; split at hk' <;> simp [H5] at hk'
     | func f => simp [A0, H5] at hk'
     | global g => simp [A0, H5] at hk'
 · have h1 : k ≠ j := fun e => hku (e ▸ hj)
   have h2 : k ≠ d := fun e => by have := hi.2 d hd; omega
   exact (a6m hn hj hx h1 h2).symm
def DM (P : Program) (F : Nat → Bool) (ops : Array Oper) (ds : List Nat) (o : Oper) (d : Nat) (σ : St) (x : AV) : Prop := YV P F ops ds o d σ x ∧ a3J σ x ∧ o.guard = none ∧ ∀ t, Operand.tmp t ∈ o.op.operands.toList → t < 1000000
def MV (F : Nat → Bool) (ds : List Nat) (o : Oper) (K : St → Prop) (σ : St) : Prop :=
 ∃ d j X U, o.dst = some d ∧ d ∈ ds ∧ o.guard = none ∧ 1000000 ≤ j ∧ σ j = .undef ∧ a4d F o.op d σ X U ∧ ∀ g, K (mkS σ j d (X g) (U g))
def mOp (P : Program) (F : Nat → Bool) (ops : Array Oper) (ds : List Nat) (i : Nat) (K : St → Prop) (σ : St) : Prop :=
 match ops[i]? with
 | none => K σ
 | some o => (∃ d x, DM P F ops ds o d σ x ∧ K (B0 σ d x)) ∨ MV F ds o K σ
theorem c4l {i : Nat} {K K' : St → Prop} (h : ∀ σ, K σ → K' σ) (hh : mOp P F ops ds i K σ) : mOp P F ops ds i K' σ := by
 unfold mOp at *; split at hh
 · exact h _ hh
 · rcases hh with ⟨d, x, h1, h2⟩ | ⟨d, j, X, U, h1, h2, h3, h4, h5, h6, h7⟩
   · exact .inl ⟨d, x, h1, h _ h2⟩
   · exact .inr ⟨d, j, X, U, h1, h2, h3, h4, h5, h6, fun g => h _ (h7 g)⟩
def a5S (ds : List Nat) (σ : St) : Prop := INV ds σ ∧ a6e σ
theorem DM.inv {x : AV} (hi : a5S ds σ) (h : DM P F ops ds o d σ x) : a5S ds (B0 σ d x) := ⟨hi.1.setv h.1.2.2.1, hi.2.setv hi.1 h.1.2.1 h.1.2.2.1 h.2.1⟩
theorem a3J.setv {x y : AV} (hd : d ∈ ds) (hx : H8 ds x = true) : a3J (B0 σ d y) x ↔ a3J σ x := by
 have : ∀ j, H5 x = some j → Vw.B0 σ d y j = σ j := fun j hj => by
   have : ¬ j = d := fun e => N0 hx hj (e ▸ hd)
   simp only [Vw.B0, if_neg this]
 constructor
 · intro h j hj; rw [← this j hj]; exact h j hj
 · intro h j hj; rw [this j hj]; exact h j hj
theorem c4c {di j dj : Nat} {x y u : AV} (hij : di ≠ j) (hne : di ≠ dj) (hx : H5 x ≠ some j) : mkS (B0 σ di x) j dj y u = B0 (mkS σ j dj y u) di x := by
 unfold mkS; rw [a1f hij (a0P hx), a0O hne]
theorem c5U {j di : Nat} {oi oj : Oper} {x : AV} (hj : ops[j]? = some oj) (hap : oi.apart ops oj = true) (hi : a5S ds σ) (hy : DM P F ops ds oi di σ x) {K : St → Prop} (h : mOp P F ops ds j K (B0 σ di x)) :
   mOp P F ops ds j (fun σ' => a5S ds σ' ∧ DM P F ops ds oi di σ' x ∧ K (B0 σ' di x)) σ := by
 obtain ⟨h1, h2, h3⟩ := Oper.apart_spec hap; have hdi := hy.1.2.1; have hk := h1 di hy.1.1; have hdi6 := hi.1.2 di hdi; unfold mOp at *; simp only [hj] at *; rcases h with ⟨dj, u, hu, hK⟩ | ⟨dj, jm, X, U, g1, g2, g3, g4, g5, g6, g7⟩
 · have hu' : DM P F ops ds oj dj σ u := ⟨hu.1.back hi.1 hdi hk, (a3J.setv hdi hu.1.2.2.1).1 hu.2.1, hu.2.2⟩; refine .inl ⟨dj, u, hu', hu'.inv hi, ⟨hy.1.forth hi.1 hu.1.2.1 (h3 dj hu.1.1), (a3J.setv hu.1.2.1 hy.1.2.2.1).2 hy.2.1, hy.2.2⟩, ?_⟩; rw [← a0O (fun e => h2 di hy.1.1 (by rw [hu.1.1, e]))]; exact hK
 · have hne : di ≠ dj := fun e => h2 di hy.1.1 (by rw [g1, e])
   have hij : di ≠ jm := (by omega); have hjm : σ jm = .undef := by
     have : B0 σ di x jm = σ jm := (by simp only [B0, if_neg (show ¬ jm = di by omega)]); rw [← this]; exact g5
   have hxj : H5 x ≠ some jm := fun e => hy.2.1 jm e hjm
   refine .inr ⟨dj, jm, X, U, g1, g2, g3, g4, hjm, g6.agr (a1b (x := x) hi.1 hdi hk).one, fun g => ?_⟩; obtain ⟨f1, f2⟩ := g6.flat g; have hdk : dj ∉ oi.looksAt ops := h3 dj g1; have hlow : ∀ t, Operand.tmp t ∈ oi.op.operands.toList → t ≠ jm := fun t ht => by
     exact Nat.ne_of_lt (Nat.lt_of_lt_of_le (hy.2.2.2 t ht) g4)
   have hA := c6W (o := oi) (ops := ops) (x := X g) (u := U g) hi.1 hi.2 g2 hjm f1 hdk hlow; refine ⟨⟨b3f hi.1 f1 f2, b0K hi.1 hi.2 g2 g4 hjm f1 f2⟩, ⟨⟨hy.1.1, hdi, hy.1.2.2.1, ?_⟩, fun k hk' => ?_, hy.2.2⟩, ?_⟩
   · have hw : ∀ τ : St, O5 ops oi τ = some true := fun τ => by simp [O5, hy.2.2.1]
     rcases hy.1.2.2.2 with ⟨_, hp⟩ | ⟨q, _⟩
     · exact .inl ⟨hw _, c2x hA hp⟩
     · rw [hw] at q; cases q
   · have q1 := hy.2.1 k hk'; have q2 : k ≠ dj := fun e => N0 hy.1.2.2.1 hk' (e ▸ g2)
     have q3 : k ≠ jm := fun e => q1 (e ▸ hjm)
     rw [a6m hi.2 hjm f1 q3 q2]; exact q1
   · rw [← c4c hij hne hxj]; exact g7 g
def b2L (P : Program) (F : Nat → Bool) (ops : Array Oper) (ds : List Nat) (nn : Nat) (Lq : Array Bool → St → Prop) : Nat → Array Bool → St → Prop
 | 0, listed, σ => Lq listed σ
 | f + 1, listed, σ => Region.ready .any ops listed ≠ [] ∧ ∀ i ∈ Region.ready .any ops listed, i < nn ∧ mOp P F ops ds i (b2L P F ops ds nn Lq f (listed.setIfInBounds i true)) σ
theorem b9V {nn i di : Nat} {oi : Oper} {x : AV} {Lq : Array Bool → St → Prop} (Iv : Array Bool → Prop) (hset : ∀ listed j, Iv listed → j ∈ Region.ready .any ops listed → j < nn → Iv (listed.setIfInBounds j true)) (hi : ops[i]? = some oi) (hin : i < nn)
   (hlt : ∀ listed, Iv listed → ∀ k, k < nn → listed.getD k true = false → ∀ j ∈ Region.ready .any ops listed, j < nn) (hdone : ∀ listed σ, Lq listed σ → ∀ j ∈ Region.ready .any ops listed, nn ≤ j) :
   ∀ (f : Nat) (listed : Array Bool) (σ : St), Iv listed →
     (∀ j oj, ops[j]? = some oj → j < nn → j ≠ i → listed.getD j true = false → (∀ e ∈ oj.after, Region.binds .any e = true → e.on ≠ i) → oi.apart ops oj = true) →
     i ∈ Region.ready .any ops listed → a5S ds σ → DM P F ops ds oi di σ x →
     b2L P F ops ds nn Lq f (listed.setIfInBounds i true) (B0 σ di x) → b2L P F ops ds nn Lq (f + 1) listed σ := by
 intro f
 induction f with
 | zero =>
   intro listed σ inv _ hr hI hy H; have hun := (mem_ready.1 hr).1; refine ⟨fun h => (by rw [h] at hr; cases hr), fun j hj => ?_⟩; have hjn := hlt listed inv i hin hun j hj; refine ⟨hjn, ?_⟩; by_cases hji : j = i
   · subst hji; unfold mOp; simp only [hi]; exact .inl ⟨di, x, hy, H⟩
   · have := hdone _ _ H j (ready_mono hj hji); omega
 | succ f ih =>
   intro listed σ inv hfree hr hI hy H; have hun := (mem_ready.1 hr).1; refine ⟨fun h => (by rw [h] at hr; cases hr), fun j hj => ?_⟩; have hjn := hlt listed inv i hin hun j hj; refine ⟨hjn, ?_⟩; by_cases hji : j = i
   · subst hji; unfold mOp; simp only [hi]; exact .inl ⟨di, x, hy, H⟩
   · have h1 := (H.2 j (ready_mono hj hji)).2; obtain ⟨hjun, oj, hoj, hall⟩ := mem_ready.1 hj; have hnot : ∀ e ∈ oj.after, Region.binds .any e = true → e.on ≠ i := fun e he hb heq => by
       have h1 := hall e he hb; rw [heq, getD_both hun] at h1; cases h1
     have h2 := c5U hoj (hfree j oj hoj hjn hji hjun hnot) hI hy h1; have hfree' : ∀ k ok, ops[k]? = some ok → k < nn → k ≠ i → (listed.setIfInBounds j true).getD k true = false →
         (∀ e ∈ ok.after, Region.binds .any e = true → e.on ≠ i) → oi.apart ops ok = true := fun k ok hk hkn hki hun hno => by
       refine hfree k ok hk hkn hki ?_ hno; by_cases hjk : j = k
       · subst hjk; exact hjun
       · rw [getD_set_ne true hjk] at hun; exact hun
     refine c4l (fun a' h3 => ih (listed.setIfInBounds j true) a' (hset _ _ inv hj hjn) hfree' (ready_mono hr (Ne.symm hji)) h3.1 h3.2.1 ?_) h2; rw [Array.setIfInBounds_comm _ _ hji]; exact h3.2.2
def mkF (F : Nat → Bool) (op : Op) (d : Nat) (K : St → Prop) (σ : St) : Prop := ∃ j X U, 1000000 ≤ j ∧ σ j = .undef ∧ a4d F op d σ X U ∧ ∀ g, K (mkS σ j d (X g) (U g))
def a1A (P : Program) (F : Nat → Bool) (ds : List Nat) : List Oper → (St → Prop) → St → Prop
 | [], K, σ => K σ
 | o :: rest, K, σ => A8 o.dst fun d => if b0F F o = true then mkF F o.op d (a1A P F ds rest K) σ else D3 P F o.op d σ fun x => (a3J σ x ∧ H8 ds x = true) ∧ a1A P F ds rest K (B0 σ d x)
def tmB (o : Oper) : Bool := o.guard.isNone && o.op.operands.toList.all fun x => match x with
 | .tmp t => decide (t < 1000000)
 | _ => true
def c9o (ops : Array Oper) (nn : Nat) (listed : Array Bool) (i : Nat) (o : Oper) : Bool := (List.range nn).all fun j => decide (j = i) || (listed.getD j true || (Region.waitsFor .any ops j i || (match ops[j]? with
 | some oj => o.apart ops oj
 | none => false)))
def b5J (F : Nat → Bool) (ops : Array Oper) (nn : Nat) : List Nat → Array Bool → Bool
 | [], listed => decide (listed = J1 nn (Array.replicate ops.size false))
 | i :: l, listed => (match ops[i]? with
   | some o => decide (i < nn) && (tmB o && ((Region.ready .any ops listed).contains i && (if b0F F o = true then (Region.ready .any ops listed).all (fun j => j == i) else c9o ops nn listed i o)))
   | none => false) && b5J F ops nn l (listed.setIfInBounds i true)
theorem c1J {rest : List Oper} (hds : ∀ d, o.dst = some d → d ∈ ds) (htm : tmB o = true) (h : a1A P F ds (o :: rest) K σ) :
   (b0F F o = false ∧ ∃ d x, DM P F ops ds o d σ x ∧ a1A P F ds rest K (B0 σ d x)) ∨ (b0F F o = true ∧ MV F ds o (a1A P F ds rest K) σ) := by
 simp only [a1A] at h; obtain ⟨d, hd, h⟩ := A4 h; simp only [tmB, Bool.and_eq_true, Option.isNone_iff_eq_none] at htm; have htm2 : ∀ t, Operand.tmp t ∈ o.op.operands.toList → t < 1000000 := fun t ht => by
   have := all_eq_true.1 htm.2 _ ht; simpa using this
 by_cases hm : b0F F o = true
 · rw [if_pos hm] at h; obtain ⟨j, X, U, h1, h2, h3, h4⟩ := h; exact .inr ⟨hm, d, j, X, U, hd, hds d hd, htm.1, h1, h2, h3, h4⟩
 · rw [if_neg hm] at h; obtain ⟨x, h3, ⟨h4, h5⟩, h6⟩ := a0N h; exact .inl ⟨by simpa using hm, d, x, ⟨⟨hd, hds d hd, h5, .inl ⟨by simp [O5, htm.1], h3⟩⟩, h4, htm.1, htm2⟩, h6⟩
theorem b0C {nn : Nat} (hn : nn ≤ ops.size) (hcase : nn = ops.size ∨ (nn < ops.size ∧ a2h ops 0 nn = true ∧ Region.chainB .any ops nn = true)) (hall : ∀ o ∈ ops.toList, ∀ t, o.dst = some t → t ∈ ds) :
   ∀ (l : List Nat) (listed : Array Bool) (σ : St), b5J F ops nn l listed = true → HeadInv .any ops nn listed → a5S ds σ → a1A P F ds (l.filterMap fun i => ops[i]?) K σ →
     b2L P F ops ds nn (fun listed' σ' => listed' = J1 nn (Array.replicate ops.size false) ∧ a5S ds σ' ∧ K σ') l.length listed σ
 | [], listed, σ, hB, _, hI, h => ⟨by simpa [b5J] using hB, hI, h⟩
 | i :: l, listed, σ, hB, inv, hI, h => by
   simp only [b5J, Bool.and_eq_true] at hB; obtain ⟨hB1, hB2⟩ := hB; have hlt : ∀ listed, HeadInv .any ops nn listed → ∀ k, k < nn → listed.getD k true = false → ∀ j ∈ Region.ready .any ops listed, j < nn := fun listed inv k' hk' hun' j hj => by
     rcases hcase with h1 | ⟨h1, h2, h3⟩
     · obtain ⟨_, o', ho', _⟩ := mem_ready.1 hj; rw [h1]; exact (Array.getElem?_eq_some_iff.1 ho').1
     · rcases Nat.lt_or_ge j nn with h4 | h4
       · exact h4
       · exact absurd hj (a6d h2 h3 h1 inv (fun i hi => absurd hi (Nat.not_lt_zero i)) _ k' rfl hk' hun' j h4)
   cases ho : ops[i]? with
   | none => rw [ho] at hB1; cases hB1
   | some o =>
     rw [ho] at hB1; simp only [Bool.and_eq_true, decide_eq_true_eq] at hB1; obtain ⟨hin, htm, hr, hc⟩ := hB1; have hr' : i ∈ Region.ready .any ops listed := (by simpa using hr); have hmem : o ∈ ops.toList := by rw [Array.mem_toList_iff]; exact Array.mem_of_getElem? ho
     rw [filterMap_cons, ho] at h; simp only at h; rcases c1J (ops := ops) (hall o hmem) htm h with ⟨hm, d, x, hD, hK⟩ | ⟨hm, d, j, X, U, q1, q2, q3, q4, q5, q6, q7⟩
     · have ih := b0C hn hcase hall l (listed.setIfInBounds i true) _ hB2 (inv.set hr' hin) (hD.inv hI) hK; rw [hm] at hc; simp only [Bool.false_eq_true, if_false] at hc; refine b9V (HeadInv .any ops nn) (fun listed j h1 hj hjn => h1.set hj hjn) ho hin hlt (fun listed σ hL j hj => ?_) l.length listed σ inv (fun j oj hoj hjn hjk hun hno => ?_) hr' hI hD ih
       · obtain ⟨rfl, _⟩ := hL; rcases Nat.lt_or_ge j nn with h4 | h4
         · have h5 := a2z (s := ops.size) nn j h4 (by omega); rw [getD_both (mem_ready.1 hj).1] at h5; cases h5
         · exact h4
       · have h1 := all_eq_true.1 hc j (mem_range.2 hjn); simp only [Bool.or_eq_true, decide_eq_true_eq] at h1; rcases h1 with h1 | h1 | h1 | h1
         · exact absurd h1 hjk
         · rw [hun] at h1; cases h1
         · obtain ⟨o', ho', e, he, hb, hon⟩ := Region.waitsFor_spec h1; obtain rfl : oj = o' := Option.some.inj (hoj.symm.trans ho'); exact absurd hon (hno e he hb)
         · rw [hoj] at h1; exact h1
     · rw [hm] at hc; simp only [if_true] at hc; refine ⟨fun e => (by rw [e] at hr'; cases hr'), fun k hk => ?_⟩; have : k = i := by simpa using all_eq_true.1 hc k hk
       subst this; refine ⟨hin, ?_⟩; unfold mOp; simp only [ho]; refine .inr ⟨d, j, X, U, q1, q2, q3, q4, q5, q6, fun g => ?_⟩; obtain ⟨f1, f2⟩ := q6.flat g; exact b0C hn hcase hall l _ _ hB2 (inv.set hr' hin) ⟨b3f hI.1 f1 f2, b0K hI.1 hI.2 q2 q4 q5 f1 f2⟩ (q7 g)
theorem a7B {nn g : Nat} {Lq : Array Bool → St → Prop} (hdst : ∀ o ∈ ops.toList, ∀ d, o.dst = some d → d < n)
   (hL : ∀ listed a w, B6 P w0 L0 row n (fun σ => a5S ds σ ∧ Lq listed σ) a w → wpAny P .any ops Q g listed a w) :
   ∀ (f : Nat) (listed : Array Bool) (a : Act) (w : World), B6 P w0 L0 row n (fun σ => a5S ds σ ∧ b2L P F ops ds nn Lq f listed σ) a w → wpAny P .any ops Q (f + g) listed a w
 | 0, listed, a, w, h => by rw [Nat.zero_add]; exact hL _ _ _ h
 | f + 1, listed, a, w, h => by
   obtain ⟨L, O, σ, hR, hdef, hsz, hI, hne, hall⟩ := h; rw [show f + 1 + g = (f + g) + 1 by omega]; refine ⟨fun h0 => absurd h0 hne, fun i hi => ?_⟩; have hop := (hall i hi).2; unfold mOp at hop; unfold wpOp; split at hop
   · rename_i hoi
     simp only [hoi]; exact a7B hdst hL f _ a w ⟨L, O, σ, hR, hdef, hsz, hI, hop⟩
   · rename_i o hoi
     simp only [hoi]; have hlt := hdst o (by rw [Array.mem_toList_iff]; exact Array.mem_of_getElem? hoi); rcases hop with ⟨d, x, hD, hK⟩ | ⟨d, j, X, U, q1, q2, q3, q4, q5, q6, q7⟩
     · rw [if_pos (by simp [Region.wanted, hD.2.2.1])]; obtain ⟨h1, h2, h3, h4⟩ := hD.1; rcases h4 with ⟨hw, hp⟩ | ⟨hw, _⟩
       · refine .inl (Oper.wp_mono ?_ (a3n (K := fun τ => τ = put σ d x) h1 (hlt d h1) hsz hdef hR (a0h hp fun y hy => by rw [hy]))); rintro a' w' ⟨L1, O1, σ1, hR1, hd1, hs1, rfl⟩; rw [R5 hI.1 h2 h3] at hR1; exact a7B hdst hL f _ a' w' ⟨L1, O1, _, hR1, hd1, hs1, hD.inv hI, hK⟩
       · simp [O5, hD.2.2.1] at hw
     · rw [if_pos (by simp [Region.wanted, q3])]; refine .inl (Oper.wp_mono (K := B6 P w0 L0 row n (fun τ => a5S ds τ ∧ b2L P F ops ds nn Lq f (listed.setIfInBounds i true) τ)) (fun a' w' hg => a7B hdst hL f _ a' w' hg) ?_); refine a4N (F := F) hlt hsz hdef hR ?_; simp only [vop, q1]; refine q6.vopd q5 (fun g => ?_); obtain ⟨f1, f2⟩ := q6.flat g; have hI1 : INV ds (put σ j (X g)) := ⟨a3q (by simp [H8, f1]) hI.1.1, hI.1.2⟩; rw [R5 hI1 q2 (by simp [H8, f2])]; exact ⟨⟨b3f hI.1 f1 f2, b0K hI.1 hI.2 q2 q4 q5 f1 f2⟩, q7 g⟩
theorem Rel.invN (hR : Rel P w0 L0 row w L O σ tm) : a6e σ := by
 intro t j hj hu; have h1 := hR.slots t; cases hs : σ t <;> rw [hs] at hj h1 <;> simp only [H5, Option.some.injEq] at hj
 case bor j' m e l => subst hj; obtain ⟨h2, _⟩ := h1; rw [hu] at h2; cases h2
 case adr j' p => subst hj; obtain ⟨d, g, off, h2, _⟩ := h1; rw [hu] at h2; cases h2
 case eadr j' i p => subst hj; obtain ⟨e, l, g, sz, n, c, d, off, h2, _⟩ := h1; rw [hu] at h2; cases h2
 case sub j' lo => subst hj; obtain ⟨e, l, sz, h2, _⟩ := h1; rw [hu] at h2; cases h2
 all_goals cases hj
def mkB (F : Nat → Bool) (ops : Array Oper) (nn : Nat) (l : List Nat) : Bool := (decide (nn = ops.size) || (decide (nn < ops.size) && a2h ops 0 nn && Region.chainB .any ops nn)) && (Region.seqB .any ops (ops.size - nn) nn (J1 nn (Array.replicate ops.size false)) && (decide (l.length = nn) && b5J F ops nn l (Array.replicate ops.size false)))
theorem c9Z {id nn : Nat} {l : List Nat} (hm : P.follows .mixedOrders = true) (hB : mkB F ops nn l = true) (hdst : ∀ o ∈ ops.toList, ∀ d, o.dst = some d → d < n) (h6 : ∀ d ∈ M5 ops.toList, d < 1000000)
   (h : B6 P w0 L0 row n (fun σ => a1A P F (M5 ops.toList) (l.filterMap fun i => ops[i]?) (fun σ' => J5 P F ops (ops.toList.drop nn) K σ') (I3 (M5 ops.toList) σ)) a w) (hQ : ∀ a w, B6 P w0 L0 row n K a w → Q .normal a w) : (Code.region id ops true).wp P Q a w := by
 obtain ⟨L, O, σ, hR, hdef, hsz, h⟩ := h; simp only [mkB, Bool.and_eq_true, Bool.or_eq_true, decide_eq_true_eq] at hB; obtain ⟨hcase, hseq, hlen, hflo⟩ := hB; have hn : nn ≤ ops.size := by rcases hcase with h1 | ⟨⟨h1, _⟩, _⟩ <;> omega
 have hcase' : nn = ops.size ∨ (nn < ops.size ∧ a2h ops 0 nn = true ∧ Region.chainB .any ops nn = true) := by
   rcases hcase with h1 | ⟨⟨h1, h2⟩, h3⟩
   · exact .inl h1
   · exact .inr ⟨h1, h2, h3⟩
 have hI := a3Q (σ := σ) h6; have hR' := hR.drew.clean (M5 ops.toList); have hdl : (ops.toList.drop nn).length = ops.size - nn := (by simp); have H := b0C (P := P) (F := F) (ds := M5 ops.toList) (K := fun σ' => J5 P F ops (ops.toList.drop nn) K σ') hn hcase' (fun o ho d hd => mem_filterMap.2 ⟨o, ho, hd⟩) l (Array.replicate ops.size false) _ hflo
   ⟨by simp, fun j oj _ hl => (by rw [getD_replicate_false] at hl; cases hl), fun t _ ht => a0Q 0 t (Nat.zero_le _) ht⟩ ⟨hI, hR'.invN⟩ h
 let Q0 : Exit → Act → World → Prop := fun e a w => e = .normal ∧ B6 P w0 L0 row n K a w
 refine wp_mono (Q := Q0) (wp_region_any hm ?_) (fun e a w ⟨he, hg⟩ => by subst he; exact hQ a w hg); have := a7B (Q := Q0) (g := ops.size - nn) (w0 := w0) (L0 := L0) (row := row) hdst (fun listed a' w' hg => by
   obtain ⟨L1, O1, σ1, hR1, hd1, hs1, _, rfl, _, hv1⟩ := hg; have := wpAny_of_seq (md := .any) (Q' := Q0) (P := P) (ops.toList.drop nn) nn (J1 nn (Array.replicate ops.size false)) a' w' (fun j => by simp [getElem?_drop]) (by rw [hdl]; exact hseq)
     (a6p (ops.toList.drop nn) a' w' (fun o ho d hd => hdst o (mem_of_mem_drop ho) d hd) ⟨L1, O1, σ1, hR1, hd1, hs1, hv1⟩ (fun a w hg => ⟨rfl, hg⟩))
   rwa [hdl] at this) _ _ a _ ⟨L, O, I3 (M5 ops.toList) σ, hR', hdef, hsz, ⟨hI, hR'.invN⟩, H⟩
 rw [hlen, show nn + (ops.size - nn) = ops.size by omega] at this; exact this
end Go.Vw
namespace Go.Vw
open Go.RowKit Go.Proofs
def c7W (P : Program) (F : Nat → Bool) (ops : Array Oper) (K : St → Prop) (σ : St) : Prop := ∃ l, b2Q F ops l (Array.replicate ops.size false) = true ∧ l.length = ops.size ∧ Y2 P F ops (M5 ops.toList) (l.filterMap fun i => ops[i]?) K (I3 (M5 ops.toList) σ)
def c7z (P : Program) (F : Nat → Bool) (ops : Array Oper) (K : St → Prop) (σ : St) : Prop := ∃ nn l, mkB F ops nn l = true ∧ a1A P F (M5 ops.toList) (l.filterMap fun i => ops[i]?) (fun σ' => J5 P F ops (ops.toList.drop nn) K σ') (I3 (M5 ops.toList) σ)
def N5 (P : Program) (F : Nat → Bool) : Code → (Exit → St → Prop) → St → Prop
 | .region id ops true, Q, σ => if F (20000000 + id) = true then c7W P F ops (Q .normal) σ else if F (21000000 + id) = true then c7z P F ops (Q .normal) σ else vwp P F (.region id ops true) Q σ
 | .seq x y, Q, σ => N5 P F x (a2q (N5 P F y Q) Q) σ
 | .cond c x y, Q, σ => (match A0 σ c with
   | .d (.bool b) => (b = true → N5 P F x Q σ) ∧ (b = false → N5 P F y Q σ)
   | _ => False)
 | .block id c, Q, σ => N5 P F c (a1d id Q) σ
 | .loop c, Q, σ => a3L (N5 P F c) Q σ
 | c, Q, σ => vwp P F c Q σ
def a3h (F : Nat → Bool) (n : Nat) : Code → Bool
 | .region id ops true => if (F (20000000 + id) || F (21000000 + id)) = true then (ops.toList.all fun o => match o.dst with
   | some d => decide (d < n) && decide (d < 1000000)
   | none => true) else a0j F n (.region id ops true)
 | .seq x y | .cond _ x y => a3h F n x && a3h F n y
 | .block _ c | .loop c => a3h F n c
 | c => a0j F n c
variable {ds : List Nat} {P : Program} {F : Nat → Bool} {w0 : World} {L0 : Nat → Nat → Prop} {row : Nat → Prop} {n : Nat} {K : St → Prop} {Q : Exit → St → Prop}
 {w w' : World} {L L' : Nat → Nat → Prop} {O O' : Nat → Option Nat} {σ σ' : St} {a : Act} {o : Oper} {d : Nat} {v : Value} {tm : Nat → Value}
theorem a2D (hm : P.follows .mixedOrders = true) : ∀ (c : Code) (Q : Exit → St → Prop) (a : Act) (w : World), a3h F n c = true → B6 P w0 L0 row n (N5 P F c Q) a w → c.wp P (post P w0 L0 row n Q) a w
 | .skip, Q, a, w, hok, h => K3 hm .skip Q a w hok h
 | .region id ops false, Q, a, w, hok, h => K3 hm (.region id ops false) Q a w hok h
 | .region id ops true, Q, a, w, hok, h => by
   simp only [a3h] at hok; by_cases hff : (F (20000000 + id) || F (21000000 + id)) = true
   · rw [if_pos hff] at hok; have hdst : ∀ o ∈ ops.toList, ∀ d, o.dst = some d → d < n ∧ d < 1000000 := fun o ho d hd => by
       have := all_eq_true.1 hok o ho; simpa [hd] using this
     have h6 : ∀ d ∈ M5 ops.toList, d < 1000000 := fun d hd => by
       obtain ⟨o, ho, e⟩ := mem_filterMap.1 hd; exact (hdst o ho d e).2
     obtain ⟨L, O, σ, hR, hdef, hsz, hv⟩ := h; by_cases hf : F (20000000 + id) = true
     · simp only [N5, if_pos hf] at hv; obtain ⟨l, hB, hlen, hv⟩ := hv; exact c6V hm hB hlen (fun o ho d hd => (hdst o ho d hd).1) h6 ⟨L, O, σ, hR, hdef, hsz, hv⟩ (fun a w h => h)
     · have hf2 : F (21000000 + id) = true := (by simpa [hf] using hff); simp only [N5, if_neg hf, if_pos hf2] at hv; obtain ⟨nn, l, hB, hv⟩ := hv; exact c9Z hm hB (fun o ho d hd => (hdst o ho d hd).1) h6 ⟨L, O, σ, hR, hdef, hsz, hv⟩ (fun a w h => h)
   · rw [if_neg hff] at hok; simp only [Bool.or_eq_true, not_or] at hff; obtain ⟨L, O, σ, hR, hdef, hsz, hv⟩ := h; simp only [N5, if_neg hff.1, if_neg hff.2] at hv; exact K3 hm (.region id ops true) Q a w hok ⟨L, O, σ, hR, hdef, hsz, hv⟩
 | .seq x y, Q, a, w, hok, h => by
   simp only [a3h, Bool.and_eq_true] at hok; refine wp_seq (wp_mono (a2D hm x _ a w hok.1 h) ?_); intro e a' w' hg; cases e with
   | normal => exact a2D hm y Q a' w' hok.2 hg
   | exit id => exact hg
   | goto l => exact hg
   | ret => exact hg
   | panic ch => exact hg
   | outgrown => exact hg
 | .cond c x y, Q, a, w, hok, h => by
   simp only [a3h, Bool.and_eq_true] at hok; obtain ⟨L, O, σ, hR, hdef, hsz, hv⟩ := h; simp only [N5] at hv; split at hv
   · rename_i b hc
     have hcv := (E6 hR hc).bool_inv; exact wp_cond_split hcv (fun hb => a2D hm x Q a w hok.1 ⟨L, O, σ, hR, hdef, hsz, hv.1 hb⟩) (fun hb => a2D hm y Q a w hok.2 ⟨L, O, σ, hR, hdef, hsz, hv.2 hb⟩)
   · exact hv.elim
 | .block id c, Q, a, w, hok, h => by
   refine wp_block (wp_mono (a2D hm c _ a w hok h) ?_); intro e a' w' hg; cases e with
   | exit id' =>
     show if id' = id then post P w0 L0 row n Q .normal a' w' else post P w0 L0 row n Q (.exit id') a' w'
     have hg' : B6 P w0 L0 row n (fun σ => if id' = id then Q .normal σ else Q (.exit id') σ) a' w' := hg; split
     · exact hg'.mono fun σ h => by rwa [if_pos (by assumption)] at h
     · exact hg'.mono fun σ h => by rwa [if_neg (by assumption)] at h
   | normal => exact hg
   | goto l => exact hg
   | ret => exact hg
   | panic ch => exact hg
   | outgrown => exact hg
 | .loop c, Q, a, w, hok, h => by
   obtain ⟨L, O, σ, hR, hdef, hsz, I, k, h0, hI⟩ := h; refine wp_loop_ghost (fun m a w => B6 P w0 L0 row n (I m) a w) k ⟨L, O, σ, hR, hdef, hsz, h0⟩ ?_; intro m a' w' hg; refine wp_mono (a2D hm c _ a' w' hok (hg.mono fun τ hτ => hI m τ hτ)) ?_; intro e a2 w2 hg2; cases e with
   | normal =>
     obtain ⟨L2, O2, σ2, hR2, hd2, hs2, m', hm, hI2⟩ := hg2; exact ⟨m', hm, L2, O2, σ2, hR2, hd2, hs2, hI2⟩
   | exit id => exact hg2
   | goto l => exact hg2
   | ret => exact hg2
   | panic ch => exact hg2
   | outgrown => exact hg2
 | .exit id, Q, a, w, hok, h => K3 hm (.exit id) Q a w hok h
 | .ret, Q, a, w, hok, h => K3 hm (.ret) Q a w hok h
 | .rangeFunc .., Q, a, w, hok, h => K3 hm _ Q a w hok h
 | .scope x, Q, a, w, hok, h => K3 hm (.scope x) Q a w hok h
 | .label x, Q, a, w, hok, h => K3 hm (.label x) Q a w hok h
 | .goto x, Q, a, w, hok, h => K3 hm (.goto x) Q a w hok h
 | .refuse x, Q, a, w, hok, h => K3 hm (.refuse x) Q a w hok h
theorem b2t {f : FuncId} {fn : Func} {c : Code} {args : List AV} {t : Nat} {r : AV} (F : Nat → Bool) (hm : P.follows .mixedOrders = true) (hf : P.funcs[f]? = some fn) (hname : (fn.name == "runtime.NumGoroutine") = false) (hb : fn.body = some c) (hres : fn.results = #[.tmp t])
   (hargs : args.length ≤ fn.ntmps) (hok : a3h F fn.ntmps c = true) (harg : (args.all a6X) = true) (hone : a2K args = true)
   (h : N5 P F c (a8n t r) (a1N args)) : Ctr P f args r := by
 refine ⟨enters_of hf hname hb, fun w L og vals hlok hgl hog hrc => ?_⟩; have hl := hrc.length; refine calls_of_wp hf hb (wp_mono (a2D (n := fn.ntmps) hm c _ _ w hok ⟨L, _, a1N args, a6W hlok hgl hog hrc harg hone, rfl, ?_, h⟩) ?_)
 · simp; omega
 · rintro e a' w' ⟨L', O', σ', hR, hdef, hsz, he, hr⟩; obtain ⟨L2, og2, h1, h2, h3, _, h4⟩ := a9L hR hr; have hfin : a'.defers = [] ∧ ∃ v, (results fn a'.tmps).run P w' = .ok v w' ∧ (∃ v' L' og', Ending.returned v = .returned v' ∧ E8 w w' (E9 og) ∧ (∀ b q, L' b q → b < w'.heap.size) ∧ (∀ b q, b < w.heap.size → ¬ E9 og b → (L' b q ↔ L b q)) ∧
       (∀ g, og' = some g → g < w'.heap.size ∧ (w.heap.size ≤ g ∨ og = some g)) ∧ RC P w' L' og' r v') :=
     ⟨hdef, _, results_tmp hres _ _ _, _, L2, og2, rfl, hR.grown, h1, h2, h3, h4⟩
   rcases he with rfl | rfl
   · exact hfin
   · exact hfin
@[simp] theorem c9y : N5 P F .skip Q σ = Q .normal σ := by simp only [N5, vwp]
@[simp] theorem c6Y (id : Nat) (ops : List Oper) : N5 P F (.region id ops.toArray false) Q σ = J5 P F ops.toArray ops (Q .normal) σ := by simp only [N5, vwp]
def a6L (b : Bool) (P : Program) (F : Nat → Bool) (id : Nat) (l : List Oper) (Q : Exit → St → Prop) (K : St → Prop) (σ : St) : Prop := if b = true then c7z P F l.toArray K σ else vwp P F (.region id l.toArray true) Q σ
@[simp] theorem d0L (id : Nat) (l : List Oper) : a6L false P F id l Q K σ = vwp P F (.region id l.toArray true) Q σ := by simp only [a6L, Bool.false_eq_true, if_false]
def b3c (b : Bool) (P : Program) (F : Nat → Bool) (id : Nat) (l : List Oper) (Q : Exit → St → Prop) (K : St → Prop) (σ : St) : Prop := if b = true then c7W P F l.toArray K σ else a6L (F (21000000 + id)) P F id l Q K σ
@[simp] theorem d0x (id : Nat) (l : List Oper) : b3c false P F id l Q K σ = a6L (F (21000000 + id)) P F id l Q K σ := by simp only [b3c, Bool.false_eq_true, if_false]
@[simp] theorem d0Q (id : Nat) (ops : List Oper) : N5 P F (.region id ops.toArray true) Q σ = b3c (F (20000000 + id)) P F id ops Q (Q .normal) σ := by simp only [N5, b3c, a6L]
def a6N (l : List Oper) : List Nat → List Oper
 | [] => []
 | i :: is => (l.drop i).take 1 ++ a6N l is
@[simp] theorem d1y (l : List Oper) : a6N l [] = [] := rfl
@[simp] theorem c9F (l : List Oper) (i : Nat) (is : List Nat) : a6N l (i :: is) = (l.drop i).take 1 ++ a6N l is := rfl
theorem b6K (l : List Oper) : ∀ is : List Nat, a6N l is = is.filterMap fun i => l.toArray[i]?
 | [] => rfl
 | i :: is => by
   rw [a6N, b6K l is, filterMap_cons]; simp only [getElem?_toArray]; cases h : l[i]? with
   | none =>
     rw [drop_eq_nil_of_le (List.getElem?_eq_none_iff.1 h)]; simp
   | some o =>
     obtain ⟨hi, rfl⟩ := List.getElem?_eq_some_iff.1 h; rw [drop_eq_getElem_cons hi]; rfl
def c3V (P : Program) (F : Nat → Bool) (ops : Array Oper) (l : List Oper) (ds : List Nat) (K : St → Prop) (σ : St) : Prop := Y2 P F ops ds l K (I3 ds σ)
@[simp] theorem d4M (ops : Array Oper) (l : List Oper) (ds : List Nat) : c3V P F ops l ds K σ = Y2 P F ops ds l K (I3 ds σ) := rfl
def b9w (ds : List Nat) (d : Nat) (N : St → Prop) (σ : St) (x : AV) : Prop := (a2v x = true ∧ H8 ds x = true) ∧ N (B0 σ d x)
@[simp] theorem d3w (ds : List Nat) (d : Nat) (N : St → Prop) (x : AV) : b9w ds d N σ x = ((a2v x = true ∧ H8 ds x = true) ∧ N (B0 σ d x)) := rfl
def b2o (P : Program) (F : Nat → Bool) (ds : List Nat) (op : Op) (d : Nat) (K : St → Prop) (σ : St) : Option (Nat × FuncId × List Operand) → Prop
 | some (_, g, xs) => A8 (L3 σ xs) fun xa => a6C P ds g xa σ d K
 | none => V7 σ op = true ∧ D3 P F op d σ (b9w ds d K σ)
@[simp] theorem c8Q (op : Op) (ds : List Nat) (d : Nat) : b2o P F ds op d K σ none = (V7 σ op = true ∧ D3 P F op d σ (b9w ds d K σ)) := rfl
@[simp] theorem c8L (op : Op) (ds : List Nat) (d d' : Nat) (g : FuncId) (xs : List Operand) : b2o P F ds op d K σ (some (d', g, xs)) = A8 (L3 σ xs) fun xa => a6C P ds g xa σ d K := rfl
def a4V (F : Nat → Bool) (d : Nat) : Op → Option (Nat × FuncId × List Operand)
 | .call { callee := .value (.func g), args, argTypes := _ } => if F (d + 5000000) && !F (d + 2000000) && !F (d + 3000000) && !F (d + 4000000) then some (d, g, args.toList) else none
 | _ => none
theorem b7P {o : Oper} {d : Nat} (h : o.dst = some d) : b2X P F ds o d K σ = b2o P F ds o.op d K σ (a4V F d o.op) := by
 have e : a2Q F o = a4V F d o.op := by
   unfold a2Q a4V; rw [h]; split
   · rename_i h1 h2; cases h1; rw [h2]
   · rename_i hn
     split
     · rename_i h2; exact absurd h2 (hn _ _ _ _ rfl)
     · rfl
 unfold b2X; rw [e]; cases a4V F d o.op with
 | none => rfl
 | some x => rfl
@[simp] theorem d4b (ops : Array Oper) (ds : List Nat) : Y2 P F ops ds [] K σ = K σ := rfl
@[simp] theorem d1l (ops : Array Oper) (ds : List Nat) (d : Nat) (op : Op) (ty : TypeId) (pos : String) (after : Array Edge) (rest : List Oper) :
   Y2 P F ops ds ({ dst := some d, op, type := ty, pos, after, guard := none } :: rest) K σ = b2o P F ds op d (Y2 P F ops ds rest K) σ (a4V F d op) := by
 simp only [Y2, I9]; exact b7P rfl
@[simp] theorem c9U (ops : Array Oper) (ds : List Nat) (d : Nat) (op : Op) (ty : TypeId) (pos : String) (after : Array Edge) (j : Nat) (want : Bool) (rest : List Oper) :
   Y2 P F ops ds ({ dst := some d, op, type := ty, pos, after, guard := some (j, want) } :: rest) K σ = A8 ((ops[j]?).bind (·.dst)) fun t => (match σ t with
     | .d (.bool b) => if b = want then b2o P F ds op d (Y2 P F ops ds rest K) σ (a4V F d op) else Y2 P F ops ds rest K (B0 σ d (.tup []))
     | .tup [] => Y2 P F ops ds rest K (B0 σ d (.tup []))
     | _ => False) := by
 simp only [Y2, I9]; congr 1
 funext t
 rw [b7P rfl]; cases σ t with
 | d x => cases x with
   | bool b => by_cases hb : b = want <;> simp [hb]
   | _ => rfl
 | tup l => cases l <;> rfl
 | _ => rfl
def c3U : Option Nat → Bool
 | some j => decide (j < 1000000)
 | none => true
@[simp] theorem d0T : c3U none = true := rfl
@[simp] theorem d2z (j : Nat) : c3U (some j) = decide (j < 1000000) := rfl
@[simp] theorem d5F (x : AV) : a2v x = c3U (H5 x) := rfl
def b2g (σ : St) : Option Nat → Bool
 | some j => decide (j < 1000000) && a2v (σ j)
 | none => true
@[simp] theorem c9H : b2g σ none = true := rfl
@[simp] theorem c9D (j : Nat) : b2g σ (some j) = (decide (j < 1000000) && a2v (σ j)) := rfl
@[simp] theorem d1c (t : Nat) : P7 σ (.tmp t) = (decide (t < 1000000) && (a2v (σ t) && b2g σ (H5 (A0 σ (.tmp t))))) := rfl
@[simp] theorem c8u (v : Value) : P7 σ (.const v) = true := rfl
@[simp] theorem c9a (v : FuncId) : P7 σ (.func v) = true := rfl
attribute [simp] V7 a6S a4V H5
@[congr] theorem d5q {x x' : Option Nat} (h : mkd x = x') : b2g σ x = b2g σ x' := by rw [B5] at h; subst h; rfl
@[congr] theorem d5X {g : FuncId} {xs xs' : List AV} {d : Nat} (h : mkd (xs) = xs') (hs : mkd (σ) = σ') : a6C P ds g xs σ d K = a6C P ds g xs' σ' d K := by rw [B5] at h; subst h; rw [B5] at hs; subst hs; rfl
@[congr] theorem d6n {ops : Array Oper} {l : List Oper} (h : mkd (σ) = σ') : Y2 P F ops ds l K σ = Y2 P F ops ds l K σ' := by rw [B5] at h; subst h; rfl
@[congr] theorem d6d {ops : Array Oper} {l l' : List Oper} {ds ds' : List Nat} (hl : mkd l = l') (hd : mkd ds = ds') (h : mkd σ = σ') : c3V P F ops l ds K σ = c3V P F ops l' ds' K σ' := by rw [B5] at hl hd h; subst hl hd h; rfl
@[congr] theorem d6c {b b' : Bool} {id : Nat} {l : List Oper} (hb : mkd b = b') : b3c b P F id l Q K σ = b3c b' P F id l Q K σ := by rw [B5] at hb; subst hb; rfl
@[simp] theorem d1p (x y : Code) : N5 P F (.seq x y) Q σ = N5 P F x (a2q (N5 P F y Q) Q) σ := by simp only [N5]
@[simp] theorem c9z (c : Operand) (x y : Code) : N5 P F (.cond c x y) Q σ = (match A0 σ c with
   | .d (.bool b) => if b = true then N5 P F x Q σ else N5 P F y Q σ
   | _ => False) := by
 simp only [N5]; cases A0 σ c with
 | d x => cases x with
   | bool b => cases b <;> simp
   | _ => rfl
 | _ => rfl
@[simp] theorem c8p (id : Nat) (c : Code) : N5 P F (.block id c) Q σ = N5 P F c (a1d id Q) σ := by simp only [N5]
@[simp] theorem c9C (c : Code) : N5 P F (.loop c) Q σ = a3L (N5 P F c) Q σ := by simp only [N5]
@[simp] theorem c9x (id : Nat) : N5 P F (.exit id) Q σ = Q (.exit id) σ := by simp only [N5, vwp]
@[simp] theorem d1O : N5 P F .ret Q σ = Q .ret σ := by simp only [N5, vwp]
@[congr] theorem d6v {c : Code} (h : mkd (σ) = σ') : N5 P F c Q σ = N5 P F c Q σ' := by rw [B5] at h; subst h; rfl
def b9H (P : Program) (F : Nat → Bool) (ops : Array Oper) (l r : List Oper) (ds : List Nat) (K : St → Prop) (σ : St) : Prop := a1A P F ds l (fun σ' => J5 P F ops r K σ') (I3 ds σ)
@[simp] theorem d4V (ops : Array Oper) (l r : List Oper) (ds : List Nat) : b9H P F ops l r ds K σ = a1A P F ds l (J5 P F ops r K) (I3 ds σ) := rfl
theorem d3x {id : Nat} {l : List Oper} (nn : Nat) (is ds : List Nat) (h1 : mkB F l.toArray nn is = true) (h3 : M5 l = ds) (h : b9H P F l.toArray (a6N l is) (l.drop nn) ds K σ) : a6L true P F id l Q K σ := by
 subst h3; rw [b6K] at h; simp only [a6L, if_true]; exact ⟨nn, is, h1, h⟩
def b4U (F : Nat → Bool) (d : Nat) : Op → Bool
 | .makeMap _ none => true
 | .box _ _ => F (d + 1000000)
 | _ => false
def a7G (σ : St) : Option Nat → Prop
 | some j => σ j ≠ .undef
 | none => True
@[simp] theorem c9K : a7G σ none = True := rfl
@[simp] theorem c9m (j : Nat) : a7G σ (some j) = (σ j ≠ .undef) := rfl
def b4X (ds : List Nat) (d : Nat) (N : St → Prop) (σ : St) (x : AV) : Prop := (a7G σ (H5 x) ∧ H8 ds x = true) ∧ N (B0 σ d x)
@[simp] theorem d3a (ds : List Nat) (d : Nat) (N : St → Prop) (x : AV) : b4X ds d N σ x = ((a7G σ (H5 x) ∧ H8 ds x = true) ∧ N (B0 σ d x)) := rfl
theorem c6C (x : AV) : a3J σ x = a7G σ (H5 x) := by
 unfold a3J; cases h : H5 x with
 | none => simp
 | some j => simp
def mkD (b : Bool) (P : Program) (F : Nat → Bool) (ds : List Nat) (op : Op) (d : Nat) (K : St → Prop) (σ : St) : Prop := if b = true then mkF F op d K σ else D3 P F op d σ (b4X ds d K σ)
@[simp] theorem d4K (ds : List Nat) (op : Op) (d : Nat) : mkD true P F ds op d K σ = mkF F op d K σ := rfl
@[simp] theorem d1r (ds : List Nat) (op : Op) (d : Nat) : mkD false P F ds op d K σ = D3 P F op d σ (b4X ds d K σ) := rfl
@[simp] theorem d4n (ds : List Nat) : a1A P F ds [] K σ = K σ := rfl
@[simp] theorem d1e (ds : List Nat) (d : Nat) (op : Op) (ty : TypeId) (pos : String) (after : Array Edge) (g : Option (Nat × Bool)) (rest : List Oper) :
   a1A P F ds ({ dst := some d, op, type := ty, pos, after, guard := g } :: rest) K σ = mkD (b4U F d op) P F ds op d (a1A P F ds rest K) σ := by
 have e : b0F F { dst := some d, op, type := ty, pos, after, guard := g } = b4U F d op := by
   unfold b0F b4U; cases op <;> try rfl
   rename_i t x; cases x <;> rfl
 simp only [a1A, I9, e, mkD, b4X, c6C]; congr 1
attribute [simp] b4U
def b5a (d : Nat) (K : St → Prop) (σ : St) : Prop := ∃ kt j, 1000000 ≤ j ∧ σ j = .undef ∧ ∀ g, K (B0 (put σ j (.hm (.map (some g)) kt [] none)) d (.d (.raw (.map (some g)))))
def b5b (t : TypeId) (y : D) (d : Nat) (K : St → Prop) (σ : St) : Prop := ∃ j, 1000000 ≤ j ∧ σ j = .undef ∧ ∀ g, K (B0 (put σ j (.hb (.pointer (some ⟨g, 0, none⟩)) t y)) d (.d (.raw (.pointer (some ⟨g, 0, none⟩)))))
@[simp] theorem d5r (t : TypeId) (d : Nat) : mkF F (.makeMap t none) d K σ = b5a d K σ := by
 apply propext
 constructor
 · rintro ⟨j, X, U, h1, h2, ⟨kt, rfl, rfl⟩, h4⟩; exact ⟨kt, j, h1, h2, h4⟩
 · rintro ⟨kt, j, h1, h2, h3⟩; exact ⟨j, _, _, h1, h2, ⟨kt, rfl, rfl⟩, h3⟩
@[simp] theorem d5w (t : TypeId) (x : Operand) (d : Nat) : mkF F (.box t x) d K σ = (F (d + 1000000) = true ∧ A8 (asD (A0 σ x)) fun y => b5b t y d K σ) := by
 apply propext
 constructor
 · rintro ⟨j, X, U, h1, h2, ⟨hF, y, hy, rfl, rfl⟩, h4⟩; refine ⟨hF, ?_⟩; rw [hy]; exact ⟨j, h1, h2, h4⟩
 · rintro ⟨hF, h⟩; obtain ⟨y, hy, j, h1, h2, h3⟩ := A4 h; exact ⟨j, _, _, h1, h2, ⟨hF, y, hy, rfl, rfl⟩, h3⟩
theorem d0S (kt : TypeId) (j : Nat) (hj : 1000000 ≤ j) (hu : σ j = .undef) (h : ∀ g, K (B0 (put σ j (.hm (.map (some g)) kt [] none)) d (.d (.raw (.map (some g)))))) : b5a d K σ := ⟨kt, j, hj, hu, h⟩
theorem c9L {t : TypeId} {y : D} (j : Nat) (hj : 1000000 ≤ j) (hu : σ j = .undef) (h : ∀ g, K (B0 (put σ j (.hb (.pointer (some ⟨g, 0, none⟩)) t y)) d (.d (.raw (.pointer (some ⟨g, 0, none⟩)))))) : b5b t y d K σ := ⟨j, hj, hu, h⟩
@[congr] theorem d6B {b b' : Bool} {id : Nat} {l : List Oper} (hb : mkd b = b') : a6L b P F id l Q K σ = a6L b' P F id l Q K σ := by rw [B5] at hb; subst hb; rfl
@[congr] theorem d6u {ops : Array Oper} {l l' r r' : List Oper} {ds ds' : List Nat} (hl : mkd l = l') (hr : mkd r = r') (hd : mkd ds = ds') (h : mkd σ = σ') : b9H P F ops l r ds K σ = b9H P F ops l' r' ds' K σ' := by rw [B5] at hl hr hd h; subst hl hr hd h; rfl
@[congr] theorem d6N {l : List Oper} (h : mkd (σ) = σ') : a1A P F ds l K σ = a1A P F ds l K σ' := by rw [B5] at h; subst h; rfl
@[congr] theorem d6W {b b' : Bool} {op : Op} (hb : mkd b = b') (h : mkd (σ) = σ') : mkD b P F ds op d K σ = mkD b' P F ds op d K σ' := by rw [B5] at hb h; subst hb h; rfl
@[congr] theorem d5M (h : mkd (σ) = σ') : b5a d K σ = b5a d K σ' := by rw [B5] at h; subst h; rfl
@[congr] theorem d5s {t : TypeId} {y y' : D} (hy : mkd y = y') (h : mkd (σ) = σ') : b5b t y d K σ = b5b t y' d K σ' := by rw [B5] at hy h; subst hy h; rfl
@[congr] theorem d5P {x x' : Option Nat} (h : mkd x = x') : a7G σ x = a7G σ x' := by rw [B5] at h; subst h; rfl
end Go.Vw
namespace Go.Vw
open Go.RowKit Go.Proofs
variable {P : Program} {w w' : World} {L L' : Nat → Nat → Prop}
theorem a5X {f : FuncId} {fn : Func} {c : Code} {args hs : List AV} {t : Nat} {Post : AV → List AV → Prop} (F : Nat → Bool) (hm : P.follows .mixedOrders = true) (hf : P.funcs[f]? = some fn) (hname : (fn.name == "runtime.NumGoroutine") = false) (hb : fn.body = some c) (hres : fn.results = #[.tmp t])
   (hargs : args.length ≤ fn.ntmps) (hok : a3h F fn.ntmps c = true) (harg : (args.all b5i) = true)
   (h : N5 P F c (b3j t Post) (A5 args hs)) : F5 P f args hs Post := by
 refine ⟨enters_of hf hname hb, fun w L vals hlok hgl hrc hh hap => ?_⟩; have hl := hrc.length; refine calls_of_wp hf hb (wp_mono (a2D (n := fn.ntmps) hm c _ _ w hok ⟨L, _, A5 args hs, a9r hlok hgl hrc harg hh hap (fun x hx g hg => (hh x hx).lt hg), rfl, ?_, h⟩) ?_)
 · simp; omega
 · rintro e a' w' ⟨L', O', σ', hR, hdef, hsz, he, r, ks, hnd, hks, hr, hpost⟩; have hks' : ∀ k ∈ ks, RH P w' L' (σ' k) ∧ ∀ g, B7 (σ' k) = some g → O' k = some g := by
     intro k hk; have hs := hR.slots k; have hH := hks k hk; have hrc : RC P w' L' (O' k) (σ' k) (B4 a' k) := by
       cases hx : σ' k <;> rw [hx] at hs hH <;> simp [isH] at hH <;> exact hs
     exact hrc.self hH
   obtain ⟨og, o1, o2, o3⟩ : ∃ og, RC P w' L' og r (B4 a' t) ∧ (∀ g, og = some g → ∃ j, O' j = some g ∧ isH (σ' j) = false) ∧ True := by
     have hs := hR.slots t; unfold a1u at hr; cases hx : σ' t <;> rw [hx] at hr hs
     case d y => subst hr; exact ⟨none, hs, by simp, trivial⟩
     case nils => subst hr; refine ⟨none, ?_, by simp, trivial⟩; simp only [RC]; rw [show B4 a' t = .slice none 0 0 from hs]; exact a4F
     case own m e l => subst hr; exact ⟨O' t, hs, fun g hg => ⟨t, hg, by rw [hx]; rfl⟩, trivial⟩
     case bor j m e l =>
       subst hr; obtain ⟨h2, h3⟩ := hs; have h4 := hR.slots j; rw [h2] at h4; exact ⟨O' j, by rw [h3]; exact h4, fun g hg => ⟨j, hg, by rw [h2]; rfl⟩, trivial⟩
     case tup l =>
       cases l with
       | nil => subst hr; obtain ⟨vs, h1, h2⟩ := hs; exact ⟨none, by simp only [RC]; exact ⟨vs, h1, by simp only [RCs] at h2 ⊢; exact h2⟩, by simp, trivial⟩
       | cons x l => exact hr.elim
     all_goals exact hr.elim
   have hmap : ∀ g, some g ∈ (ks.map σ').map B7 → ∃ k ∈ ks, O' k = some g := by
     intro g hg; simp only [map_map, mem_map, Function.comp_apply] at hg; obtain ⟨k, hk, hg⟩ := hg; exact ⟨k, hk, (hks' k hk).2 g hg⟩
   have hapart : ∀ (l : List Nat), l.Nodup → (∀ k ∈ l, ∀ g, B7 (σ' k) = some g → O' k = some g) → J7 ((l.map σ').map B7) := by
     intro l
     induction l with
     | nil => intro _ _; trivial
     | cons k l ih =>
       intro hn ho; rw [nodup_cons] at hn; refine ⟨fun g hg hm => ?_, ih hn.2 (fun k hk => ho k (by simp [hk]))⟩; simp only [map_map, mem_map, Function.comp_apply] at hm; obtain ⟨k', hk', hg'⟩ := hm; have e1 := ho k (by simp) g hg; have e2 := ho k' (by simp [hk']) g hg'; exact hn.1 (by rw [hR.inj k k' g e1 e2]; exact hk')
   have hfin : a'.defers = [] ∧ ∃ v, (results fn a'.tmps).run P w' = .ok v w' ∧ (∃ v' L' og r hs', Ending.returned v = .returned v' ∧ E8 w w' (fun b => some b ∈ hs.map B7) ∧ (∀ b q, L' b q → b < w'.heap.size) ∧ (∀ b q, b < w.heap.size → some b ∉ hs.map B7 → (L' b q ↔ L b q)) ∧
     (∀ g, some g ∈ og :: hs'.map B7 → g < w'.heap.size ∧ (w.heap.size ≤ g ∨ some g ∈ hs.map B7)) ∧ J7 (og :: hs'.map B7) ∧ RC P w' L' og r v' ∧ (∀ x ∈ hs', RH P w' L' x) ∧ Post r hs') := by
     refine ⟨hdef, _, results_tmp hres _ _ _, _, L', og, r, ks.map σ', rfl, hR.grown, hR.lok, hR.old, fun g hg => ?_, ⟨fun g hg hm => ?_, hapart ks hnd (fun k hk => (hks' k hk).2)⟩, o1, fun x hx => ?_, hpost⟩
     · rcases mem_cons.1 hg with hg | hg
       · obtain ⟨j, hj, _⟩ := o2 g hg.symm; exact hR.olt j g hj
       · obtain ⟨k, _, hk⟩ := hmap g hg; exact hR.olt k g hk
     · obtain ⟨j, hj, hjH⟩ := o2 g hg; obtain ⟨k, hkm, hk⟩ := hmap g hm; have := hks k hkm; rw [hR.inj k j g hk hj] at this; rw [hjH] at this; cases this
     · obtain ⟨k, hk, rfl⟩ := mem_map.1 hx; exact (hks' k hk).1
   rcases he with rfl | rfl
   · exact hfin
   · exact hfin
section
variable {rs : List ResultVar} {r : ResultVar} {y : AV} {ys : List AV} {t : Nat} {ty : TypeId}
end
end Go.Vw
namespace Go.Vw
open Go.RowKit Go.Proofs Go.Sort
variable {P : Program} {f : FuncId}
theorem c9Q {ρk : Go.Shelf.Ren} (L7 : SlLaysZ.n7 P ρk) (e7 : Enters P (ρk.f 7)) (g : Nat) (ks vs : List D) (bs : List Nat) (clk : Nat) :
   F5 P (ρk.f 7) [.d (.map (.map (some g)) ks vs bs clk)] [] (fun r hs' => ∃ q, r = .d (.raw (a9E (ρk.f 10) q)) ∧ hs' = [.hb (.pointer (some ⟨q, 0, none⟩)) (ρk.t 23) (.map (.map (some g)) ks vs bs clk)]) := by
 refine ⟨e7, fun w L vals hlok hgl hrc _ _ => ?_⟩; simp only [RCs] at hrc; obtain ⟨v, us, rfl, hv, rfl⟩ := hrc; have hv' : RepV w L (.map (.map (some g)) ks vs bs clk) v := hv; obtain ⟨g', es, rfl, hg, _⟩ := a2A hv'; simp only [Value.map.injEq, Option.some.injEq] at hg; subst hg; have h := callsIn_wide.1 (AnyZ.keys_in L7 Fence.wide 5 trivial rfl (some g) w); refine Calls.mono h ?_; rintro e w' ⟨rfl, rfl⟩; have hS : F4 w L (w.alloc (.cells #[.map (some g)] (ρk.t 23))) (a1o L w.heap.size 0) noB := F4.alloc hlok _ 0; refine ⟨_, L, none, .d (.raw (a9E (ρk.f 10) w.heap.size)), [.hb (.pointer (some ⟨w.heap.size, 0, none⟩)) (ρk.t 23) (.map (.map (some g)) ks vs bs clk)], rfl, ⟨rfl, rfl, rfl, by simp, fun k hk _ => Below.heap_alloc _ _ _ hk, Nat.le_refl _⟩, fun b q h => ?_, fun _ _ _ _ => Iff.rfl, fun g hg => ?_, ⟨fun g hg => (by cases hg), ⟨fun g _ hm => (by simp at hm), trivial⟩⟩, RepV.raw (by simp [a9E, Value.oneCell']) rfl, fun x hx => ?_, w.heap.size, rfl, rfl⟩
 · have := hlok b q h; simp; omega
 · simp only [map_cons, map_nil, mem_cons, not_mem_nil, or_false, B7] at hg; rcases hg with hg | hg
   · cases hg
   · cases hg
     exact ⟨by simp, .inl (Nat.le_refl _)⟩
 · simp only [mem_singleton] at hx; subst hx; refine ⟨rfl, w.heap.size, #[.map (some g)], rfl, rfl, World.alloc_heap_new w _, ?_, fun o hL => ?_⟩
   · have : Ext w L (w.alloc (.cells #[.map (some g)] (ρk.t 23))) L := fun b q hq => ⟨hq, ((hS.ext b q hq).2)⟩
     exact (hv'.mono this).cell rfl
   · have := hlok _ _ hL; omega
theorem c3t {ρ ρk : Go.Shelf.Ren} (L8 : SlLaysZ.n8 P ρ) (Lk : SlLaysZ.n10 P ρk) (e8 : Enters P (ρ.f 8))
   (eg : ∀ args w, (callFunc (ρk.f 10) args).run P w = .ok (.enter (ρk.f 10) args) w) (ht : ρk.t 26 = ρ.t 26) (hlt : ρ.t 26 < 100000) (hk : P.underlying (ρ.t 26) = some .string) (hinfo : (P.info? (ρ.t 26)).map (·.size) = some 1)
   (g q T : Nat) (ss0 : List Str) (vs : List D) (bs : List Nat) (clk : Nat) (hv0 : vs.length = ss0.length) (hl : ss0.length ≤ 1000000) (hm : ∀ s ∈ ss0, length s ≤ maxLen) :
   F5 P (ρ.f 8) [.d (.raw (a9E (ρk.f 10) q))] [.hb (.pointer (some ⟨q, 0, none⟩)) T (.map (.map (some g)) (ss0.map .str) vs bs clk)]
     (fun r hs' => (∃ ss, Perm ss ss0 ∧ r = .own true (ρ.t 26) (ss.map .str)) ∧ hs' = [.hb (.pointer (some ⟨q, 0, none⟩)) T (.map (.map (some g)) (ss0.map .str) vs bs clk)]) := by
 refine ⟨e8, fun w L vals hlok hgl hrc hrh hap => ?_⟩; have hmx : (1000000 : Nat) ≤ maxLen := (by decide); simp only [RCs] at hrc; obtain ⟨v, us, rfl, hv, rfl⟩ := hrc; have hv' : RepV w L (.raw (a9E (ρk.f 10) q)) v := hv; obtain rfl := hv'.raw_inv; have hbH := hrh (.hb (.pointer (some ⟨q, 0, none⟩)) T (.map (.map (some g)) (ss0.map .str) vs bs clk)) (by simp); obtain ⟨g1, C, k1, k2, k3, k4, k5⟩ : Y4 w L (some q) T (.map (.map (some g)) (ss0.map .str) vs bs clk) (.pointer (some ⟨q, 0, none⟩)) := hbH.2; cases k1
 obtain ⟨u, hu, hu2⟩ := a9A k4 rfl; have hCr : RepV w L (.map (.map (some g)) (ss0.map .str) vs bs clk) u := RepV.of_cell (by rw [← hu]; exact k4) rfl hu2; obtain ⟨g2, es, rfl, hg, m3, m4, m5, m6, m7, m8, m9, m10, m11⟩ := a2A hCr; simp only [Value.map.injEq, Option.some.injEq] at hg; subst hg; have hq : q < w.heap.size := (Array.getElem?_eq_some_iff.1 k3).1; have hcell : w.cell? ⟨q, 0, none⟩ = some (.map (some g)) := by
   have : C = #[.map (some g)] := by apply Array.ext'; simpa using hu
   simp [World.cell?, k3, this]
 have hz : ((ss0.map D.str).zip vs).map (·.1) = ss0.map .str := a6u (by simp [hv0]); have hzl : ((ss0.map D.str).zip vs).length = ss0.length := (by simp [hv0]); have hfit : ∀ p ∈ (ss0.map D.str).zip vs, ∃ s ∈ ss0, p.1 = .str s := fun p hp => by
   have : p.1 ∈ ss0.map D.str := by rw [← hz]; exact mem_map.2 ⟨p, hp, rfl⟩
   obtain ⟨s, hs, e⟩ := mem_map.1 this; exact ⟨s, hs, e.symm⟩
 obtain ⟨D0, hown, hsz, hperm⟩ := d0H (P := P) (kt := ρ.t 26) m3 (Perm.refl _) m5 (by rw [hz]; exact m9) (fun p hp => by
   obtain ⟨s, _, e⟩ := hfit p hp; rw [e]; simp [D8, Q5, hk]) (by rw [← m6]; exact m10) (fun e he => m11 _ (by rw [m6]; exact mem_map.2 ⟨e, he, rfl⟩)) hk (by omega) (fun p hp => by
   obtain ⟨s, hs, e⟩ := hfit p hp; rw [e]; exact hm s hs)
 have hkeys : ((ss0.map D.str).zip vs).map (fun p => b1g p.1) = ss0 := by
   have : ((ss0.map D.str).zip vs).map (fun p => b1g p.1) = (((ss0.map D.str).zip vs).map (·.1)).map b1g := by simp [Function.comp_def]
   rw [this, hz, map_map]; exact (map_congr_left fun s _ => rfl).trans (map_id _)
 rw [hkeys] at hperm; have hseq := AnyZ.keys_gives (ρ := ρk) Lk Fence.wide 3 trivial rfl (by omega) q g _ D0 w hq hcell (by rw [ht]; exact hown); have hbytes : Maps.size D0 * 16 ≤ 140737488355328 := (by omega); have h := b7s (callsIn_wide.1 (AnyZ.collect_in L8 Fence.wide 5 trivial trivial rfl (by omega) (ρk.f 10) #[.pointer (some ⟨q, 0, none⟩)] trivial eg _ (Maps.size D0) (by omega) hbytes w hseq)); refine Calls.mono h ?_; rintro e w' ⟨⟨v, ss, rfl, hS, hrow, hnil, hbl⟩, hdr⟩; have hps : Perm ss ss0 := hS.trans hperm; have hlen : ss.length = ss0.length := hps.length_eq; have hgrow : E8 w w' (fun c => some c ∈ [AV.hb (.pointer (some ⟨q, 0, none⟩)) T (.map (.map (some g)) (ss0.map .str) vs bs clk)].map B7) := ⟨hbl.os, hbl.tape, hbl.output, hbl.size, fun k hk _ => hbl.block k hk, hdr ⟨v, rfl⟩⟩; have hS' : F4 w L w' L noB := ⟨fun c o hL => ⟨hL, fun u hu => by
   rw [G7 (hbl.block c (hlok c o hL))]; exact hu⟩, fun c hc _ => hbl.block c hc, fun _ _ _ _ => Iff.rfl⟩
 have hob : ∀ g, v.ownBlock = some g → w.heap.size ≤ g ∧ g < w'.heap.size := fun g hg => by
   rcases hrow.2 with ⟨rfl, _⟩ | ⟨g', cap, cur, rfl, h1, h2, _⟩
   · cases hg
   · have : g' = g := (by simpa [Value.ownBlock] using hg); subst this; exact ⟨h1, (Array.getElem?_eq_some_iff.1 h2).1⟩
 refine ⟨v, L, v.ownBlock, .own true (ρ.t 26) (ss.map .str), _, rfl, hgrow, fun c o hL => Nat.lt_of_lt_of_le (hlok c o hL) hbl.size, fun _ _ _ _ => Iff.rfl, fun g hg => ?_, ⟨fun g hg hmm => ?_, hap⟩, ?_, fun x hx => ?_, ⟨ss, hps, rfl⟩, rfl⟩
 · rcases mem_cons.1 hg with hg | hg
   · exact ⟨(hob g hg.symm).2, .inl (hob g hg.symm).1⟩
   · refine ⟨?_, .inr hg⟩; simp only [map_cons, map_nil, mem_cons, not_mem_nil, or_false, B7, Option.some.injEq] at hg; have := hbl.size; omega
 · have := (hob g hg).1; simp only [map_cons, map_nil, mem_cons, not_mem_nil, or_false, B7, Option.some.injEq] at hmm; omega
 · refine ⟨ss.map fun s => [encStr s], 1, by rw [X7 hlt]; exact hinfo, ?_, fun c hc => ?_, ⟨?_, ?_⟩, fun g hg => ⟨hg, fun o => ⟨fun hL => ?_, fun h => (by simp at h)⟩⟩⟩
   · have : ∀ l : List Str, A6 w' L (l.map .str) (l.map fun s => [encStr s]) := fun l => by
       induction l with
       | nil => simp [A6]
       | cons s l ih =>
         simp only [map_cons, A6]; exact ⟨_, _, rfl, by simp [Rep, encStr], ih⟩
     exact this _
   · obtain ⟨s, _, rfl⟩ := mem_map.1 hc; rfl
   · have : ∀ l : List Str, ((l.map fun s => [encStr s]).flatten) = l.map encStr := fun l => by
       induction l with
       | nil => rfl
       | cons s l ih => simp [ih]
     rw [this]; simp
   · have e1 : ∀ l : List Str, ((l.map fun s => [encStr s]).flatten) = l.map encStr := fun l => by
       induction l with
       | nil => rfl
       | cons s l ih => simp [ih]
     rw [e1, length_map]; rcases hrow.2 with ⟨h1, h2⟩ | ⟨g', cap, cur, h1, h2, h3, h4, h5, h6, h7⟩
     · exact .inl ⟨h1, h2⟩
     · exact .inr ⟨g', cap, cur, h1, by rw [X7 hlt, a7J hlt]; exact h3, h4, h5, by omega, h7⟩
   · have := hlok _ _ hL; have := (hob g hg).1; omega
 · simp only [mem_singleton] at hx; subst hx; exact RH.step hS' (fun g hg => ⟨(hbH.locked hg).1, id⟩) hbH
end Go.Vw
namespace Go.Vw
open Go.RowKit Go.Proofs Go.Sort
variable {P : Program} {f : FuncId} {w w' : World} {L L' : Nat → Nat → Prop}
def a7C : AV → Bool
 | .hb _ _ d => a1q d
 | .hm _ _ m none => S8 (m.map (·.1)) && S8 (m.map (·.2))
 | _ => false
theorem I6.cells (hx : a5t w L L') : ∀ {m : List (D × D)} {es : List MapEntry}, S8 (m.map (·.1)) = true → S8 (m.map (·.2)) = true → I6 w L m es → I6 w L' m es
 | [], _, _, _, h => h
 | p :: m, _, h1, h2, h => by
   obtain ⟨e, es, rfl, h3, h4, h5⟩ := h; simp only [map_cons, S8, Bool.and_eq_true] at h1 h2; exact ⟨e, es, rfl, ⟨Rep.cells hx _ _ h1.1 h3.1, h3.2⟩, ⟨Rep.cells hx _ _ h2.1 h4.1, h4.2⟩, h5.cells hx h1.2 h2.2⟩
theorem a9n {l : List D} : S8 l = true ↔ ∀ d ∈ l, a1q d = true := by
 induction l with
 | nil => simp [S8]
 | cons d l ih => simp [S8, ih]
theorem RH.cells (hx : a5t w L L') (hsub : ∀ b q, L' b q → L b q) : ∀ {x : AV}, a7C x = true → RH P w L x → RH P w L' x
 | .hb u e d, hm, h => by
   obtain ⟨g, C, e1, e2, e3, e4, e5⟩ : Y4 w L (B7 (.hb u e d)) e d u := h.2; exact ⟨rfl, (show Y4 w L' (B7 (.hb u e d)) e d u from ⟨g, C, e1, e2, e3, Rep.cells hx _ _ hm e4, fun o ho => e5 o (hsub _ _ ho)⟩)⟩
 | .hm u kt m none, hm, h => by
   simp only [a7C, Bool.and_eq_true] at hm; obtain ⟨g, m', es, clk, e1, e2, e3, e4, e5, e6, e7, e8, e9, e10, e11⟩ : a0d P w L (B7 (.hm u kt m none)) kt m none u := h.2; refine ⟨rfl, (show a0d P w L' (B7 (.hm u kt m none)) kt m none u from ⟨g, m', es, clk, e1, e2, e3, fun o ho => e4 o (hsub _ _ ho), e5, e6.cells hx ?_ ?_, e7, e8, e9, e10, e11⟩)⟩
   · rw [a9n] at hm ⊢; intro d hd; exact hm.1 d ((e5.map _).mem_iff.1 hd)
   · have h2 := hm.2; rw [a9n] at h2 ⊢; intro d hd; exact h2 d ((e5.map _).mem_iff.1 hd)
 | .hm _ _ _ (some _), hm, _ => by simp [a7C] at hm
 | .undef, hm, _ | .d _, hm, _ | .nils, hm, _ | .full _, hm, _ | .own .., hm, _ | .tup _, hm, _ | .hs .., hm, _ | .box _, hm, _ | .bor .., hm, _ | .adr .., hm, _ | .eadr .., hm, _ | .iter .., hm, _ | .sub .., hm, _ | .mit .., hm, _ => by simp [a7C] at hm
theorem F5.lendN {ds : List D} {hs : List AV} {Post : AV → List AV → Prop} (hE : Enters P f) (h : ∀ w L, (∀ x ∈ hs, RH P w L x) → ∃ ds', LnL P w L hs ds ds' ∧ F5 P f (ds'.map .d) [] Post) (hm : ∀ r hs2, Post r hs2 → T6 r = true ∧ ∀ x ∈ hs2, a7C x = true) :
   F5 P f (ds.map .d) hs (fun r hs' => ∃ hs2, hs' = hs ++ hs2 ∧ Post r hs2) := by
 refine ⟨hE, fun w L vals hl hg hrc hrh hap => ?_⟩; obtain ⟨ds', hln, hc⟩ := h w L hrh; have hb : ∀ g, some g ∈ hs.map B7 → g < w.heap.size ∧ ∀ q, ¬ L g q := fun g hg => by
   obtain ⟨x, hx, e⟩ := mem_map.1 hg; exact (hrh x hx).locked e
 refine (hc.2 w (a5q w L hs) vals (fun b q hq => hq.elim (hl b q) fun h => (hb b h.1).1) (hg.mono (a5I _)) (RCs.lnL hrh hln hrc) (by simp) trivial).mono ?_; rintro x w' ⟨v, L', og', r, hs2, rfl, hgr, hlok', hold', hnew', hap2, hres, hrh2, hpost⟩; obtain ⟨hmr, hmh⟩ := hm r hs2 hpost; have hgr' : E8 w w' noB := hgr.sub (fun b hb => by simp at hb); have hL : ∀ b q, b < w.heap.size → ((L' b q ∧ some b ∉ hs.map B7) ↔ L b q) := by
   intro b q hbs; rw [hold' b q hbs (by simp)]; constructor
   · rintro ⟨h1, h2⟩; exact h1.elim id fun h => absurd h.1 h2
   · intro h1; exact ⟨.inl h1, fun h2 => (hb b h2).2 q h1⟩
 have hS : F4 w L w' (fun b q => L' b q ∧ some b ∉ hs.map B7) noB := by
   refine ⟨fun b q hq => ?_, fun b hb hne => hgr'.block b hb hne, fun b q hb _ => hL b q hb⟩; have hbs := hl b q hq; refine ⟨(hL b q hbs).2 hq, fun u hu => ?_⟩; rw [G7 (hgr'.block b hbs id)]; exact hu
 have hnew : ∀ g, some g ∈ og' :: hs2.map B7 → g < w'.heap.size ∧ w.heap.size ≤ g := fun g hg => by
   have := hnew' g hg; exact ⟨this.1, this.2.elim id fun h => by simp at h⟩
 have hnin : ∀ g, w.heap.size ≤ g → some g ∉ hs.map B7 := fun g hg hm => by have := (hb g hm).1; omega
 have hcell : a5t w' L' (fun b q => L' b q ∧ some b ∉ hs.map B7) := fun b o v hv hq => by
   refine ⟨hq, fun hm => ?_⟩; have h1 := hb b hm; rcases (hold' b o h1.1 (by simp)).1 hq with h2 | h2
   · exact h1.2 o h2
   · have h3 := b0h h2.2; have h4 := hgr'.block b h1.1 id; simp only [World.cell?, h4] at hv h3; rw [h3] at hv; cases hv
 have hap3 : J7 (og' :: (hs ++ hs2).map B7) := by
   obtain ⟨q1, q2⟩ := hap2; rw [map_append]; refine ⟨fun g hg hm => ?_, ?_⟩
   · rcases mem_append.1 hm with hm | hm
     · exact hnin g (hnew g (by rw [hg]; simp)).2 hm
     · exact q1 g hg hm
   · have hdis : ∀ g, some g ∈ hs2.map B7 → some g ∉ hs.map B7 := fun g hg => hnin g (hnew g (mem_cons_of_mem _ hg)).2
     clear hc hrc hrh hmh hrh2 hpost hnew hnew' hb hS hcell hL hold' hln hnin; generalize hs.map B7 = A at *; generalize hs2.map B7 = B at *
     induction A with
     | nil => exact q2
     | cons a A ih =>
       obtain ⟨p1, p2⟩ := hap; refine ⟨fun g hg hm => ?_, ih p2 fun g hg hm => hdis g hg (by simp [hm])⟩; rcases mem_append.1 hm with hm | hm
       · exact p1 g hg hm
       · exact hdis g hm (by rw [hg]; simp)
 refine ⟨v, fun b q => L' b q ∧ some b ∉ hs.map B7, og', r, hs ++ hs2, rfl, hgr.sub (fun b hb => by simp at hb), fun b q hq => hlok' b q hq.1, fun b q hbs _ => hL b q hbs, fun g hg => ?_, hap3, ?_, fun x hx => ?_, hs2, rfl, hpost⟩
 · rcases mem_cons.1 hg with hg | hg
   · have := hnew g (by rw [hg]; simp); exact ⟨this.1, .inl this.2⟩
   · rw [map_append] at hg; rcases mem_append.1 hg with hg | hg
     · exact ⟨Nat.lt_of_lt_of_le (hb g hg).1 hgr.size, .inr hg⟩
     · have := hnew g (mem_cons_of_mem _ hg); exact ⟨this.1, .inl this.2⟩
 · refine RC.cells hcell (fun g hg o => ⟨fun h => ⟨h, hnin g (hnew g (by rw [hg]; simp)).2⟩, fun h => h.1⟩) r v hmr hres
 · rcases mem_append.1 hx with hx | hx
   · exact RH.step hS (fun g hg => ⟨((hrh x hx).locked hg).1, id⟩) (hrh x hx)
   · exact (hrh2 x hx).cells hcell (fun b q h => h.1) (hmh x hx)
def leH : AV → AV → Prop := fun x y => x = y ∨ ∃ u kt m m2, x = .hm u kt m none ∧ y = .hm u kt m2 none ∧ Perm m m2
theorem RH.le {x y : AV} (h : leH x y) (hr : RH P w L x) : RH P w L y ∧ B7 y = B7 x := by
 rcases h with rfl | ⟨u, kt, m, m2, rfl, rfl, hp⟩
 · exact ⟨hr, rfl⟩
 · obtain ⟨g, m', es, clk, e1, e2, e3, e4, e5, e6, e7, e8, e9, e10, e11⟩ : a0d P w L (B7 (.hm u kt m none)) kt m none u := hr.2; subst e2; exact ⟨⟨rfl, (show a0d P w L (some g) kt m2 none (.map (some g)) from ⟨g, m', es, clk, rfl, rfl, e3, e4, e5.trans hp, e6, (hp.map _).nodup_iff.1 e7, fun p hq => e8 p (hp.mem_iff.2 hq), e9, e10, e11⟩)⟩, rfl⟩
def a6k : List AV → List AV → Prop
 | [], ys => ys = []
 | x :: xs, ys => ∃ y zs, ys = y :: zs ∧ leH x y ∧ a6k xs zs
theorem a6k.ok : ∀ {xs ys : List AV}, a6k xs ys → (∀ x ∈ xs, RH P w L x) → (∀ y ∈ ys, RH P w L y) ∧ ys.map B7 = xs.map B7
 | [], _, h, _ => by obtain rfl := h; simp
 | x :: xs, _, h, hr => by
   obtain ⟨y, zs, rfl, h1, h2⟩ := h; obtain ⟨a, b⟩ := (hr x (by simp)).le h1; obtain ⟨c, d⟩ := h2.ok fun z hz => hr z (by simp [hz])
   refine ⟨fun z hz => (mem_cons.1 hz).elim (fun e => e ▸ a) (c z), by rw [map_cons, map_cons, b, d]⟩
theorem a6k.app : ∀ {a b c d : List AV}, a6k a b → a6k c d → a6k (a ++ c) (b ++ d)
 | [], _, _, _, h, h2 => by obtain rfl := h; exact h2
 | x :: a, _, _, _, h, h2 => by
   obtain ⟨y, zs, rfl, h3, h4⟩ := h; exact ⟨y, zs ++ _, rfl, h3, h4.app h2⟩
theorem F5.relax {args hs : List AV} {Post Post' : AV → List AV → Prop} (h : F5 P f args hs Post) (hp : ∀ r hs', Post r hs' → ∃ hs2, a6k hs' hs2 ∧ Post' r hs2) : F5 P f args hs Post' := by
 refine ⟨h.1, fun w L vals hl hg hr h1 h2 => (h.2 w L vals hl hg hr h1 h2).mono ?_⟩; rintro x w' ⟨v, L', og', r, hs', rfl, a1, a2, a3, a4, a5, a6, a7, a8⟩; obtain ⟨hs2, b1, b2⟩ := hp _ _ a8; obtain ⟨c1, c2⟩ := b1.ok a7; exact ⟨v, L', og', r, hs2, rfl, a1, a2, a3, by rw [c2]; exact a4, by rw [c2]; exact a5, a6, c1, b2⟩
theorem c0X {ρ : Go.Shelf.Ren} (Lw : SlLaysW.n5 P ρ) (e5 : Enters P (ρ.f 5)) (kt : TypeId) (u : Value) (ks vs : List D) (bs : List Nat) (clk : Nat) (hf : ∀ k ∈ ks, D8 P kt k = true) :
   F5 P (ρ.f 5) [.d (.map u ks vs bs clk)] [] (fun r hs' => ∃ q, r = .d (.raw (.map (some q))) ∧ hs' = [.hm (.map (some q)) kt (ks.zip vs) none]) := by
 refine ⟨e5, fun w L vals hlok hgl hrc _ _ => ?_⟩; simp only [RCs] at hrc; obtain ⟨v, us, rfl, hv, rfl⟩ := hrc; have hv' : RepV w L (.map u ks vs bs clk) v := hv; obtain ⟨g, es, rfl, hg, h3, h4, h6, h7, h8, h9, h10, h11, h12⟩ := a2A hv'; refine Calls.mono (AnyW.maps_Clone Lw g es clk w h3) ?_; rintro e w' ⟨rfl, rfl⟩; have hS : F4 w L (w.alloc (.map es clk)) (a1o L w.heap.size 0) noB := F4.alloc hlok _ 0; have hX : Ext w L (w.alloc (.map es clk)) L := fun b q hq => ⟨hq, ((hS.ext b q hq).2)⟩
 have hzf : (ks.zip vs).map (·.1) = ks := by
   rw [map_fst_zip]; omega
 refine ⟨_, L, none, .d (.raw (.map (some w.heap.size))), [.hm (.map (some w.heap.size)) kt (ks.zip vs) none], rfl, ⟨rfl, rfl, rfl, by simp, fun k hk _ => Below.heap_alloc _ _ _ hk, Nat.le_refl _⟩, fun b q h => ?_, fun _ _ _ _ => Iff.rfl, fun g hg => ?_, ⟨fun g hg => (by cases hg), ⟨fun g _ hm => (by simp at hm), trivial⟩⟩, RepV.raw (u := .map (some w.heap.size)) rfl rfl, fun x hx => ?_, w.heap.size, rfl, rfl⟩
 · have := hlok b q h; simp; omega
 · simp only [map_cons, map_nil, mem_cons, not_mem_nil, or_false, B7] at hg; rcases hg with hg | hg
   · cases hg
   · cases hg
     exact ⟨by simp, .inl (Nat.le_refl _)⟩
 · simp only [mem_singleton] at hx; subst hx; refine ⟨rfl, (show a0d P (w.alloc (.map es clk)) L (some w.heap.size) kt (ks.zip vs) none (.map (some w.heap.size)) from ⟨w.heap.size, ks.zip vs, es, clk, rfl, rfl, World.alloc_heap_new w _, fun o hL => ?_, Perm.refl _, h6.mono hX, by rw [hzf]; exact h10, fun p hp => ?_, by rw [← h7]; exact h11, fun e he => ?_, fun E' h => by cases h⟩)⟩
   · have := hlok _ _ hL; omega
   · exact hf p.1 (by rw [← hzf]; exact mem_map.2 ⟨p, hp, rfl⟩)
   · exact h12 e.born (by rw [h7]; exact mem_map.2 ⟨e, he, rfl⟩)
end Go.Vw