/-
  The abstract walk through a translated function, part 4 of 4: its data, its operations, and that it is sound, for every program. No conditions beyond those that each theorem states.
-/import Derived.Test.YtnknfnfinhagoaaGreatDoorWc
import Derived.Shelf.SlIter.Collect
open List
set_option linter.unusedSimpArgs false
set_option linter.unusedVariables false
set_option maxHeartbeats 4000000
namespace Go.Vw
open Go.RowKit Go.Proofs
variable {P : Program} {f : FuncId} {w w' : World} {L L' : Nat -> Nat -> Prop}
mutual
inductive Ln (P : Program) (w : World) (L : Nat -> Nat -> Prop) (hs : List AV) : D -> D -> Prop
 | same (d : D) : Ln P w L hs d d
 | box {u : Value} {e : TypeId} {d d' : D} : AV.hb u e d ∈ hs -> Ln P w L hs d d' -> Ln P w L hs (.raw u) (.ref d')
 | map {g : Nat} {kt : TypeId} {m m' : List (D × D)} {E : Option (List (D × Nat) × Nat)} {es : Array MapEntry} {clk : Nat} {vs' : List D} : AV.hm (.map (some g)) kt m E ∈ hs -> w.heap[g]? = some (.map es clk) -> M5 w L m' es.toList -> Perm m' m ->
     LnL P w L hs (m'.map (·.2)) vs' -> Ln P w L hs (.raw (.map (some g))) (.map (.map (some g)) (m'.map (·.1)) vs' (es.toList.map (·.born)) clk)
 | agg {ds ds' : List D} : LnL P w L hs ds ds' -> Ln P w L hs (.agg ds) (.agg ds')
inductive LnL (P : Program) (w : World) (L : Nat -> Nat -> Prop) (hs : List AV) : List D -> List D -> Prop
 | nil : LnL P w L hs [] []
 | cons {d d' : D} {ds ds' : List D} : Ln P w L hs d d' -> LnL P w L hs ds ds' -> LnL P w L hs (d :: ds) (d' :: ds')
end
theorem Ln.isAgg {hs : List AV} {d d' : D} (h : Ln P w L hs d d') : d'.isAgg = d.isAgg := by cases h <;> rfl
theorem LnL.aggs {hs : List AV} : ∀ {ds ds' : List D}, LnL P w L hs ds ds' -> ds'.map D.isAgg = ds.map D.isAgg
 | _, _, .nil => rfl
 | _, _, .cons h1 h2 => by rw [map_cons, map_cons, h1.isAgg, h2.aggs]
def c0n (w : World) (b o : Nat) : Prop := (∃ C e m, w.heap[b]? = some (.cells C e m) /\ o = C.size) \/ ∃ es c, w.heap[b]? = some (.map es c) /\ o = 0
theorem b6n {b o : Nat} (h : c0n w b o) : w.cell? ⟨b, o, none⟩ = none := by
 rcases h with ⟨C, e, m, h1, rfl⟩ | ⟨es, c, h1, rfl⟩ <;> simp [World.cell?, h1]
def a6p (w : World) (L : Nat -> Nat -> Prop) (hs : List AV) : Nat -> Nat -> Prop := fun b o => L b o \/ (some b ∈ hs.map C9 /\ c0n w b o)
theorem a8u (hs : List AV) : Ext w L w (a6p w L hs) := fun _ _ h => ⟨.inl h, fun _ h => h⟩
theorem M5.reps : ∀ {m : List (D × D)} {es : List MapEntry}, M5 w L m es -> A8 w L (m.map (·.1)) (es.map fun e => e.key.cells.toList) /\ A8 w L (m.map (·.2)) (es.map fun e => e.val.cells.toList) /\
   (m.map (·.1)).map D.isAgg = es.map (fun e => K7 e.key) /\ (m.map (·.2)).map D.isAgg = es.map fun e => K7 e.val
 | [], _, h => by simp only [M5] at h; subst h; simp [A8]
 | p :: m, _, h => by
   obtain ⟨e, es, rfl, h1, h2, h3⟩ := h; obtain ⟨i1, i2, i3, i4⟩ := h3.reps; refine ⟨?_, ?_, ?_, ?_⟩
   . simp only [map_cons, A8]; exact ⟨_, _, rfl, h1.1, i1⟩
   . simp only [map_cons, A8]; exact ⟨_, _, rfl, h2.1, i2⟩
   . simp only [map_cons, i3, h1.2]
   . simp only [map_cons, i4, h2.2]
mutual
theorem Rep.ln {hs : List AV} (hr : ∀ x ∈ hs, RH P w L x) : ∀ {d d' : D} {cs : List Value}, Ln P w L hs d d' -> Rep w L d cs -> Rep w (a6p w L hs) d' cs
 | _, _, _, .same d, h => Rep.mono (a8u hs) _ _ h
 | _, _, _, .box (u := u) (e := e) (d := d) hm h1, h => by
   simp only [Rep] at h; obtain ⟨rfl, _⟩ := h; obtain ⟨g, C, g1, g2, g3, g4, g5⟩ : Y4 w L (C9 (.hb u e d)) e d u := (hr _ hm).2; simp only [Rep]; refine ⟨g, 0, C.toList, by rw [g2]; rfl, Rep.ln hr h1 g4, fun k v hk => ⟨?_, .inr ⟨C, e, _, g3, .inr ⟨mem_map.2 ⟨_, hm, g1⟩, .inl ⟨C, e, _, g3, rfl⟩⟩⟩⟩⟩; simp only [World.cell?, g3]; simpa using hk
 | _, _, _, .map (g := g) (kt := kt) (m := m) (E := E) hm hh he hp hv, h => by
   simp only [Rep] at h; obtain ⟨rfl, _⟩ := h; obtain ⟨g', m2, es2, clk2, k1, k2, k3, k4, k5, k6, k7, k8, k9, k10, k11⟩ : a2a P w L (C9 (.hm (.map (some g)) kt m E)) kt m E (.map (some g)) := (hr _ hm).2; simp only [Value.map.injEq, Option.some.injEq] at k2; subst k2; rw [hh] at k3; simp only [Option.some.injEq, Obj.map.injEq] at k3; obtain ⟨rfl, rfl⟩ := k3; obtain ⟨e1, e2, e3, e4⟩ := he.reps; simp only [Rep]; refine ⟨g, _, _, _, trivial, rfl, hh, .inr ⟨mem_map.2 ⟨_, hm, rfl⟩, .inr ⟨_, _, hh, rfl⟩⟩, A8.mono (a8u hs) _ _ e1, A8.ln hr hv e2, rfl, rfl, e3, by rw [hv.aggs, e4], rfl, (hp.map _).nodup_iff.2 k7, k9, fun b hb => ?_⟩; obtain ⟨e, he, rfl⟩ := mem_map.1 hb; exact k10 e he
 | _, _, _, .agg hL, h => by
   simp only [Rep] at h ⊢; obtain ⟨css, h1, h2⟩ := h; exact ⟨css, A8.ln hr hL h1, h2⟩
theorem A8.ln {hs : List AV} (hr : ∀ x ∈ hs, RH P w L x) : ∀ {ds ds' : List D} {css : List (List Value)}, LnL P w L hs ds ds' -> A8 w L ds css -> A8 w (a6p w L hs) ds' css
 | _, _, _, .nil, h => h
 | _, _, _, .cons h1 h2, h => by
   simp only [A8] at h ⊢; obtain ⟨c, cs, e, h3, h4⟩ := h; exact ⟨c, cs, e, Rep.ln hr h1 h3, A8.ln hr h2 h4⟩
end
mutual
def a2o : D -> Bool
 | .sl ds => a1a ds
 | .agg ds => a1a ds
 | .ref _ => false
 | .clo _ _ => false
 | .bnd _ _ => false
 | .map _ _ _ _ _ => false
 | _ => true
def a1a : List D -> Bool
 | [] => true
 | d :: ds => a2o d && a1a ds
end
mutual
def V8 : AV -> Bool
 | .d y => a2o y
 | .own _ _ l => a1a l
 | .tup xs => a7P xs
 | .nils => true
 | .undef => true
 | _ => false
def a7P : List AV -> Bool
 | [] => true
 | x :: xs => V8 x && a7P xs
end
def b0y (w : World) (L L' : Nat -> Nat -> Prop) : Prop := ∀ b o v, w.cell? ⟨b, o, none⟩ = some v -> L b o -> L' b o
mutual
theorem Rep.cells {w : World} {L L' : Nat -> Nat -> Prop} (hx : b0y w L L') : ∀ (d : D) (cs : List Value), a2o d = true -> Rep w L d cs -> Rep w L' d cs
 | .bool _, _, _, h => h
 | .int _ _, _, _, h => h
 | .str _, _, _, h => h
 | .nilp, _, _, h => h
 | .raw _, _, _, h => h
 | .sl ds, _, hm, h => by
   simp only [a2o] at hm; simp only [Rep] at h ⊢; obtain ⟨a, cap, css, sz, h1, h2, h3, h4, h5⟩ := h; refine ⟨a, cap, css, sz, h1, A8.cells hx ds css hm h2, h3, h4, fun hn => ?_⟩; obtain ⟨b, off, ha, hat⟩ := h5 hn; exact ⟨b, off, ha, fun k v hk => ⟨(hat k v hk).1, hx _ _ _ (hat k v hk).1 (hat k v hk).2⟩⟩
 | .agg ds, _, hm, h => by
   simp only [a2o] at hm; simp only [Rep] at h ⊢; obtain ⟨css, h1, h2⟩ := h; exact ⟨css, A8.cells hx ds css hm h1, h2⟩
 | .ref _, _, hm, _ => by simp [a2o] at hm
 | .clo _ _, _, hm, _ => by simp [a2o] at hm
 | .bnd _ _, _, hm, _ => by simp [a2o] at hm
 | .map _ _ _ _ _, _, hm, _ => by simp [a2o] at hm
theorem A8.cells {w : World} {L L' : Nat -> Nat -> Prop} (hx : b0y w L L') : ∀ (ds : List D) (css : List (List Value)), a1a ds = true -> A8 w L ds css -> A8 w L' ds css
 | [], _, _, h => h
 | d :: ds, _, hm, h => by
   simp only [a1a, Bool.and_eq_true] at hm; simp only [A8] at h ⊢; obtain ⟨c, cs, e, h1, h2⟩ := h; exact ⟨c, cs, e, Rep.cells hx d c hm.1 h1, A8.cells hx ds cs hm.2 h2⟩
end
mutual
theorem RC.cells {L L' : Nat -> Nat -> Prop} (hx : b0y w L L') {og : Option Nat} (ho : ∀ g, og = some g -> ∀ o, L g o ↔ L' g o) : ∀ (x : AV) (v : Value), V8 x = true -> RC P w L og x v -> RC P w L' og x v
 | .undef, _, _, _ => by simp only [RC]
 | .d y, v, hm, h => by simp only [RC] at h ⊢; exact ⟨Rep.cells hx y _ hm h.1, h.2⟩
 | .nils, _, _, h => by simp only [RC] at h ⊢; exact h
 | .own m e l, v, hm, h => by
   simp only [RC] at h ⊢; obtain ⟨css, sz, h1, h2, h3, h4, h5⟩ := h; exact ⟨css, sz, h1, A8.cells hx _ _ hm h2, h3, h4, fun g hg => ⟨(h5 g hg).1, fun o => (ho g (h5 g hg).1 o).symm.trans ((h5 g hg).2 o)⟩⟩
 | .tup l, v, hm, h => by
   simp only [RC] at h ⊢; obtain ⟨vs, h1, h2⟩ := h; exact ⟨vs, h1, RCs.cells hx ho l vs hm h2⟩
 | .full _, _, hm, _ => by simp [V8] at hm
 | .bor .., _, hm, _ => by simp [V8] at hm
 | .box _, _, hm, _ => by simp [V8] at hm
 | .adr .., _, hm, _ => by simp [V8] at hm
 | .eadr .., _, hm, _ => by simp [V8] at hm
 | .iter .., _, hm, _ => by simp [V8] at hm
 | .hs .., _, hm, _ => by simp [V8] at hm
 | .hb .., _, hm, _ => by simp [V8] at hm
 | .sub .., _, hm, _ => by simp [V8] at hm
 | .hm .., _, hm, _ => by simp [V8] at hm
 | .mit .., _, hm, _ => by simp [V8] at hm
theorem RCs.cells {L L' : Nat -> Nat -> Prop} (hx : b0y w L L') {og : Option Nat} (ho : ∀ g, og = some g -> ∀ o, L g o ↔ L' g o) : ∀ (xs : List AV) (vs : List Value), a7P xs = true -> RCs P w L og xs vs -> RCs P w L' og xs vs
 | [], _, _, h => by simp only [RCs] at h ⊢; exact h
 | x :: xs, vs, hm, h => by
   simp only [a7P, Bool.and_eq_true] at hm; simp only [RCs] at h ⊢; obtain ⟨v, us, h1, h2, h3⟩ := h; exact ⟨v, us, h1, RC.cells hx ho x v hm.1 h2, RCs.cells hx ho xs us hm.2 h3⟩
end
theorem RCs.lnL {hs : List AV} (hr : ∀ x ∈ hs, RH P w L x) : ∀ {ds ds' : List D} {vs : List Value}, LnL P w L hs ds ds' -> RCs P w L none (ds.map .d) vs -> RCs P w (a6p w L hs) none (ds'.map .d) vs
 | _, _, _, .nil, h => by simpa [RCs] using h
 | _, _, _, .cons h1 h2, h => by
   simp only [map_cons, RCs] at h ⊢; obtain ⟨v, us, rfl, h3, h4⟩ := h; have h3' : RepV w L _ v := h3; refine ⟨v, us, rfl, ?_, RCs.lnL hr h2 h4⟩
   show RepV w (a6p w L hs) _ v
   exact ⟨Rep.ln hr h1 h3'.1, by rw [h3'.2, h1.isAgg]⟩
theorem RH.locked {x : AV} (h : RH P w L x) {g : Nat} (hg : C9 x = some g) : g < w.heap.size /\ ∀ q, ¬ L g q := by
 obtain ⟨h1, h2⟩ := h; cases x <;> simp [isH] at h1
 case hs u e l => exact RH.hs_lt ⟨rfl, h2⟩ hg
 case hb u e y =>
   obtain ⟨g', C, e1, e2, e3, e4, e5⟩ : Y4 w L (C9 (.hb u e y)) e y u := h2; rw [e1] at hg; obtain rfl := Option.some.inj hg; exact ⟨(Array.getElem?_eq_some_iff.1 e3).1, e5⟩
 case hm u kt m E =>
   obtain ⟨g', m', es, clk, e1, e2, e3, e4, e5⟩ : a2a P w L (C9 (.hm u kt m E)) kt m E u := h2; rw [e1] at hg; obtain rfl := Option.some.inj hg; exact ⟨(Array.getElem?_eq_some_iff.1 e3).1, e4⟩
theorem G1.lendL {ds : List D} {hs : List AV} {r : AV} (hE : Enters P f) (h : ∀ w L, (∀ x ∈ hs, RH P w L x) -> ∃ ds', LnL P w L hs ds ds' /\ Ctr P f (ds'.map .d) r) (hm : V8 r = true) :
   G1 P f (ds.map .d) hs (fun r' hs' => r' = r /\ hs' = hs) := by
 refine ⟨hE, fun w L vals hl hg hrc hrh hap => ?_⟩; obtain ⟨ds', hln, hc⟩ := h w L hrh; have hb : ∀ g, some g ∈ hs.map C9 -> g < w.heap.size /\ ∀ q, ¬ L g q := fun g hg => by
   obtain ⟨x, hx, e⟩ := mem_map.1 hg; exact (hrh x hx).locked e
 refine (hc.2 w (a6p w L hs) none vals (fun b q hq => hq.elim (hl b q) fun h => (hb b h.1).1) (hg.mono (a8u _)) (by simp) (RCs.lnL hrh hln hrc)).mono ?_; rintro x w' ⟨v, L', og', rfl, hgr, hlok', hold', hog', hres⟩; have hgr' : F7 w w' noB := hgr.sub (fun b hb => by simp [H1] at hb); have hL : ∀ b q, b < w.heap.size -> ((L' b q /\ some b ∉ hs.map C9) ↔ L b q) := by
   intro b q hbs; rw [hold' b q hbs (by simp [H1])]; constructor
   . rintro ⟨h1, h2⟩; exact h1.elim id fun h => absurd h.1 h2
   . intro h1; exact ⟨.inl h1, fun h2 => (hb b h2).2 q h1⟩
 have hS : H4 w L w' (fun b q => L' b q /\ some b ∉ hs.map C9) noB := by
   refine ⟨fun b q hq => ?_, fun b hb hne => hgr'.block b hb hne, fun b q hb _ => hL b q hb⟩; have hbs := hl b q hq; refine ⟨(hL b q hbs).2 hq, fun u hu => ?_⟩; rw [J4 (hgr'.block b hbs id)]; exact hu
 have hnew : ∀ g, og' = some g -> g < w'.heap.size /\ w.heap.size <= g := fun g hg => by
   have := hog' g hg; exact ⟨this.1, this.2.elim id fun h => by cases h⟩
 have hnin : ∀ g, w.heap.size <= g -> some g ∉ hs.map C9 := fun g hg hm => by have := (hb g hm).1; omega
 have hcell : b0y w' L' (fun b q => L' b q /\ some b ∉ hs.map C9) := fun b o v hv hq => by
   refine ⟨hq, fun hm => ?_⟩; have h1 := hb b hm; rcases (hold' b o h1.1 (by simp [H1])).1 hq with h2 | h2
   . exact h1.2 o h2
   . have h3 := b6n h2.2; have h4 := hgr'.block b h1.1 id; simp only [World.cell?, h4] at hv h3; rw [h3] at hv; cases hv
 refine ⟨v, fun b q => L' b q /\ some b ∉ hs.map C9, og', r, hs, rfl, hgr.sub (fun b hb => by simp [H1] at hb), fun b q hq => hlok' b q hq.1, fun b q hbs _ => hL b q hbs, fun g hg => ?_, ⟨fun g hg hm => hnin g (hnew g hg).2 hm, hap⟩, ?_, fun x hx => ?_, rfl, rfl⟩
 . rcases mem_cons.1 hg with hg | hg
   . exact ⟨(hnew g hg.symm).1, .inl (hnew g hg.symm).2⟩
   . exact ⟨Nat.lt_of_lt_of_le (hb g hg).1 hgr.size, .inr hg⟩
 . refine RC.cells hcell (fun g hg o => ⟨fun h => ⟨h, hnin g (hnew g hg).2⟩, fun h => h.1⟩) r v hm hres
 . exact RH.step hS (fun g hg => ⟨((hrh x hx).locked hg).1, id⟩) (hrh x hx)
def apR (x y : Option Nat) : Prop := ∀ g, x = some g -> y ≠ some g
theorem a6l : ∀ {l : List (Option Nat)}, J6 l ↔ l.Pairwise apR
 | [] => by simp [J6]
 | x :: xs => by
   rw [pairwise_cons, J6, a6l]; refine and_congr_left' ⟨fun h y hy g hg e => h g hg (e ▸ hy), fun h g hg hm => h _ hm g hg rfl⟩
theorem c3g {x y : Option Nat} (h : apR x y) : apR y x := fun g hg e => h g e hg
theorem a9e {l l' : List (Option Nat)} (h : Perm l l') (ha : J6 l) : J6 l' := by
 rw [a6l] at ha ⊢; exact (h.pairwise_iff (fun h => c3g h)).1 ha
theorem G1.perm {args hs hs2 : List AV} {Post : AV -> List AV -> Prop} (h : G1 P f args hs Post) (hp : Perm hs hs2) : G1 P f args hs2 Post := by
 have hm : ∀ b, some b ∈ hs.map C9 ↔ some b ∈ hs2.map C9 := fun b => (hp.map C9).mem_iff
 refine ⟨h.1, fun w L vals hl hg hrc hrh hap => (h.2 w L vals hl hg hrc (fun x hx => hrh x (hp.mem_iff.1 hx)) (a9e (hp.symm.map C9) hap)).mono ?_⟩; rintro x w' ⟨v, L', og, r, hs', rfl, hgr, hlok', hold', hog', hap', hres, hrh', hpost⟩; exact ⟨v, L', og, r, hs', rfl, hgr.sub fun b hb => (hm b).1 hb, hlok', fun b q hb hn => hold' b q hb (fun e => hn ((hm b).1 e)), fun g hg => ⟨(hog' g hg).1, (hog' g hg).2.imp id (hm g).1⟩, hap', hres, hrh', hpost⟩
theorem G1.permOut {args hs : List AV} {Post Post' : AV -> List AV -> Prop} (h : G1 P f args hs Post) (hp : ∀ r hs', Post r hs' -> ∃ hs2, Perm hs' hs2 /\ Post' r hs2) : G1 P f args hs Post' := by
 refine ⟨h.1, fun w L vals hl hg hrc hrh hap => (h.2 w L vals hl hg hrc hrh hap).mono ?_⟩; rintro x w' ⟨v, L', og, r, hs', rfl, hgr, hlok', hold', hog', hap', hres, hrh', hpost⟩; obtain ⟨hs2, h1, h2⟩ := hp r hs' hpost; have h3 := h1.map C9; exact ⟨v, L', og, r, hs2, rfl, hgr, hlok', hold', fun g hg => hog' g ((Perm.cons og h3).mem_iff.2 hg), a9e (Perm.cons og h3) hap', hres, fun x hx => hrh' x (h1.mem_iff.2 hx), h2⟩
theorem G1.frame {args hs : List AV} {Post : AV -> List AV -> Prop} (h : G1 P f args hs Post) (rest : List AV) : G1 P f args (hs ++ rest) (fun r hs' => ∃ h1, hs' = h1 ++ rest /\ Post r h1) := by
 refine ⟨h.1, fun w L vals hl hg hrc hrh hap => ?_⟩; rw [map_append] at hap; obtain ⟨a1, a2, a3⟩ := a7J hap; have hin : ∀ b, some b ∈ hs.map C9 -> some b ∈ (hs ++ rest).map C9 := fun b hb => by rw [map_append]; exact mem_append.2 (.inl hb)
 have hlk : ∀ x ∈ hs ++ rest, ∀ g, C9 x = some g -> g < w.heap.size /\ ∀ q, ¬ L g q := fun x hx g hg => (hrh x hx).locked hg
 refine (h.2 w L vals hl hg hrc (fun x hx => hrh x (by simp [hx])) a1).mono ?_; rintro x w' ⟨v, L', og, r, hs', rfl, hgr, hlok', hold', hog', hap', hres, hrh', hpost⟩; have hS : H4 w L w' L' (fun b => some b ∈ hs.map C9) := by
   refine ⟨fun b q hq => ?_, fun b hb hne => hgr.block b hb hne, fun b q hb hne => hold' b q hb hne⟩; have hne : some b ∉ hs.map C9 := fun e => by
     obtain ⟨x, hx, hx2⟩ := mem_map.1 e; exact (hlk x (by simp [hx]) b hx2).2 q hq
   have hb := hl b q hq; refine ⟨(hold' b q hb hne).2 hq, fun u hu => ?_⟩; rw [J4 (hgr.block b hb hne)]; exact hu
 have hrest : ∀ g, some g ∈ rest.map C9 -> g < w.heap.size /\ some g ∉ hs.map C9 := fun g hg => by
   obtain ⟨x, hx, hx2⟩ := mem_map.1 hg; exact ⟨(hlk x (by simp [hx]) g hx2).1, fun hm => a3 g hm hg⟩
 have hdis : ∀ g, some g ∈ og :: hs'.map C9 -> some g ∉ rest.map C9 := fun g hg hm => by
   have h1 := hrest g hm; rcases (hog' g hg).2 with h2 | h2
   . omega
   . exact h1.2 h2
 refine ⟨v, L', og, r, hs' ++ rest, rfl, hgr.sub hin, hlok', fun b q hb hn => hold' b q hb (fun e => hn (hin b e)), fun g hg => ?_, ?_, hres, fun x hx => ?_, hs', rfl, hpost⟩
 . rw [map_append, <- cons_append] at hg; rcases mem_append.1 hg with hg | hg
   . exact ⟨(hog' g hg).1, (hog' g hg).2.imp id (hin g)⟩
   . exact ⟨Nat.lt_of_lt_of_le (hrest g hg).1 hgr.size, .inr (by rw [map_append]; exact mem_append.2 (.inr hg))⟩
 . rw [map_append, <- cons_append]; rw [a6l] at hap' a2 ⊢; refine pairwise_append.2 ⟨hap', a2, fun x hx y hy g hg e => hdis g (by rw [<- hg]; exact hx) (by rw [<- e]; exact hy)⟩
 . rcases mem_append.1 hx with hx | hx
   . exact hrh' x hx
   . refine RH.step hS (fun g hg => ?_) (hrh x (by simp [hx])); exact hrest g (mem_map.2 ⟨x, hx, hg⟩)
def Fam (σ : St) (B : Nat) (hs : List AV) : Prop := hs.all isH = true /\ hs.length <= 500000 /\ ∀ i (h : i < hs.length), σ (B + i) = hs[i]
def V6 (B n : Nat) : List Nat := (List.range n).map (B + ·)
theorem Fam.map {σ : St} {B : Nat} {hs : List AV} (h : Fam σ B hs) : (V6 B hs.length).map σ = hs := by
 apply ext_getElem
 . simp [V6]
 . intro i h1 h2; simp only [V6, map_map, getElem_map, getElem_range, Function.comp_apply]; exact h.2.2 i h2
theorem Fam.isH {σ : St} {B : Nat} {hs : List AV} (h : Fam σ B hs) : ∀ k ∈ V6 B hs.length, isH (σ k) = true := by
 intro k hk; obtain ⟨i, hi, rfl⟩ := mem_map.1 hk; have hi' : i < hs.length := (by simpa using hi); rw [h.2.2 i hi']; exact all_eq_true.1 h.1 _ (getElem_mem _)
theorem a1B (B n : Nat) : (V6 B n).Nodup := by
 refine (pairwise_map).2 (Pairwise.imp ?_ nodup_range); intro a b hab e; exact hab (by omega)
theorem a2L (k : Nat) (ks : List Nat) (x : AV) : G0 ks (F5 k x) = G0 (k :: ks) x := by
 cases x with
 | bor j m e l => by_cases h : j = k <;> by_cases h2 : j ∈ ks <;> cases m <;> simp [F5, G0, h, h2] <;> simp_all
 | adr j p => by_cases h : j = k <;> by_cases h2 : j ∈ ks <;> simp [F5, G0, h, h2] <;> simp_all
 | eadr j i p => by_cases h : j = k <;> by_cases h2 : j ∈ ks <;> simp [F5, G0, h, h2] <;> simp_all
 | sub j i => by_cases h : j = k <;> by_cases h2 : j ∈ ks <;> simp [F5, G0, h, h2] <;> simp_all
 | _ => rfl
theorem a4P (x : AV) : G0 [] x = x := by cases x <;> rfl
theorem b0K (k : Nat) (ks : List Nat) (x : AV) : F5 k (G0 ks x) = G0 ks (F5 k x) := by
 cases x with
 | bor j m e l => by_cases h : j = k <;> by_cases h2 : j ∈ ks <;> cases m <;> simp [F5, G0, h, h2] <;> simp_all
 | adr j p => by_cases h : j = k <;> by_cases h2 : j ∈ ks <;> simp [F5, G0, h, h2] <;> simp_all
 | eadr j i p => by_cases h : j = k <;> by_cases h2 : j ∈ ks <;> simp [F5, G0, h, h2] <;> simp_all
 | sub j i => by_cases h : j = k <;> by_cases h2 : j ∈ ks <;> simp [F5, G0, h, h2] <;> simp_all
 | _ => rfl
theorem a8n : ∀ (ks ls : List Nat) (x : AV), G0 ls (G0 ks x) = G0 (ks ++ ls) x
 | [], ls, x => by rw [a4P]; rfl
 | k :: ks, ls, x => by rw [<- a2L, a8n, cons_append, a2L]
theorem a5Y : ∀ (ks : List Nat) (σ : St) (i : Nat), i ∉ ks -> D8 σ ks i = G0 ks (σ i)
 | [], σ, i, _ => (a4P _).symm
 | k :: ks, σ, i, hi => by
   have hne : i ≠ k := fun e => hi (by simp [e])
   rw [D8, a5Y ks _ _ (fun h => hi (by simp [h])), <- a2L]; simp only [put, if_neg hne]
def a0o : List Nat -> Nat -> Nat -> List Nat
 | _, _, 0 => []
 | k :: ks, b, n + 1 => k :: a0o ks b n
 | [], b, n + 1 => b :: a0o [] (b + 1) n
theorem a2R : ∀ (n : Nat) (ks : List Nat) (b k : Nat), k ∈ a0o ks b n -> k ∈ ks \/ (b <= k /\ k < b + n)
 | 0, ks, b, k, h => by cases ks <;> simp [a0o] at h
 | n + 1, k' :: ks, b, k, h => by
   rcases mem_cons.1 (show k ∈ k' :: a0o ks b n from h) with rfl | h
   . simp
   . rcases a2R n ks b k h with h | h
     . simp [h]
     . exact .inr (by omega)
 | n + 1, [], b, k, h => by
   rcases mem_cons.1 (show k ∈ b :: a0o [] (b + 1) n from h) with rfl | h
   . exact .inr (by omega)
   . rcases a2R n [] (b + 1) k h with h | h
     . simp at h
     . exact .inr (by omega)
theorem a0g : ∀ (xs : List AV) (ks : List Nat) (σ : St) (b i : Nat), i ∉ a0o ks b xs.length -> E7 σ ks b xs i = G0 (a0o ks b xs.length) (σ i)
 | [], [], _, _, _, _ => (a4P _).symm
 | [], _ :: _, _, _, _, _ => (a4P _).symm
 | x :: xs, k :: ks, σ, b, i, hi => by
   simp only [length_cons, a0o, mem_cons, not_or] at hi ⊢; rw [E7, a0g xs ks _ _ _ hi.2, <- a2L]; simp only [put, if_neg hi.1]
 | x :: xs, [], σ, b, i, hi => by
   simp only [length_cons, a0o, mem_cons, not_or] at hi ⊢; rw [E7, a0g xs [] _ _ _ hi.2, <- a2L]; simp only [put, if_neg hi.1]
theorem a2Y {x : AV} (h : isH x = true) (ks : List Nat) : G0 ks x = x := by cases x <;> simp [isH] at h <;> rfl
theorem b3Y : ∀ (xs : List AV) (σ : St) (B n : Nat), (∀ x ∈ xs, isH x = true) -> ∀ i (h : i < xs.length), E7 σ (V6 B n) (B + n) xs (B + i) = xs[i]
 | [], _, _, _, _, _, h => by simp at h
 | x :: xs, σ, B, 0, hx, i, h => by
   have := a8E (x :: xs) σ B hx i h; simpa [V6] using this
 | x :: xs, σ, B, n + 1, hx, i, h => by
   have e : V6 B (n + 1) = B :: V6 (B + 1) n := by
     simp only [V6, range_succ_eq_map, map_cons, Nat.add_zero, map_map, List.cons.injEq, true_and]; refine map_congr_left fun a _ => ?_
     simp only [Function.comp_apply]; omega
   rw [e, show B + (n + 1) = (B + 1) + n by omega, E7]; cases i with
   | zero =>
     have hkx := a3k (hx x (by simp)); have e2 : (put σ B x) B = x := by simp only [put, if_true]; exact hkx B
     rw [show B + 0 = B from rfl, a0g xs _ _ _ B (fun hm => by
       rcases a2R _ _ _ _ hm with hm | hm
       . obtain ⟨j, _, hj⟩ := mem_map.1 hm; omega
       . omega), e2, a2Y (hx x (by simp)), getElem_cons_zero]
   | succ i =>
     have := b3Y xs (put σ B x) (B + 1) n (fun y hy => hx y (by simp [hy])) i (by simpa using h); rw [show B + (i + 1) = B + 1 + i by omega, this, getElem_cons_succ]
def b3W (B : Nat) (ks : List Nat) : Prop := ∀ k ∈ ks, B <= k /\ k < B + 1000000
theorem b3W.not {B : Nat} {ks : List Nat} (h : b3W B ks) {j : Nat} (hj : j < B \/ B + 1000000 <= j) : ks.contains j = false := by
 rw [Bool.eq_false_iff]; intro hc; have := h j (by simpa using hc); omega
theorem b5F {B n : Nat} (h : n <= 1000000) : b3W B (V6 B n) := fun k hk => by
 obtain ⟨j, hj, rfl⟩ := mem_map.1 hk; have : j < n := (by simpa using hj); omega
theorem c0u {σ σ1 : St} {B : Nat} {hs hs' : List AV} (hF : Fam σ B hs) (hB : 1000000 <= B) (h1 : hs'.all isH = true) (h2 : hs'.length <= 500000) :
   ∃ ks, b3W B ks /\ Fam (E7 σ1 (V6 B hs.length) (B + hs.length) hs') B hs' /\ (∀ i, (i < B \/ B + 1000000 <= i) -> E7 σ1 (V6 B hs.length) (B + hs.length) hs' i = G0 ks (σ1 i)) := by
 have hl := hF.2.1; have hL : b3W B (a0o (V6 B hs.length) (B + hs.length) hs'.length) := fun k hk => by
   rcases a2R _ _ _ _ hk with hk | hk
   . exact b5F (by omega) k hk
   . omega
 refine ⟨_, hL, ⟨h1, h2, fun i hi => b3Y hs' _ _ _ (fun x hx => all_eq_true.1 h1 x hx) i hi⟩, fun i hi => a0g _ _ _ _ _ (fun hm => ?_)⟩; have := hL i hm; omega
theorem b4n {σ : St} {B : Nat} {hs : List AV} (hF : Fam σ B hs) (i : Nat) (hi : i < B \/ B + 1000000 <= i) : D8 σ (V6 B hs.length) i = G0 (V6 B hs.length) (σ i) :=
 a5Y _ _ _ fun hm => by have := b5F (B := B) (n := hs.length) (by have := hF.2.1; omega) i hm; omega
theorem Fam.put {σ : St} {B d : Nat} {hs : List AV} {x : AV} (h : Fam σ B hs) (hd : d < B) : Fam (put σ d x) B hs := by
 refine ⟨h.1, h.2.1, fun i hi => ?_⟩; simp only [Vw.put, if_neg (show ¬ B + i = d by omega), h.2.2 i hi]; exact a3k (all_eq_true.1 h.1 _ (getElem_mem _)) d
section
variable {g : FuncId} {args : List AV} {σ : St} {d : Nat} {K : St -> Prop} {Post : AV -> List AV -> Prop} {hs : List AV}
theorem b4H (B : Nat) (hB : 1000000 <= B) (hd : d < 1000000) (hF : Fam σ B hs) (h : G1 P g args hs Post) (hH : ∀ r hs', Post r hs' -> hs'.all isH = true /\ hs'.length <= 500000)
   (hk : ∀ r hs' τ ks ls, Post r hs' -> Fam τ B hs' -> (∀ j, j < 1000000 -> ks.contains j = false) -> (∀ j, j < 1000000 -> ls.contains j = false) -> (∀ i, i < 1000000 -> τ i = if i = d then G0 ls (F5 d r) else G0 ks (F5 d (σ i))) ->
     (∀ B2 hs2, Fam σ B2 hs2 -> 1000000 <= B2 -> (B2 + 1000000 <= B \/ B + 1000000 <= B2) -> Fam τ B2 hs2) -> K τ) : a0S P g args σ d K := by
 refine ⟨V6 B hs.length, B + hs.length, Post, hF.isH, a1B _ _, by rw [hF.map]; exact h, fun r hs' hp => ?_⟩; obtain ⟨ls, l1, l2, l3⟩ := c0u (σ1 := put (D8 σ (V6 B hs.length)) d r) hF hB (hH r hs' hp).1 (hH r hs' hp).2; have hks := b5F (B := B) (n := hs.length) (by have := hF.2.1; omega); refine hk r hs' _ (V6 B hs.length ++ ls) ls hp l2 (fun j hj => ?_) (fun j hj => l1.not (by omega)) (fun i hi => ?_) (fun B2 hs2 hF2 hB2 hBB => ⟨hF2.1, hF2.2.1, fun i hi => ?_⟩)
 . rw [contains_append, hks.not (by omega), l1.not (by omega)]; rfl
 . rw [l3 i (by omega)]; unfold put; split
   . rfl
   . rw [b4n hF i (by omega), b0K, a8n]
 . have := hF2.2.1; have hH2 := all_eq_true.1 hF2.1 _ (getElem_mem hi); rw [l3 _ (by omega)]; simp only [Vw.put, if_neg (show ¬ B2 + i = d by omega)]; rw [b4n hF _ (by omega), hF2.2.2 i hi, a2Y hH2, a3k hH2, a2Y hH2]
end
theorem G1.frzMap {args : List AV} {Post Post' : AV -> List AV -> Prop} (h : G1 P f args [] Post)
   (hp : ∀ r hs', Post r hs' -> ∃ g kt m, r = .d (.raw (.map (some g))) /\ hs' = [.hm (.map (some g)) kt m none] /\ ∀ m' bs clk, Perm m' m -> Post' (.d (.map (.map (some g)) (m'.map (·.1)) (m'.map (·.2)) bs clk)) []) : G1 P f args [] Post' := by
 refine ⟨h.1, fun w L vals hl hg hrc hrh hap => (h.2 w L vals hl hg hrc hrh hap).mono ?_⟩; rintro x w' ⟨v, L', og, r, hs', rfl, hgr, hlok', hold', hog', hap', hres, hrh', hpost⟩; obtain ⟨g, kt, m, rfl, rfl, hq⟩ := hp r hs' hpost; obtain ⟨g', m', es, clk, k1, k2, k3, k4, k5, k6, k7, k8, k9, k10, _⟩ : a2a P w' L' (C9 (.hm (.map (some g)) kt m none)) kt m none (.map (some g)) := (hrh' (.hm (.map (some g)) kt m none) (by simp)).2; simp only [Value.map.injEq, Option.some.injEq] at k2; subst k2; have hgn := hog' g (by simp [C9]); have hext : Ext w' L' w' (fun b q => L' b q \/ (b = g /\ q = 0)) := fun _ _ hq => ⟨.inl hq, fun _ hv => hv⟩
 obtain ⟨e1, e2, e3, e4⟩ := k6.reps; have hv' : RepV w' L' (.raw (.map (some g))) v := hres; obtain rfl := hv'.raw_inv; refine ⟨_, fun b q => L' b q \/ (b = g /\ q = 0), none, _, [], rfl, hgr, fun b q hq => ?_, fun b q hb hn => ?_, fun g' hg' => ?_, ⟨fun g' hg' => (by cases hg'), trivial⟩, ?_, by simp, hq m' (es.toList.map (·.born)) clk k5⟩
 . rcases hq with hq | ⟨rfl, _⟩
   . exact hlok' b q hq
   . exact hgn.1
 . rw [<- hold' b q hb hn]; refine ⟨fun h => h.elim id fun h => ?_, .inl⟩; rcases hgn.2 with h1 | h1
   . omega
   . simp at h1
 . simp at hg'
 . show RepV w' _ _ _
   refine ⟨?_, rfl⟩; simp only [Rep]; refine ⟨g, es, _, _, rfl, rfl, k3, .inr (by simp), A8.mono hext _ _ e1, A8.mono hext _ _ e2, rfl, rfl, e3, e4, rfl, (k5.map _).nodup_iff.2 k7, k9, fun b hb => ?_⟩; obtain ⟨e, he, rfl⟩ := mem_map.1 hb; exact k10 e he
theorem b1G {g : FuncId} {args : List AV} {σ : St} {d : Nat} {K : St -> Prop} {Post : AV -> List AV -> Prop} (h : G1 P g args [] Post) (hk : ∀ r hs', Post r hs' -> hs' = [] /\ K (put σ d r)) : a0S P g args σ d K :=
 ⟨[], 1000000, Post, by simp, by simp, h, fun r hs' hp => by obtain ⟨rfl, hk⟩ := hk r hs' hp; exact hk⟩
theorem a1v : ∀ (ks : List Nat) (b : Nat), a0o ks b ks.length = ks
 | [], _ => rfl
 | k :: ks, b => by simp only [length_cons, a0o, a1v ks b]
theorem b2a : ∀ (ks : List Nat) (σ τ : St) (b : Nat), ks.Nodup -> (∀ k ∈ ks, isH (σ k) = true) -> ∀ k ∈ ks, E7 τ ks b (ks.map σ) k = σ k
 | [], _, _, _, _, _, _, hk => by simp at hk
 | k :: ks, σ, τ, b, hn, hH, i, hi => by
   rw [nodup_cons] at hn; rw [map_cons, E7]; by_cases hik : i ∈ ks
   . exact b2a ks σ _ b hn.2 (fun k hk => hH k (by simp [hk])) i hik
   . have : i = k := by
       rcases mem_cons.1 hi with h | h
       . exact h
       . exact absurd h hik
     subst this; have e : (ks.map σ).length = ks.length := (by simp); have h1 := hH i (by simp); rw [a0g _ _ _ _ _ (by rw [e, a1v]; exact hik), e, a1v]; simp only [put, if_true, a3k h1 i, a2Y h1]
theorem b6Y {g : FuncId} {args : List AV} {σ : St} {d : Nat} {K : St -> Prop} {r : AV} (ks : List Nat) (h6 : ∀ k ∈ ks, 1000000 <= k) (hd : d < 1000000) (hn : ks.Nodup) (hH : ∀ k ∈ ks, isH (σ k) = true) (h : G1 P g args (ks.map σ) (fun r' hs' => r' = r /\ hs' = ks.map σ))
   (hk : ∀ τ, (∀ k ∈ ks, τ k = σ k) -> τ d = G0 ks (F5 d r) -> (∀ i, i ∉ ks -> i ≠ d -> τ i = G0 (ks ++ ks) (F5 d (σ i))) -> K τ) : a0S P g args σ d K := by
 refine ⟨ks, 1000000, _, hH, hn, h, fun r' hs' hp => ?_⟩; obtain ⟨rfl, rfl⟩ := hp; have e : (ks.map σ).length = ks.length := (by simp); have hdk : d ∉ ks := fun hm => by have := h6 d hm; omega
 refine hk _ (fun k hk' => b2a ks σ _ _ hn hH k hk') ?_ (fun i hi hid => ?_)
 . rw [a0g _ _ _ _ _ (by rw [e, a1v]; exact hdk), e, a1v]; simp only [put, if_true]
 . rw [a0g _ _ _ _ _ (by rw [e, a1v]; exact hi), e, a1v]; simp only [put, if_neg hid]; rw [a5Y _ _ _ hi, b0K, a8n]
end Go.Vw
namespace Go.Vw
open Go.RowKit Go.Proofs
variable {P : Program} {F : Nat -> Bool} {ops : Array Oper}
theorem c2k {l : List Oper} {ds : List Nat} {K : St -> Prop} {σ : St} (J : (Nat -> Bool) -> St -> Prop) (hd : a6P ops = true)
   (h0 : J (fun _ => false) σ)
   (hs : ∀ (b : Nat -> Bool) i o, ops[i]? = some o -> b i = false -> (∀ e ∈ o.after, Region.binds .any e = true -> b e.on = true) -> ∀ σ, J b σ -> ∀ K', (∀ σ', J (fun j => if j = i then true else b j) σ' -> K' σ') -> P6 P F ops [o] K' σ)
   (he : ∀ b σ, (∀ i, i < ops.size -> b i = true) -> J b σ -> K σ) : a6C true P F ops l ds K σ := by
 simp only [a6C, b1A, if_true]; exact ⟨J, h0, hd, hs, he⟩
end Go.Vw
namespace Go.Vw
open Go.RowKit Go.Proofs Go.Sort
variable {P : Program} {f : FuncId}
theorem c7G {ρk : Go.Shelf.Ren} (L7 : SlLaysZ.n7 P ρk) (e7 : Enters P (ρk.f 7)) (g : Nat) (ks vs : List D) (bs : List Nat) (clk : Nat) :
   G1 P (ρk.f 7) [.d (.map (.map (some g)) ks vs bs clk)] [] (fun r hs' => ∃ q, r = .d (.raw (a8P (ρk.f 10) q)) /\ hs' = [.hb (.pointer (some ⟨q, 0, none⟩)) (ρk.t 23) (.map (.map (some g)) ks vs bs clk)]) := by
 refine ⟨e7, fun w L vals hlok hgl hrc _ _ => ?_⟩; simp only [RCs] at hrc; obtain ⟨v, us, rfl, hv, rfl⟩ := hrc; have hv' : RepV w L (.map (.map (some g)) ks vs bs clk) v := hv; obtain ⟨g', es, rfl, hg, _⟩ := a2X hv'; simp only [Value.map.injEq, Option.some.injEq] at hg; subst hg; have h := callsIn_wide.1 (AnyZ.keys_in L7 Fence.wide 5 trivial rfl (some g) w); refine Calls.mono h ?_; rintro e w' ⟨rfl, rfl⟩; have hS : H4 w L (w.alloc (.cells #[.map (some g)] (ρk.t 23))) (R5 L w.heap.size 0) noB := H4.alloc hlok _ 0; refine ⟨_, L, none, .d (.raw (a8P (ρk.f 10) w.heap.size)), [.hb (.pointer (some ⟨w.heap.size, 0, none⟩)) (ρk.t 23) (.map (.map (some g)) ks vs bs clk)], rfl, ⟨rfl, rfl, rfl, by simp, fun k hk _ => Below.heap_alloc _ _ _ hk, Nat.le_refl _⟩, fun b q h => ?_, fun _ _ _ _ => Iff.rfl, fun g hg => ?_, ⟨fun g hg => (by cases hg), ⟨fun g _ hm => (by simp at hm), trivial⟩⟩, RepV.raw (by simp [a8P, Value.oneCell']) rfl, fun x hx => ?_, w.heap.size, rfl, rfl⟩
 . have := hlok b q h; simp; omega
 . simp only [map_cons, map_nil, mem_cons, not_mem_nil, or_false, C9] at hg; rcases hg with hg | hg
   . cases hg
   . cases hg
     exact ⟨by simp, .inl (Nat.le_refl _)⟩
 . simp only [mem_singleton] at hx; subst hx; refine ⟨rfl, w.heap.size, #[.map (some g)], rfl, rfl, World.alloc_heap_new w _, ?_, fun o hL => ?_⟩
   . have : Ext w L (w.alloc (.cells #[.map (some g)] (ρk.t 23))) L := fun b q hq => ⟨hq, ((hS.ext b q hq).2)⟩
     exact (hv'.mono this).cell rfl
   . have := hlok _ _ hL; omega
theorem c3m {ρ ρk : Go.Shelf.Ren} (L8 : SlLaysZ.n8 P ρ) (Lk : SlLaysZ.n10 P ρk) (e8 : Enters P (ρ.f 8))
   (eg : ∀ args w, (callFunc (ρk.f 10) args).run P w = .ok (.enter (ρk.f 10) args) w) (ht : ρk.t 26 = ρ.t 26) (hlt : ρ.t 26 < 100000) (hk : P.underlying (ρ.t 26) = some .string) (hinfo : (P.info? (ρ.t 26)).map (·.size) = some 1)
   (g q T : Nat) (ss0 : List Str) (vs : List D) (bs : List Nat) (clk : Nat) (hv0 : vs.length = ss0.length) (hl : ss0.length <= 1000000) (hm : ∀ s ∈ ss0, List.length s <= maxLen) :
   G1 P (ρ.f 8) [.d (.raw (a8P (ρk.f 10) q))] [.hb (.pointer (some ⟨q, 0, none⟩)) T (.map (.map (some g)) (ss0.map .str) vs bs clk)]
     (fun r hs' => (∃ ss, Perm ss ss0 /\ r = .own true (ρ.t 26) (ss.map .str)) /\ hs' = [.hb (.pointer (some ⟨q, 0, none⟩)) T (.map (.map (some g)) (ss0.map .str) vs bs clk)]) := by
 refine ⟨e8, fun w L vals hlok hgl hrc hrh hap => ?_⟩; have hmx : (1000000 : Nat) <= maxLen := (by decide); simp only [RCs] at hrc; obtain ⟨v, us, rfl, hv, rfl⟩ := hrc; have hv' : RepV w L (.raw (a8P (ρk.f 10) q)) v := hv; obtain rfl := hv'.raw_inv; have hbH := hrh (.hb (.pointer (some ⟨q, 0, none⟩)) T (.map (.map (some g)) (ss0.map .str) vs bs clk)) (by simp); obtain ⟨g1, C, k1, k2, k3, k4, k5⟩ : Y4 w L (some q) T (.map (.map (some g)) (ss0.map .str) vs bs clk) (.pointer (some ⟨q, 0, none⟩)) := hbH.2; cases k1
 obtain ⟨u, hu, hu2⟩ := b1M k4 rfl; have hCr : RepV w L (.map (.map (some g)) (ss0.map .str) vs bs clk) u := RepV.of_cell (by rw [<- hu]; exact k4) rfl hu2; obtain ⟨g2, es, rfl, hg, m3, m4, m5, m6, m7, m8, m9, m10, m11⟩ := a2X hCr; simp only [Value.map.injEq, Option.some.injEq] at hg; subst hg; have hq : q < w.heap.size := (Array.getElem?_eq_some_iff.1 k3).1; have hcell : w.cell? ⟨q, 0, none⟩ = some (.map (some g)) := by
   have : C = #[.map (some g)] := by apply Array.ext'; simpa using hu
   simp [World.cell?, k3, this]
 have hz : ((ss0.map D.str).zip vs).map (·.1) = ss0.map .str := a5D (by simp [hv0]); have hzl : ((ss0.map D.str).zip vs).length = ss0.length := (by simp [hv0]); have hfit : ∀ p ∈ (ss0.map D.str).zip vs, ∃ s ∈ ss0, p.1 = .str s := fun p hp => by
   have : p.1 ∈ ss0.map D.str := by rw [<- hz]; exact mem_map.2 ⟨p, hp, rfl⟩
   obtain ⟨s, hs, e⟩ := mem_map.1 this; exact ⟨s, hs, e.symm⟩
 obtain ⟨D0, hown, hsz, hperm⟩ := c8h (P := P) (kt := ρ.t 26) m3 (Perm.refl _) m5 (by rw [hz]; exact m9) (fun p hp => by
   obtain ⟨s, _, e⟩ := hfit p hp; rw [e]; simp [F4, Q5, hk]) (by rw [<- m6]; exact m10) (fun e he => m11 _ (by rw [m6]; exact mem_map.2 ⟨e, he, rfl⟩)) hk (by omega) (fun p hp => by
   obtain ⟨s, hs, e⟩ := hfit p hp; rw [e]; exact hm s hs)
 have hkeys : ((ss0.map D.str).zip vs).map (fun p => a9w p.1) = ss0 := by
   have : ((ss0.map D.str).zip vs).map (fun p => a9w p.1) = (((ss0.map D.str).zip vs).map (·.1)).map a9w := by simp [Function.comp_def]
   rw [this, hz, map_map]; exact (map_congr_left fun s _ => rfl).trans (map_id _)
 rw [hkeys] at hperm; have hseq := AnyZ.keys_gives (ρ := ρk) Lk Fence.wide 3 trivial rfl (by omega) q g _ D0 w hq hcell (by rw [ht]; exact hown); have hbytes : Maps.size D0 * 16 <= 140737488355328 := (by omega); have h := b5U (callsIn_wide.1 (AnyZ.collect_in L8 Fence.wide 5 trivial trivial rfl (by omega) (ρk.f 10) #[.pointer (some ⟨q, 0, none⟩)] trivial eg _ (Maps.size D0) (by omega) hbytes w hseq)); refine Calls.mono h ?_; rintro e w' ⟨⟨v, ss, rfl, hS, hrow, hnil, hbl⟩, hdr⟩; have hps : Perm ss ss0 := hS.trans hperm; have hlen : ss.length = ss0.length := hps.length_eq; have hgrow : F7 w w' (fun c => some c ∈ [AV.hb (.pointer (some ⟨q, 0, none⟩)) T (.map (.map (some g)) (ss0.map .str) vs bs clk)].map C9) := ⟨hbl.os, hbl.tape, hbl.output, hbl.size, fun k hk _ => hbl.block k hk, hdr ⟨v, rfl⟩⟩; have hS' : H4 w L w' L noB := ⟨fun c o hL => ⟨hL, fun u hu => by
   rw [J4 (hbl.block c (hlok c o hL))]; exact hu⟩, fun c hc _ => hbl.block c hc, fun _ _ _ _ => Iff.rfl⟩
 have hob : ∀ g, v.ownBlock = some g -> w.heap.size <= g /\ g < w'.heap.size := fun g hg => by
   rcases hrow.2 with ⟨rfl, _⟩ | ⟨g', cap, cur, rfl, h1, h2, _⟩
   . cases hg
   . have : g' = g := (by simpa [Value.ownBlock] using hg); subst this; exact ⟨h1, (Array.getElem?_eq_some_iff.1 h2).1⟩
 refine ⟨v, L, v.ownBlock, .own true (ρ.t 26) (ss.map .str), _, rfl, hgrow, fun c o hL => Nat.lt_of_lt_of_le (hlok c o hL) hbl.size, fun _ _ _ _ => Iff.rfl, fun g hg => ?_, ⟨fun g hg hmm => ?_, hap⟩, ?_, fun x hx => ?_, ⟨ss, hps, rfl⟩, rfl⟩
 . rcases mem_cons.1 hg with hg | hg
   . exact ⟨(hob g hg.symm).2, .inl (hob g hg.symm).1⟩
   . refine ⟨?_, .inr hg⟩; simp only [map_cons, map_nil, mem_cons, not_mem_nil, or_false, C9, Option.some.injEq] at hg; have := hbl.size; omega
 . have := (hob g hg).1; simp only [map_cons, map_nil, mem_cons, not_mem_nil, or_false, C9, Option.some.injEq] at hmm; omega
 . refine ⟨ss.map fun s => [encStr s], 1, by rw [W6 hlt]; exact hinfo, ?_, fun c hc => ?_, ⟨?_, ?_⟩, fun g hg => ⟨hg, fun o => ⟨fun hL => ?_, fun h => (by simp at h)⟩⟩⟩
   . have : ∀ l : List Str, A8 w' L (l.map .str) (l.map fun s => [encStr s]) := fun l => by
       induction l with
       | nil => simp [A8]
       | cons s l ih =>
         simp only [map_cons, A8]; exact ⟨_, _, rfl, by simp [Rep, encStr], ih⟩
     exact this _
   . obtain ⟨s, _, rfl⟩ := mem_map.1 hc; rfl
   . have : ∀ l : List Str, ((l.map fun s => [encStr s]).flatten) = l.map encStr := fun l => by
       induction l with
       | nil => rfl
       | cons s l ih => simp [ih]
     rw [this]; simp
   . have e1 : ∀ l : List Str, ((l.map fun s => [encStr s]).flatten) = l.map encStr := fun l => by
       induction l with
       | nil => rfl
       | cons s l ih => simp [ih]
     rw [e1, length_map]; rcases hrow.2 with ⟨h1, h2⟩ | ⟨g', cap, cur, h1, h2, h3, h4, h5, h6, h7⟩
     . exact .inl ⟨h1, h2⟩
     . exact .inr ⟨g', cap, cur, h1, by rw [W6 hlt, a6Q hlt]; exact h3, h4, h5, by omega, h7⟩
   . have := hlok _ _ hL; have := (hob g hg).1; omega
 . simp only [mem_singleton] at hx; subst hx; exact RH.step hS' (fun g hg => ⟨(hbH.locked hg).1, id⟩) hbH
end Go.Vw