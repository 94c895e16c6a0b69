/-
  The abstract walk through a translated function, part 2 of 4: its data, its operations, and that it is sound, for every program. No conditions beyond those that each theorem states.
-/import Derived.Test.YtnknfnfinhagoaaGreatDoorWa
import Derived.Maps.RangeRun
import Derived.Deep.LoopGhost
import Derived.StillTail
open List
set_option linter.unusedSimpArgs false
set_option linter.unusedVariables false
namespace Go.Vw
open Go.RowKit Go.Proofs
def Ctr (P : Program) (f : FuncId) (args : List AV) (r : AV) : Prop :=
 Enters P f ∧ ∀ (w : World) (L : Nat → Nat → Prop) (og : Option Nat) (vals : List Value), (∀ b q, L b q → b < w.heap.size) → GL P w L → (∀ g, og = some g → g < w.heap.size ∧ ∀ q, ¬ L g q) → RCs P w L og args vals →
   Calls P f vals.toArray w fun e w' => ∃ v L' og', e = .returned v ∧ E8 w w' (E9 og) ∧ (∀ b q, L' b q → b < w'.heap.size) ∧ (∀ b q, b < w.heap.size → ¬ E9 og b → (L' b q ↔ L b q)) ∧
     (∀ g, og' = some g → g < w'.heap.size ∧ (w.heap.size ≤ g ∨ og = some g)) ∧ RC P w' L' og' r v
variable {P : Program} {w0 : World} {L0 : Nat → Nat → Prop} {row : Nat → Prop} {n : Nat} {K : St → Prop} {Q : Exit → Act → World → Prop}
 {w w' : World} {L L' : Nat → Nat → Prop} {O O' : Nat → Option Nat} {σ σ' : St} {a : Act} {o : Oper} {d : Nat} {v : Value} {tm : Nat → Value}
theorem Rel.freeze (h : Rel P w0 L0 row w L O σ tm) {j : Nat} {b : D} (hj : σ j = .box b) :
   ∃ L' O', Rel P w0 L0 row w L' O' (put σ j (.d (.ref b))) tm ∧ Ext w L w L' ∧ ∃ g, tm j = ptr g 0 ∧ RepV w L' (.ref b) (ptr g 0) := by
 have h1 := h.slots j; rw [hj] at h1; obtain ⟨g, C, e, h2, h3, h4, h5, h6⟩ := h1; have hdom := h.olt j g h2; have hext : Ext w L w (a1o L g C.size) := fun b q hq => ⟨.inl hq, fun _ hv => hv⟩
 have hS : F4 w L w (a1o L g C.size) (E9 (some g)) := ⟨hext, fun _ _ _ => rfl, fun b q _ hne => ⟨fun hq => by
   rcases hq with hq | ⟨hq, _⟩
   · exact hq
   · exact absurd (by rw [hq]; rfl) hne, .inl⟩⟩
 have hrep : RepV w (a1o L g C.size) (.ref b) (ptr g 0) := by
   refine ⟨?_, rfl⟩; simp only [Rep, ptr, Value.cells]; refine ⟨g, 0, C.toList, rfl, Rep.mono hext _ _ h5, fun k u hk => ?_⟩; have hk' : C[k]? = some u := (by simpa using hk); refine ⟨by simpa [World.cell?, h4] using hk', .inl (.inr ⟨rfl, ?_⟩)⟩; have := (Array.getElem?_eq_some_iff.1 hk').1; omega
 refine ⟨a1o L g C.size, B0 O j none, ?_, hext, g, h3, hrep⟩; have := h.putOwn j (.d (.ref b)) (tm j) none (E9 (some g)) hS h.grown (Nat.le_refl _) (fun b q hq => by
   rcases hq with hq | ⟨rfl, _⟩
   · exact h.lok b q hq
   · exact hdom.1) (fun q hq => by obtain rfl : g = q := (by simpa [E9] using hq); exact hdom.2) (fun i q hi hO e => hi (h.inj i j q hO (by rw [h2]; exact e))) (by simp) (by rw [h3]; exact hrep)
 rwa [a4D tm j] at this
def a4z (C : St → List D → Prop) : List Operand → St → List D → Prop
 | [], σ, ds => C σ ds
 | x :: xs, σ, ds => match A0 σ x with
   | .adr j [] => (match σ j with
     | .box b => a4z C xs (put σ j (.d (.ref b))) (ds ++ [.ref b])
     | _ => False)
   | y => (match asD y with
     | some z => z.isAgg = false ∧ a4z C xs σ (ds ++ [z])
     | none => False)
theorem b0A {C : St → List D → Prop} : ∀ (xs : List Operand) {L : Nat → Nat → Prop} {O : Nat → Option Nat} (σ : St) (ds : List D) (css : List (List Value)), a4z C xs σ ds → Rel P w0 L0 row w L O σ (B4 a) → A6 w L ds css →
   ∃ L' O' σ' ds', Rel P w0 L0 row w L' O' σ' (B4 a) ∧ C σ' ds' ∧ A6 w L' ds' (css ++ xs.map fun x => [a.eval x])
 | [], L, O, σ, ds, css, h, hR, hr => ⟨L, O, σ, ds, hR, h, by simpa using hr⟩
 | x :: xs, L, O, σ, ds, css, h, hR, hr => by
   simp only [a4z] at h; have other : ∀ y, A0 σ x = y → (match asD y with
     | some z => z.isAgg = false ∧ a4z C xs σ (ds ++ [z])
     | none => False) → ∃ L' O' σ' ds', Rel P w0 L0 row w L' O' σ' (B4 a) ∧ C σ' ds' ∧ A6 w L' ds' (css ++ (x :: xs).map fun x => [a.eval x]) := by
     intro y hy h; cases hz : asD y with
     | none => rw [hz] at h; exact h.elim
     | some z =>
       rw [hz] at h; have hx := I7 hR (x := x) (by rw [hy]; exact hz); have := b0A xs σ (ds ++ [z]) (css ++ [[a.eval x]]) h.2 hR (hr.append (.one (hx.cell h.1))); simpa using this
   split at h
   · rename_i j hj
     split at h
     · rename_i b hb
       obtain ⟨L1, O1, h1, h2, g, h3, h4⟩ := hR.freeze hb; have hx : a.eval x = B4 a j := by
         have := H2 hR x; rw [hj] at this; obtain ⟨b', g', off, e1, e2, e3, e4⟩ := this; rw [hb] at e1; obtain rfl : b = b' := by simpa [Q6] using e1
         have e5 := hR.slots j; rw [hb] at e5; obtain ⟨g2, C2, e, e6, e7, _⟩ := e5; rw [e2] at e6; obtain rfl : g' = g2 := by simpa using e6
         simp only [D.off, Option.some.injEq] at e3; rw [e4, ← e3]; exact e7.symm
       have := b0A xs _ (ds ++ [.ref b]) (css ++ [[a.eval x]]) h h1 ((A6.mono h2 _ _ hr).append (.one (by rw [hx, h3]; exact h4.cell rfl))); simpa using this
     · exact h.elim
   · exact other _ rfl h
section
variable (hd : o.dst = some d) (hlt : d < n) (hsz : a.tmps.size = n) (hdef : a.defers = []) (hR : Rel P w0 L0 row w L O σ (B4 a))
include hd hlt hsz hdef hR
theorem b8w {g : FuncId} {caps : Array Operand} (ho : o.op = .makeFunc (.func g) #[] caps) (h : a4z (fun σ' ds => K (put σ' d (.d (.clo g ds)))) caps.toList σ []) : o.wp P a w (B6 P w0 L0 row n K) Q := by
 obtain ⟨L', O', σ', ds', h1, h2, h3⟩ := b0A (a := a) caps.toList σ [] [] h hR (by simp [A6]); refine C8 hd hlt hsz hdef h1 (x := .d (.clo g ds')) (v := .func (.func g) #[] (caps.map a.eval)) ?_ ?_ h2
 · simp [execOp, ho, Instr.makeFunc]
 · refine ⟨?_, rfl⟩; simp only [Rep, Value.cells]; refine ⟨_, h3, ?_⟩; have : ∀ (l : List Operand), (l.map fun x => [a.eval x]).flatten = l.map a.eval := by
     intro l
     induction l with
     | nil => rfl
     | cons x xs ih => simp [ih]
   rw [nil_append, this]; congr 2
   apply Array.ext'
   simp
end
def b0I (C : List D → Prop) (σ : St) : List Operand → List D → Prop
 | [], ds => C ds
 | x :: xs, ds => match asD (A0 σ x) with
   | some z => b0I C σ xs (ds ++ [z])
   | none => False
theorem b7L {C : List D → Prop} (hR : Rel P w0 L0 row w L O σ (B4 a)) : ∀ (xs : List Operand) (ds : List D) (vs : List Value), b0I C σ xs ds → A6 w L ds (vs.map fun v => v.cells.toList) → vs.map I4 = ds.map D.isAgg →
   ∃ ds', C ds' ∧ A6 w L ds' ((vs ++ xs.map a.eval).map fun v => v.cells.toList) ∧ (vs ++ xs.map a.eval).map I4 = ds'.map D.isAgg
 | [], ds, vs, h, h1, h2 => ⟨ds, h, by simpa using h1, by simpa using h2⟩
 | x :: xs, ds, vs, h, h1, h2 => by
   simp only [b0I] at h; cases hz : asD (A0 σ x) with
   | none => rw [hz] at h; exact h.elim
   | some z =>
     rw [hz] at h; have hx := I7 hR (x := x) hz; have := b7L hR xs (ds ++ [z]) (vs ++ [a.eval x]) h (by rw [map_append]; exact h1.append (.one hx.1)) (by rw [map_append, map_append, h2]; simp [hx.2]); simpa using this
section
variable (hd : o.dst = some d) (hlt : d < n) (hsz : a.tmps.size = n) (hdef : a.defers = []) (hR : Rel P w0 L0 row w L O σ (B4 a))
include hd hlt hsz hdef hR
theorem c1T {g : FuncId} {first : Array Operand} (ho : o.op = .makeFunc (.func g) first #[]) (h : b0I (fun ds => K (put σ d (.d (.bnd g ds)))) σ first.toList []) : o.wp P a w (B6 P w0 L0 row n K) Q := by
 obtain ⟨ds', h2, h3, h4⟩ := b7L (a := a) hR first.toList [] [] h (by simp [A6]) rfl; refine C8 hd hlt hsz hdef hR (x := .d (.bnd g ds')) (v := .func (.func g) (first.map a.eval) #[]) ?_ ?_ h2
 · simp [execOp, ho, Instr.makeFunc]
 · refine ⟨?_, rfl⟩
   show Rep w L (.bnd g ds') [Value.func (.func g) (first.map a.eval) #[]]
   simp only [Rep]; refine ⟨first.toList.map a.eval, by simpa using h3, by simpa using h4, ?_⟩; congr 2
   apply Array.ext'
   simp
end
def b2S (σ : St) (x : Operand) : Option AV :=
 match A0 σ x with
 | .bor _ true e l => some (.own true e l)
 | y => (asD y).map .d
def Y3 (σ : St) : List Operand → Option (List AV)
 | [] => some []
 | x :: xs => match b2S σ x, Y3 σ xs with
   | some y, some ys => some (y :: ys)
   | _, _ => none
def N4 (σ : St) : List Operand → List Nat
 | [] => []
 | x :: xs => match A0 σ x with
   | .bor j true _ _ => j :: N4 σ xs
   | _ => N4 σ xs
def eat (σ : St) : List Nat → St
 | [] => σ
 | j :: js => eat (put σ j .undef) js
def O8 (b : Bool) : AV → AV
 | .own true e l => .own b e l
 | x => x
theorem b3k (hR : Rel P w0 L0 row w L O σ (B4 a)) (og : Option Nat) : ∀ (xs : List Operand) (xa : List AV), Y3 σ xs = some xa → (∀ j ∈ N4 σ xs, (B4 a j).ownBlock = og) → RCs P w L og xa (xs.map a.eval)
 | [], xa, h, _ => by simp only [Y3, Option.some.injEq] at h; subst h; simp [RCs]
 | x :: xs, xa, h, hj => by
   simp only [Y3] at h; split at h
   · rename_i y ys hy hys
     simp only [Option.some.injEq] at h; subst h; simp only [map_cons, RCs]; have hrest : ∀ j ∈ N4 σ xs, (B4 a j).ownBlock = og := by
       intro j hj'; refine hj j ?_; simp only [N4]; split
       · exact mem_cons_of_mem _ hj'
       · exact hj'
     refine ⟨_, _, rfl, ?_, b3k hR og xs ys hys hrest⟩; simp only [b2S] at hy; have h1 := H2 hR x; have other : ∀ z, A0 σ x = z → (asD z).map AV.d = some y → RC P w L og y (a.eval x) := by
       intro z hz h2; simp only [Option.map_eq_some_iff] at h2; obtain ⟨u, hu, rfl⟩ := h2; have := I7 hR (x := x) (by rw [hz]; exact hu); simpa only [RC] using this
     split at hy
     · rename_i j e l hx
       simp only [Option.some.injEq] at hy; subst hy; rw [hx] at h1; obtain ⟨h2, h3⟩ := h1; have h4 := hR.slots j; rw [h2] at h4; have hb := hj j (by simp [N4, hx]); obtain ⟨css, sz, g1, g2, g3, g4, g5⟩ : D9 P w L (O j) true e l (B4 a j) := h4; rw [h3]; exact ⟨css, sz, g1, g2, g3, g4, fun g hg => ⟨by rw [← hb]; exact hg, (g5 g hg).2⟩⟩
     · exact other _ rfl hy
   · cases h
theorem RC.demote {og : Option Nat} {x : AV} {v : Value} (b : Bool) (hlok : ∀ b q, L b q → b < w.heap.size) (hog : ∀ g, og = some g → g < w.heap.size) (h : RC P w L og x v) :
   ∃ L', RC P w L' og (Vw.O8 b x) v ∧ (∀ c q, L' c q → c < w.heap.size) ∧ (∀ c q, some c ≠ og → (L' c q ↔ L c q)) ∧ Ext w L w L' := by
 have same : ∃ L', RC P w L' og x v ∧ (∀ c q, L' c q → c < w.heap.size) ∧ (∀ c q, some c ≠ og → (L' c q ↔ L c q)) ∧ Ext w L w L' := ⟨L, h, hlok, fun _ _ _ => Iff.rfl, fun _ _ h => ⟨h, fun _ hv => hv⟩⟩; cases x with
 | own m e l =>
   cases m with
   | false => exact same
   | true =>
     cases b with
     | true => exact same
     | false =>
       obtain ⟨css, sz, g1, g2, g3, g4, g5⟩ : D9 P w L og true e l v := h; cases hv : v.ownBlock with
       | none =>
         exact ⟨L, ⟨css, sz, g1, g2, g3, g4, fun g hg => by rw [hv] at hg; cases hg⟩, hlok, fun _ _ _ => Iff.rfl, fun _ _ h => ⟨h, fun _ hv => hv⟩⟩
       | some g =>
         have h5 := g5 g hv; have hext : Ext w L w (a1o L g (l.length * sz)) := fun _ _ hq => ⟨.inl hq, fun _ hv => hv⟩
         refine ⟨a1o L g (l.length * sz), ⟨css, sz, g1, A6.mono hext _ _ g2, g3, g4, fun g' hg' => ?_⟩, fun c q hq => ?_, fun c q hc => ⟨fun hq => ?_, .inl⟩, hext⟩
         · rw [hv] at hg'; obtain rfl : g = g' := by simpa using hg'
           refine ⟨h5.1, fun q => ?_⟩; have := h5.2 q; simp only [Bool.true_eq_false, false_and, iff_false] at this; simp [a1o, this]
         · rcases hq with hq | ⟨rfl, _⟩
           · exact hlok c q hq
           · exact hog c h5.1
         · rcases hq with hq | ⟨rfl, _⟩
           · exact hq
           · exact absurd h5.1.symm hc
 | undef => exact same
 | d _ => exact same
 | nils => exact same
 | full _ => exact same
 | bor _ _ _ _ => exact same
 | box _ => exact same
 | adr _ _ => exact same
 | eadr _ _ _ => exact same
 | tup _ => exact same
 | iter _ _ => exact same
 | hs _ _ _ => exact same
 | hb _ _ _ => exact same
 | hm _ _ _ _ => exact same
 | mit _ _ _ => exact same
 | sub _ _ => exact same
theorem RC.toRA {og : Option Nat} {x : AV} {v : Value} (h : RC P w L og x v) (O : Nat → Option Nat) (σ : St) (tm : Nat → Value) (d : Nat) : RA P w L O σ tm og (E0 d x) v := by
 cases x with
 | bor _ _ _ _ => simp only [RC] at h
 | adr _ _ => simp only [RC] at h
 | eadr _ _ _ => simp only [RC] at h
 | iter _ _ => simp only [RC] at h
 | mit _ _ _ => simp only [RC] at h
 | hm _ _ _ _ => exact h
 | sub _ _ => simp only [RC] at h
 | box _ => exact h
 | hs _ _ _ => exact h
 | hb _ _ _ => exact h
 | undef => exact h
 | d _ => exact h
 | nils => exact h
 | full _ => exact h
 | own _ _ _ => exact h
 | tup _ => exact h
theorem a0M {caps : List D} {css : List (List Value)} (h : A6 w L caps css) (hc : ∀ c ∈ caps, c.isAgg = false) (og : Option Nat) : RCs P w L og (caps.map .d) css.flatten := by
 induction caps generalizing css with
 | nil => simp only [A6] at h; subst h; simp [RCs]
 | cons c cs ih =>
   simp only [A6] at h; obtain ⟨x, xs, rfl, h1, h2⟩ := h; obtain ⟨u, rfl, hu⟩ := a9A h1 (hc c (by simp)); simp only [map_cons, RCs, flatten_cons, singleton_append]; refine ⟨u, _, rfl, ?_, ih h2 (fun c hc' => hc c (by simp [hc']))⟩; simp only [RC]; exact RepV.of_cell h1 (hc c (by simp)) hu
theorem RCs.append {og : Option Nat} : ∀ {xs ys : List AV} {us vs : List Value}, RCs P w L og xs us → RCs P w L og ys vs → RCs P w L og (xs ++ ys) (us ++ vs)
 | [], _, _, _, h, k => by simp only [RCs] at h; subst h; simpa using k
 | x :: xs, _, _, _, h, k => by
   simp only [RCs] at h; obtain ⟨v, us, rfl, h1, h2⟩ := h; simp only [cons_append, RCs]; exact ⟨v, _, rfl, h1, h2.append k⟩
theorem a1m {g : FuncId} {caps : List D} {v : Value} (h : RepV w L (.clo g caps) v) : ∃ css, A6 w L caps css ∧ v = .func (.func g) #[] css.flatten.toArray := by
 have h1 := h.cell rfl; simp only [Rep] at h1; obtain ⟨css, h2, h3⟩ := h1; exact ⟨css, h2, by simpa using h3⟩
section
variable (hd : o.dst = some d) (hlt : d < n) (hsz : a.tmps.size = n) (hdef : a.defers = []) (hR : Rel P w0 L0 row w L O σ (B4 a))
include hd hlt hsz hdef hR
theorem b6z {f : Operand} {args : Array Operand} {ts : Array TypeId} (ho : o.op = .call { callee := .value f, args, argTypes := ts }) {g : FuncId} {caps : List D} (hf : A0 σ f = .d (.clo g caps)) (hc : ∀ c ∈ caps, c.isAgg = false)
   {xa : List AV} (ha : Y3 σ args.toList = some xa) (he : (N4 σ args.toList).length ≤ 1) {r : AV} (hfn : Ctr P g (xa ++ caps.map .d) r) (b : Bool) (h : K (put (eat σ (N4 σ args.toList)) d (O8 b r))) :
   o.wp P a w (B6 P w0 L0 row n K) Q := by
 obtain ⟨css, hcs, hfv⟩ := a1m (E6 hR hf); have hexec : (execOp a.eval o).run P w = .ok (.enter g (args.map a.eval ++ css.flatten.toArray)) w := by
   simp only [execOp, ho, resolve, hfv, Deferred.ofValue, Sem.run_bind, Sem.run_pure, Result.andThen_ok, invoke, Array.empty_append, hfn.1 _ w]
 have hvals : (args.map a.eval ++ css.flatten.toArray) = (args.toList.map a.eval ++ css.flatten).toArray := by
   apply Array.ext'; simp
 unfold Oper.wp; rw [hexec, Oper.upon_enter, hvals]; have eat_ok : ∃ og O1, (∀ j ∈ N4 σ args.toList, (B4 a j).ownBlock = og) ∧ (∀ g, og = some g → g < w.heap.size ∧ (w0.heap.size ≤ g ∨ row g) ∧ (∀ q, ¬ L g q) ∧ ∀ i, O1 i ≠ some g) ∧
     Rel P w0 L0 row w L O1 (eat σ (N4 σ args.toList)) (B4 a) := by
   match hE : N4 σ args.toList, he with
   | [], _ => exact ⟨none, O, by simp, by simp, by simpa [eat] using hR⟩
   | [j], _ =>
     have h1 := hR.forget j; refine ⟨(B4 a j).ownBlock, B0 O j none, by simp, fun g hg => ?_, by simpa [eat] using h1⟩; have key : ∀ (xs : List Operand), j ∈ N4 σ xs → ∃ e l, σ j = .own true e l := by
       intro xs
       induction xs with
       | nil => intro h; simp [N4] at h
       | cons x xs ih =>
         intro h; simp only [N4] at h; split at h
         · rename_i j' e l hx
           rcases mem_cons.1 h with h | h
           · subst h; have := H2 hR x; rw [hx] at this; exact ⟨e, l, this.1⟩
           · exact ih h
         · exact ih h
     obtain ⟨e, l, hj⟩ := key args.toList (by rw [hE]; simp); have h2 := hR.slots j; rw [hj] at h2; obtain ⟨css, sz, g1, g2, g3, g4, g5⟩ : D9 P w L (O j) true e l (B4 a j) := h2; have h3 := g5 g hg; refine ⟨(hR.olt j g h3.1).1, (hR.olt j g h3.1).2, fun q hq => by have := (h3.2 q).1 hq; simp at this, fun i hi => ?_⟩; simp only [B0] at hi; split at hi
     · cases hi
     · exact absurd (hR.inj i j g hi h3.1) (by assumption)
 obtain ⟨og, O1, hog, hogp, hR1⟩ := eat_ok; refine (hfn.2 w L og _ hR.lok hR.gl (fun g hg => ⟨(hogp g hg).1, (hogp g hg).2.2.1⟩) (RCs.append (b3k hR og args.toList xa ha hog) (a0M hcs hc og))).mono ?_; rintro e w' ⟨v, L', og', rfl, hgr, hlok', hold', hog', hrc⟩
 show B6 P w0 L0 row n K (a.put o.dst v) w'
 obtain ⟨L2, hrc2, hlok2, hold2, hext2⟩ := hrc.demote b hlok' (fun g hg => (hog' g hg).1); have hS : F4 w L w' L2 (E9 og) := by
   have hL : ∀ c q, c < w.heap.size → ¬ E9 og c → (L2 c q ↔ L c q) := fun c q hc hne => by
     refine (hold2 c q (fun e => ?_)).trans (hold' c q hc hne); rcases (hog' c e.symm).2 with h1 | h1
     · omega
     · exact hne h1
   refine ⟨fun c q hq => ?_, fun c hc hne => hgr.block c hc hne, hL⟩; have hc := hR.lok c q hq; have hne : ¬ E9 og c := fun e => (hogp c e).2.2.1 q hq
   refine ⟨(hL c q hc hne).2 hq, fun u hu => ?_⟩; rw [G7 (hgr.block c hc hne)]; exact hu
 refine ⟨L2, B0 O1 d og', put (eat σ (N4 σ args.toList)) d (Vw.O8 b r), ?_, ?_, ?_, h⟩
 · rw [hd, Z0 (by omega)]; refine hR1.putOwn d (Vw.O8 b r) v og' (E9 og) hS (hR.grown.then hgr (fun g hg => (hogp g hg).2.1)) hgr.size hlok2 (fun g hg => (hogp g hg).2.1) (fun i g _ hi e => (hogp g e).2.2.2 i hi) (fun g hg => ?_) (RC.toRA hrc2 _ _ _ _); refine ⟨(hog' g hg).1, ?_, fun i _ hi => ?_⟩
   · rcases (hog' g hg).2 with h1 | h1
     · exact .inl (Nat.le_trans hR.grown.size h1)
     · exact (hogp g h1).2.1
   · rcases (hog' g hg).2 with h1 | h1
     · have := (hR1.olt i g hi).1; omega
     · exact (hogp g h1).2.2.2 i hi
 · rw [hd]; simpa [Act.put] using hdef
 · rw [hd]; simpa [Act.put] using hsz
end
theorem b8d {g : FuncId} {first : List D} {v : Value} (h : RepV w L (.bnd g first) v) : ∃ vs : List Value, RCs P w L none (first.map .d) vs ∧ v = .func (.func g) vs.toArray #[] := by
 have h1 := h.cell rfl; simp only [Rep] at h1; obtain ⟨vs, h2, h3, h4⟩ := h1; refine ⟨vs, ?_, by simpa using h4⟩; clear h4 h
 induction first generalizing vs with
 | nil =>
   simp only [A6] at h2; obtain rfl : vs = [] := by simpa using h2
   simp [RCs]
 | cons d ds ih =>
   simp only [A6] at h2; obtain ⟨c, cs, e, h5, h6⟩ := h2; cases vs with
   | nil => simp at e
   | cons u us =>
     simp only [map_cons, List.cons.injEq] at e h3; obtain ⟨rfl, rfl⟩ := e; simp only [map_cons, RCs]; exact ⟨u, us, rfl, ⟨h5, h3.1⟩, ih us h6 h3.2⟩
section
variable (hd : o.dst = some d) (hlt : d < n) (hsz : a.tmps.size = n) (hdef : a.defers = []) (hR : Rel P w0 L0 row w L O σ (B4 a))
include hd hlt hsz hdef hR
theorem c1c {f : Operand} {args : Array Operand} {ts : Array TypeId} (ho : o.op = .call { callee := .value f, args, argTypes := ts }) {g : FuncId} {first : List D} (hf : A0 σ f = .d (.bnd g first))
   {xa : List AV} (ha : Y3 σ args.toList = some xa) (he : N4 σ args.toList = []) {r : AV} (hfn : Ctr P g (first.map .d ++ xa) r) (b : Bool) (h : K (put σ d (O8 b r))) :
   o.wp P a w (B6 P w0 L0 row n K) Q := by
 obtain ⟨vs, hvs, hfv⟩ := b8d (P := P) (E6 hR hf); have hexec : (execOp a.eval o).run P w = .ok (.enter g (vs.toArray ++ args.map a.eval)) w := by
   simp only [execOp, ho, resolve, hfv, Deferred.ofValue, Sem.run_bind, Sem.run_pure, Result.andThen_ok, invoke, Array.append_empty, hfn.1 _ w]
 have hvals : (vs.toArray ++ args.map a.eval) = (vs ++ args.toList.map a.eval).toArray := by
   apply Array.ext'; simp
 unfold Oper.wp; rw [hexec, Oper.upon_enter, hvals]; refine (hfn.2 w L none _ hR.lok hR.gl (by simp) (RCs.append hvs (b3k hR none args.toList xa ha (by rw [he]; simp)))).mono ?_; rintro e w' ⟨v, L', og', rfl, hgr, hlok', hold', hog', hrc⟩
 show B6 P w0 L0 row n K (a.put o.dst v) w'
 obtain ⟨L2, hrc2, hlok2, hold2, hext2⟩ := hrc.demote b hlok' (fun g hg => (hog' g hg).1); have hS : F4 w L w' L2 (E9 none) := by
   have hL : ∀ c q, c < w.heap.size → ¬ E9 none c → (L2 c q ↔ L c q) := fun c q hc hne => by
     refine (hold2 c q (fun e => ?_)).trans (hold' c q hc hne); rcases (hog' c e.symm).2 with h1 | h1
     · omega
     · cases h1
   refine ⟨fun c q hq => ?_, fun c hc hne => hgr.block c hc hne, hL⟩; have hc := hR.lok c q hq; have hne : ¬ E9 none c := fun e => by simp [E9] at e
   refine ⟨(hL c q hc hne).2 hq, fun u hu => ?_⟩; rw [G7 (hgr.block c hc hne)]; exact hu
 refine ⟨L2, B0 O d og', put σ d (Vw.O8 b r), ?_, ?_, ?_, h⟩
 · rw [hd, Z0 (by omega)]; refine hR.putOwn d (Vw.O8 b r) v og' (E9 none) hS (hR.grown.then hgr (fun g hg => by simp [E9] at hg)) hgr.size hlok2 (fun g hg => by simp [E9] at hg) (fun i g _ hi e => by simp [E9] at e) (fun g hg => ?_) (RC.toRA hrc2 _ _ _ _); refine ⟨(hog' g hg).1, ?_, fun i _ hi => ?_⟩
   · rcases (hog' g hg).2 with h1 | h1
     · exact .inl (Nat.le_trans hR.grown.size h1)
     · cases h1
   · rcases (hog' g hg).2 with h1 | h1
     · have := (hR.olt i g hi).1; omega
     · cases h1
 · rw [hd]; simpa [Act.put] using hdef
 · rw [hd]; simpa [Act.put] using hsz
end
end Go.Vw
namespace Go.Vw
open Go.RowKit Go.Proofs
variable {P : Program} {w0 : World} {L0 : Nat → Nat → Prop} {row : Nat → Prop} {n : Nat} {K : St → Prop} {Q : Exit → Act → World → Prop}
 {w w' : World} {L L' : Nat → Nat → Prop} {O O' : Nat → Option Nat} {σ σ' : St} {a : Act} {o : Oper} {d : Nat} {v : Value} {tm : Nat → Value}
theorem b3s (z : Array Value) (k : Nat) : (Builtin.zeroCells z k).toList = (replicate k z.toList).flatten := by
 have h : ∀ k, (List.range (k * z.size)).map (fun i => z[i % z.size]!) = (replicate k z.toList).flatten := by
   intro k
   induction k with
   | zero => simp
   | succ k ih =>
     rw [Nat.succ_mul, range_add, map_append, ih, replicate_succ', flatten_append]; congr 1
     simp only [map_map, flatten_cons, flatten_nil, append_nil]; apply ext_getElem
     · simp
     · intro i h1 h2; simp only [length_map, length_range] at h1; have e : (k * z.size + i) % z.size = i := by rw [Nat.add_comm, Nat.add_mul_mod_self_right, Nat.mod_eq_of_lt h1]
       simp only [getElem_map, getElem_range, Function.comp_apply, e, Array.getElem_toList]; exact getElem!_pos z i h1
 simp only [Builtin.zeroCells, Array.toList_map, Array.toList_range]; exact h k
theorem D9.cut {og : Option Nat} {e : TypeId} {l : List D} {A : Option Addr} {k cap hi m : Nat} (h : D9 P w L og true e l (.slice A k cap)) (h1 : hi ≤ l.length) (h2 : hi ≤ m) (h3 : m ≤ cap) : D9 P w L og true e (l.take hi) (.slice A hi m) := by
 obtain ⟨css, sz, g1, g2, g3, g4, g5⟩ := h; have hlen : (l.take hi).length = hi := by simp; omega
 have hfl : (css.take hi).flatten.length = hi * sz := by
   rw [R4 (fun c hc => g3 c (mem_of_mem_take hc)), length_take, g2.count, Nat.min_eq_left h1]
 refine ⟨css.take hi, sz, g1, g2.take hi, fun c hc => g3 c (mem_of_mem_take hc), ⟨by rw [hlen, hfl], ?_⟩, fun g hg => ?_⟩
 · rw [hlen]; rcases g4.2 with ⟨hv, hn⟩ | ⟨g, cp, cur, hv, hh, hnc, hcm, hcs, htk⟩
   · simp only [Value.slice.injEq] at hv; obtain ⟨rfl, rfl, rfl⟩ := hv; obtain rfl : m = 0 := by omega
     obtain rfl : hi = 0 := by omega
     exact .inl ⟨rfl, rfl⟩
   · simp only [Value.slice.injEq] at hv; obtain ⟨rfl, rfl, rfl⟩ := hv; refine .inr ⟨g, m, cur, rfl, hh, h2, by omega, Nat.le_trans (Nat.mul_le_mul_right _ h3) hcs, ?_⟩; have e1 : cur.toList.take (hi * sz) = (cur.toList.take (l.length * sz)).take (hi * sz) := by
       rw [take_take, Nat.min_eq_left (Nat.mul_le_mul_right _ h1)]
     rw [e1, htk]; have e2 : css.flatten = (css.take hi).flatten ++ (css.drop hi).flatten := by rw [← flatten_append, take_append_drop]
     rw [e2, ← hfl, take_left]
 · have := g5 g (by cases A <;> simp [Value.ownBlock] at hg ⊢; exact hg); exact ⟨this.1, fun q => by simpa using this.2 q⟩
theorem D9.shape2 {og : Option Nat} {m : Bool} {e : TypeId} {l : List D} {v : Value} (h : D9 P w L og m e l v) : ∃ A c, v = .slice A l.length c ∧ l.length ≤ c ∧ ∀ (k s : Nat), (if k = 0 then A else A.map (·.add (0 * s))) = A := by
 obtain ⟨css, sz, h1, h2, h3, h4, h5⟩ := h; rcases h4.2 with ⟨hv, hn⟩ | ⟨g, cap, cur, hv, _, hc, _⟩
 · exact ⟨none, 0, by rw [hv, hn], by omega, by simp⟩
 · exact ⟨_, _, hv, hc, fun k s => by simp [Addr.add_lit]⟩
section
variable (hd : o.dst = some d) (hlt : d < n) (hsz : a.tmps.size = n) (hdef : a.defers = []) (hR : Rel P w0 L0 row w L O σ (B4 a))
include hd hlt hsz hdef hR
theorem c8U {t e e' sz : Nat} {x hi : Operand} (ho : o.op = .slice t x none (some hi) none) (ht : P.underlying t = some (.slice e)) (hz : D2 P e = some sz) {j : Nat} {l : List D} (hx : A0 σ x = .bor j true e' l) (he : ety e' = e) {i : Nat}
   (hi' : bnd σ (some hi) 0 = some i) (h1 : i ≤ l.length) (h : K (put (put σ j .undef) d (.own true e' (l.take i)))) : o.wp P a w (B6 P w0 L0 row n K) Q := by
 subst he; have h2 := H2 hR x; rw [hx] at h2; obtain ⟨h2, h3⟩ := h2; have h4 := hR.slots j; rw [h2] at h4; have h4' : D9 P w L (O j) true e' l (B4 a j) := h4; obtain ⟨A, c, hv, hcap, hA⟩ := h4'.shape2; rw [hv] at h4'; have own := h4'.cut h1 (Nat.le_trans h1 hcap) (Nat.le_refl c); refine G4 hd hlt hsz hdef (v := .slice A i c) ?_ (hR.move j d .undef (.own true e' (l.take i)) (.slice A i c) (by simp [RA, RC]) own rfl (fun _ _ _ _ h => h)) h; have e1 : (Instr.sliceBounds true l.length c none ((some hi).map a.eval) none).run P w = .ok (0, i, c) w := by
   rcases a1J hR hi' with ⟨hc, _⟩ | ⟨y, k, hy, hz⟩
   · cases hc
   · simp only [Option.some.injEq] at hy; subst hy; have hi2 : (0 : Int) ≤ i ∧ (i : Int) ≤ (c : Int) := (by omega); simp [Instr.sliceBounds, Instr.sliceBound, asIntOf, hz, hi2]; intro hh; omega
 simp only [execOp, ho, h3, hv, Instr.sliceAt, Instr.slice, Sem.run_bind, run_underlying ht, Result.andThen_ok, Option.map_none, e1, Sem.run_pure, H0 hz, hA, Nat.sub_zero]
theorem c3F {t e e' sz : Nat} {x hi mx : Operand} (ho : o.op = .slice t x none (some hi) (some mx)) (ht : P.underlying t = some (.slice e)) (hz : D2 P e = some sz) {j : Nat} {u : Value} {l : List D} (hx : A0 σ x = .d (.raw u)) (hj : σ j = .hs u e' l) (he : ety e' = e)
   {i : Nat} (hi' : bnd σ (some hi) 0 = some i) (hm' : bnd σ (some mx) 0 = some i) (h1 : i ≤ l.length) (h : K (put (put σ j .undef) d (.own true e' (l.take i)))) : o.wp P a w (B6 P w0 L0 row n K) Q := by
 subst he; have h3 : a.eval x = u := (E6 hR hx).raw_inv; have h4 := hR.slots j; rw [hj] at h4; have h4' : D9 P w L (O j) true e' l u := h4; obtain ⟨A, c, hv, hcap, hA⟩ := h4'.shape2; subst hv; have own := h4'.cut h1 (Nat.le_refl i) (Nat.le_trans h1 hcap); refine G4 hd hlt hsz hdef (v := .slice A i i) ?_ (hR.move j d .undef (.own true e' (l.take i)) (.slice A i i) (by simp [RA, RC]) own rfl (fun _ _ _ _ h => h)) h; have e1 : (Instr.sliceBounds true l.length c none ((some hi).map a.eval) ((some mx).map a.eval)).run P w = .ok (0, i, i) w := by
   rcases a1J hR hi' with ⟨hc, _⟩ | ⟨y, k, hy, hz⟩
   · cases hc
   · rcases a1J hR hm' with ⟨hc, _⟩ | ⟨y2, k2, hy2, hz2⟩
     · cases hc
     · simp only [Option.some.injEq] at hy hy2; subst hy; subst hy2; have hi2 : (0 : Int) ≤ i ∧ (i : Int) ≤ (c : Int) := (by omega); simp [Instr.sliceBounds, Instr.sliceBound, asIntOf, hz, hz2, hi2]
 simp only [execOp, ho, h3, Instr.sliceAt, Instr.slice, Sem.run_bind, run_underlying ht, Result.andThen_ok, Option.map_none, e1, Sem.run_pure, H0 hz, hA, Nat.sub_zero]
omit hd hlt hsz hdef in
theorem b1W {t e e' ty : Nat} {x : Operand} (ht : P.underlying t = some (.slice e)) {j lo : Nat} {l : List D} (hx : A0 σ x = .sub j lo) (hj : σ j = .own true e' l) (he : ety e' = e)
   {z : D} (hz : D4 P e = some z) (hw : D2 P e = some (A9 z)) :
   ∃ w' O', (Builtin.clear_ #[t] ty #[a.eval x]).run P w = .ok (.tuple #[]) w' ∧ Rel P w0 L0 row w' L O' (put σ j (.own true e' (l.take lo ++ replicate (l.length - lo) z))) (B4 a) := by
 subst he; have h1 := H2 hR x; rw [hx] at h1; obtain ⟨e2, l2, sz, h2, h3, h4, h5⟩ := h1; rw [hj] at h2; simp only [K1, Option.some.injEq, Prod.mk.injEq] at h2; obtain ⟨rfl, rfl⟩ := h2; have hval : U1 (σ j) (B4 a j) = B4 a j := by rw [hj]; rfl
 rw [hval] at h5; have h6 := hR.slots j; rw [hj] at h6; obtain ⟨css, sz', g1, g2, g3, g4, g5⟩ : D9 P w L (O j) true e' l (B4 a j) := h6; obtain rfl : sz = sz' := by rw [h3] at g1; simpa using g1
 obtain rfl : sz = A9 z := by
   have : D2 P (ety e') = some sz := h3; rw [this] at hw; simpa using hw
 obtain ⟨zv, hzv, hzr, _⟩ := a3w hz w L; have zl : zv.cells.toList.length = A9 z := Rep.len _ _ hzr.1; have key : ∃ w', (Builtin.clear_ #[t] ty #[a.eval x]).run P w = .ok (.tuple #[]) w' ∧ D9 P w' L (O j) true e' (l.take lo ++ replicate (l.length - lo) z) (B4 a j) ∧ F4 w L w' L (E9 (O j)) ∧ E8 w w' (E9 (O j)) ∧ w'.heap.size = w.heap.size := by
   have same0 : lo = l.length → D9 P w L (O j) true e' (l.take lo ++ replicate (l.length - lo) z) (B4 a j) := by
     rintro rfl; simp only [take_length, Nat.sub_self, replicate_zero, append_nil]; exact ⟨css, _, g1, g2, g3, g4, g5⟩
   rcases h5 with ⟨h5, h6⟩ | ⟨g, c, A, h5, h6, h7⟩
   · rw [h6]; have hl0 : l.length = 0 := by
       rcases g4.2 with ⟨_, hn⟩ | ⟨g, cp, cur, hv, _⟩
       · exact hn
       · rw [h5] at hv; cases hv
     exact ⟨w, by simp [Builtin.clear_, run_underlying ht], same0 (by omega), F4.refl _ _ _, E8.refl _ _, rfl⟩
   · rw [h6]; by_cases hlo : lo = l.length
     · refine ⟨w, ?_, same0 hlo, F4.refl _ _ _, E8.refl _ _, rfl⟩; subst hlo; simp [Builtin.clear_, run_underlying ht]
     · obtain rfl := h7 (by omega); have hO := g5 g (by rw [h5]; rfl); rcases g4.2 with ⟨hv, hn⟩ | ⟨g', cp, cur, hv, hh, hnc, hcm, hcs, htk⟩
       · omega
       · rw [h5] at hv; simp only [Value.slice.injEq, Option.some.injEq, Addr.mk.injEq, and_true, true_and] at hv; obtain ⟨rfl, rfl⟩ := hv; have hzc : (Builtin.zeroCells zv.cells (l.length - lo)).toList = (replicate (l.length - lo) zv.cells.toList).flatten := by
           exact b3s _ _
         have hzl : (Builtin.zeroCells zv.cells (l.length - lo)).toList.length = (l.length - lo) * A9 z := by
           rw [hzc, R4 (sz := A9 z) (fun c hc => by rw [(mem_replicate.1 hc).2]; exact zl), length_replicate]
         have hmul : lo * A9 z + (l.length - lo) * A9 z = l.length * A9 z := by rw [← Nat.add_mul]; congr 1; omega
         have hle : l.length * A9 z ≤ cur.size := Nat.le_trans (Nat.mul_le_mul_right _ hnc) hcs; obtain ⟨w', C', f1, f2, f3, f4, f5⟩ := a1P (P := P) (off := lo * A9 z) (Builtin.zeroCells zv.cells (l.length - lo)).toList 0 w cur hh (by unfold mk; split <;> simp) (by rw [hzl]; omega) (by
           rw [hzc]; intro u hu; obtain ⟨c', hc', hu⟩ := mem_flatten.1 hu; rw [(mem_replicate.1 hc').2] at hu; exact Rep.one _ _ hzr.1 u hu)
         have hLg : ∀ q, ¬ L g q := fun q hq => by have := (hO.2 q).1 hq; simp at this
         have hS : F4 w L w' L (E9 (O j)) := by rw [hO.1]; exact F4.write f4 hLg hR.lok
         refine ⟨w', ?_, ?_, hS, by rw [hO.1]; exact .of f4 (K6 _ f1), f5⟩
         · have hn0 : ∃ k, l.length - lo = k + 1 := ⟨l.length - lo - 1, by omega⟩; obtain ⟨k, hk⟩ := hn0; rw [hk] at f1 ⊢; simp [Builtin.clear_, run_underlying ht, hzv, f1]
         · have hsplit : css.flatten = (css.take lo).flatten ++ (css.drop lo).flatten := by rw [← flatten_append, take_append_drop]
           have htl : (css.take lo).flatten.length = lo * A9 z := by
             rw [R4 (fun c hc => g3 c (mem_of_mem_take hc)), length_take, g2.count, Nat.min_eq_left h4]
           have hnl : (l.take lo ++ replicate (l.length - lo) z).length = l.length := by simp; omega
           have hrz : ∀ k, A6 w' L (replicate k z) (replicate k zv.cells.toList) := by
             intro k
             induction k with
             | zero => simp [A6]
             | succ k ih => simp only [replicate_succ, A6]; exact ⟨_, _, rfl, Rep.mono hS.ext _ _ hzr.1, ih⟩
           refine ⟨css.take lo ++ replicate (l.length - lo) zv.cells.toList, A9 z, g1, (A6.mono hS.ext _ _ (g2.take lo)).append (hrz _), fun c' hc' => ?_, ⟨?_, .inr ⟨g, c, C', ?_, ?_, by rw [hnl]; exact hnc, hcm, ?_, ?_⟩⟩, fun q hq => ?_⟩
           · rcases mem_append.1 hc' with hc' | hc'
             · exact g3 c' (mem_of_mem_take hc')
             · rw [(mem_replicate.1 hc').2]; exact zl
           · rw [hnl, flatten_append, length_append, htl, ← hzc, hzl, hmul]
           · rw [hnl]; exact h5
           · have : C'.size = cur.size := by
               rw [← Array.length_toList, f3]; simp only [length_append, length_take, length_drop, Array.length_toList, hzl]; omega
             rw [this]; exact f2
           · have : C'.size = cur.size := by
               rw [← Array.length_toList, f3]; simp only [length_append, length_take, length_drop, Array.length_toList, hzl]; omega
             rw [this]; exact hcs
           · rw [hnl, f3, flatten_append, ← hzc, Nat.add_zero]; have e1 : cur.toList.take (lo * A9 z) = (css.take lo).flatten := by
               have : cur.toList.take (lo * A9 z) = (cur.toList.take (l.length * A9 z)).take (lo * A9 z) := by rw [take_take, Nat.min_eq_left (by omega)]
               rw [this, htk, hsplit, ← htl, take_left]
             rw [e1]; have e2 : ((css.take lo).flatten ++ (Builtin.zeroCells zv.cells (l.length - lo)).toList).length = l.length * A9 z := by rw [length_append, htl, hzl, hmul]
             rw [← e2, take_left]
           · have := g5 q hq; exact ⟨this.1, fun p => by simpa using this.2 p⟩
 obtain ⟨w', hrun, hown, hS, hG, hsz'⟩ := key; have hj1 := hR.putOwn j (.own true e' (l.take lo ++ replicate (l.length - lo) z)) (B4 a j) (O j) (E9 (O j)) hS (hR.grown.then hG (fun g hg => (hR.olt j g hg).2)) (by omega) (fun b q hq => by rw [hsz']; exact hR.lok b q hq)
   (fun g hg => (hR.olt j g hg).2) (fun i g hi hO e => hi (hR.inj i j g hO e)) (fun g hg => ⟨by rw [hsz']; exact (hR.olt j g hg).1, (hR.olt j g hg).2, fun i hi e => hi (hR.inj i j g e hg)⟩) hown
 rw [J2] at hj1; exact ⟨w', _, hrun, hj1⟩
theorem c6r {t e e' : Nat} {x : Operand} (ho : o.op = .call { callee := .builtin .clear, args := #[x], argTypes := #[t] }) (ht : P.underlying t = some (.slice e)) {j lo : Nat} {l : List D} (hx : A0 σ x = .sub j lo) (hj : σ j = .own true e' l) (he : ety e' = e)
   {z : D} (hz : D4 P e = some z) (hw : D2 P e = some (A9 z)) (h : K (put (put σ j (.own true e' (l.take lo ++ replicate (l.length - lo) z))) d (.tup []))) : o.wp P a w (B6 P w0 L0 row n K) Q := by
 obtain ⟨w', O', hrun, hj1⟩ := b1W (ty := o.type) hR ht hx hj he hz hw; refine G4 hd hlt hsz hdef (v := .tuple #[]) (w' := w') ?_ (hj1.putPure d (.tup []) _ ⟨[], rfl, rfl⟩) h; simp only [execOp, ho, resolve, invoke, builtin, Sem.run_bind, Sem.run_pure, Result.andThen_ok, map_toArray, map_cons, map_nil, hrun]
omit hd hlt in
theorem c4M (hd : o.dst = none) {t e e' : Nat} {x : Operand} (ho : o.op = .call { callee := .builtin .clear, args := #[x], argTypes := #[t] }) (ht : P.underlying t = some (.slice e)) {j lo : Nat} {l : List D} (hx : A0 σ x = .sub j lo) (hj : σ j = .own true e' l) (he : ety e' = e)
   {z : D} (hz : D4 P e = some z) (hw : D2 P e = some (A9 z)) (h : K (put σ j (.own true e' (l.take lo ++ replicate (l.length - lo) z)))) : o.wp P a w (B6 P w0 L0 row n K) Q := by
 obtain ⟨w', O', hrun, hj1⟩ := b1W (ty := o.type) hR ht hx hj he hz hw; unfold Oper.wp; have : (execOp a.eval o).run P w = .ok (.value (.tuple #[])) w' := by
   simp only [execOp, ho, resolve, invoke, builtin, Sem.run_bind, Sem.run_pure, Result.andThen_ok, map_toArray, map_cons, map_nil, hrun]
 rw [this]; simp only [Oper.upon, hd, Act.put]; exact ⟨L, O', _, hj1, hdef, hsz, h⟩
end
theorem D9.self {og : Option Nat} {m : Bool} {e : TypeId} {l : List D} {v : Value} (h : D9 P w L og m e l v) : D9 P w L v.ownBlock m e l v := by
 obtain ⟨css, sz, h1, h2, h3, h4, h5⟩ := h; exact ⟨css, sz, h1, h2, h3, h4, fun g hg => ⟨hg, (h5 g hg).2⟩⟩
theorem D9.lift {og og' : Option Nat} {m : Bool} {e : TypeId} {l : List D} {v : Value} (h : D9 P w L og m e l v) (hg : ∀ g, v.ownBlock = some g → og' = some g) : D9 P w L og' m e l v := by
 obtain ⟨css, sz, h1, h2, h3, h4, h5⟩ := h; exact ⟨css, sz, h1, h2, h3, h4, fun g hv => ⟨hg g hv, (h5 g hv).2⟩⟩
theorem D9.blk {og : Option Nat} {e : TypeId} {l : List D} {v : Value} (h : D9 P w L og true e l v) {g : Nat} (hg : v.ownBlock = some g) : og = some g ∧ ∀ q, ¬ L g q := by
 obtain ⟨css, sz, h1, h2, h3, h4, h5⟩ := h; exact ⟨(h5 g hg).1, fun q hq => by have := ((h5 g hg).2 q).1 hq; simp at this⟩
def a7u (P : Program) (f : FuncId) (e : TypeId) (l : List D) (rest : List AV) (l' : List D) : Prop :=
 Enters P f ∧ ∀ (w : World) (L : Nat → Nat → Prop) (og : Option Nat) (v : Value) (vals : List Value), (∀ b q, L b q → b < w.heap.size) → GL P w L → D9 P w L og true e l v → RCs P w L none rest vals →
   Calls P f (v :: vals).toArray w fun x w' => ∃ L', x = .returned (.tuple #[]) ∧ E8 w w' (E9 og) ∧ (∀ b q, L' b q → b < w'.heap.size) ∧ (∀ b q, b < w.heap.size → ¬ E9 og b → (L' b q ↔ L b q)) ∧ D9 P w' L' og true e l' v
def a7D : D → Bool
 | .bool _ => true
 | .int _ _ => true
 | .str _ => true
 | .nilp => true
 | .raw _ => true
 | _ => false
theorem c2U {d : D} (hf : a7D d = true) {v : Value} (h : RepV w L d v) : RepV w' L' d v := by
 refine ⟨?_, h.2⟩; have := h.1; cases d <;> simp [a7D] at hf <;> simpa only [Rep] using this
def b1Z (σ : St) (x : Operand) : Option AV :=
 match A0 σ x with
 | .bor _ true _ l => some (.d (.sl l))
 | y => (asD y).map .d
def X4 (σ : St) : List Operand → Option (List AV)
 | [] => some []
 | x :: xs => match b1Z σ x, X4 σ xs with
   | some y, some ys => some (y :: ys)
   | _, _ => none
def L3 (σ : St) : List Operand → Option (List AV)
 | [] => some []
 | x :: xs => match asD (A0 σ x), L3 σ xs with
   | some y, some ys => some (.d y :: ys)
   | _, _ => none
theorem a2y (hR : Rel P w0 L0 row w L O σ (B4 a)) : ∀ (xs : List Operand) (xa : List AV), L3 σ xs = some xa → RCs P w L none xa (xs.map a.eval)
 | [], xa, h => by simp only [L3, Option.some.injEq] at h; subst h; simp [RCs]
 | x :: xs, xa, h => by
   simp only [L3] at h; split at h
   · rename_i y ys hy hys
     simp only [Option.some.injEq] at h; subst h; simp only [map_cons, RCs]; exact ⟨_, _, rfl, by simpa only [RC] using I7 hR hy, a2y hR xs ys hys⟩
   · cases h
def c4O (σ : St) (x : Operand) : Option AV := match x with
 | .const (.slice none 0 0) => some (.d (.raw (.slice none 0 0)))
 | x => match asD (A0 σ x) with
   | some y => some (.d y)
   | none => none
def a6U (σ : St) : List Operand → Option (List AV)
 | [] => some []
 | x :: xs => match c4O σ x, a6U σ xs with
   | some y, some ys => some (y :: ys)
   | _, _ => none
theorem b8h (hR : Rel P w0 L0 row w L O σ (B4 a)) : ∀ (xs : List Operand) (xa : List AV), a6U σ xs = some xa → RCs P w L none xa (xs.map a.eval)
 | [], xa, h => by simp only [a6U, Option.some.injEq] at h; subst h; simp [RCs]
 | x :: xs, xa, h => by
   simp only [a6U] at h; split at h
   · rename_i y ys hy hys
     simp only [Option.some.injEq] at h; subst h; simp only [map_cons, RCs]; refine ⟨_, _, rfl, ?_, b8h hR xs ys hys⟩; unfold c4O at hy; split at hy
     · simp only [Option.some.injEq] at hy; subst hy
       show RepV w L (.raw (.slice none 0 0)) (.slice none 0 0)
       exact RepV.raw rfl rfl
     · split at hy
       · rename_i y' hy'
         simp only [Option.some.injEq] at hy; subst hy; simpa only [RC] using I7 hR hy'
       · cases hy
   · cases h
section
variable (hd : o.dst = some d) (hlt : d < n) (hsz : a.tmps.size = n) (hdef : a.defers = []) (hR : Rel P w0 L0 row w L O σ (B4 a))
include hd hlt hsz hdef hR
theorem c0E {f : Operand} {args : Array Operand} {ts : Array TypeId} (ho : o.op = .call { callee := .value f, args, argTypes := ts }) {g : FuncId} {caps : List D} (hf : A0 σ f = .d (.clo g caps)) (hc : ∀ c ∈ caps, c.isAgg = false)
   {xa : List AV} (ha : a6U σ args.toList = some xa) {r : AV} (hfn : Ctr P g (xa ++ caps.map .d) r) (b : Bool) (h : K (put σ d (O8 b r))) :
   o.wp P a w (B6 P w0 L0 row n K) Q := by
 obtain ⟨css, hcs, hfv⟩ := a1m (E6 hR hf); have hexec : (execOp a.eval o).run P w = .ok (.enter g (args.map a.eval ++ css.flatten.toArray)) w := by
   simp only [execOp, ho, resolve, hfv, Deferred.ofValue, Sem.run_bind, Sem.run_pure, Result.andThen_ok, invoke, Array.empty_append, hfn.1 _ w]
 have hvals : (args.map a.eval ++ css.flatten.toArray) = (args.toList.map a.eval ++ css.flatten).toArray := by
   apply Array.ext'; simp
 unfold Oper.wp; rw [hexec, Oper.upon_enter, hvals]; refine (hfn.2 w L none _ hR.lok hR.gl (by simp) (RCs.append (b8h hR args.toList xa ha) (a0M hcs hc none))).mono ?_; rintro e w' ⟨v, L', og', rfl, hgr, hlok', hold', hog', hrc⟩
 show B6 P w0 L0 row n K (a.put o.dst v) w'
 obtain ⟨L2, hrc2, hlok2, hold2, hext2⟩ := hrc.demote b hlok' (fun g hg => (hog' g hg).1); have hS : F4 w L w' L2 (E9 none) := by
   have hL : ∀ c q, c < w.heap.size → ¬ E9 none c → (L2 c q ↔ L c q) := fun c q hc hne => by
     refine (hold2 c q (fun e => ?_)).trans (hold' c q hc hne); rcases (hog' c e.symm).2 with h1 | h1
     · omega
     · cases h1
   refine ⟨fun c q hq => ?_, fun c hc hne => hgr.block c hc hne, hL⟩; have hc := hR.lok c q hq; have hne : ¬ E9 none c := fun e => by simp [E9] at e
   refine ⟨(hL c q hc hne).2 hq, fun u hu => ?_⟩; rw [G7 (hgr.block c hc hne)]; exact hu
 refine ⟨L2, B0 O d og', put σ d (Vw.O8 b r), ?_, ?_, ?_, h⟩
 · rw [hd, Z0 (by omega)]; refine hR.putOwn d (Vw.O8 b r) v og' (E9 none) hS (hR.grown.then hgr (fun g hg => by simp [E9] at hg)) hgr.size hlok2 (fun g hg => by simp [E9] at hg) (fun i g _ hi e => by simp [E9] at e) (fun g hg => ?_) (RC.toRA hrc2 _ _ _ _); refine ⟨(hog' g hg).1, ?_, fun i _ hi => ?_⟩
   · rcases (hog' g hg).2 with h1 | h1
     · exact .inl (Nat.le_trans hR.grown.size h1)
     · cases h1
   · rcases (hog' g hg).2 with h1 | h1
     · have := (hR.olt i g hi).1; omega
     · cases h1
 · rw [hd]; simpa [Act.put] using hdef
 · rw [hd]; simpa [Act.put] using hsz
end
def c8b (P : Program) (f : FuncId) (e : TypeId) (l : List D) (mid : List AV) (e2 : TypeId) (l2 : List D) (r : AV) : Prop :=
 Enters P f ∧ ∀ (w : World) (L : Nat → Nat → Prop) (og og2 : Option Nat) (v v2 : Value) (vals : List Value), (∀ b q, L b q → b < w.heap.size) → GL P w L → D9 P w L og true e l v → D9 P w L og2 true e2 l2 v2 → v.ownBlock = og → v2.ownBlock = og2 →
   (∀ g, og = some g → og2 ≠ some g) → (∀ g, some g = og ∨ some g = og2 → g < w.heap.size) → RCs P w L none mid vals →
   Calls P f (v :: (vals ++ [v2])).toArray w fun x w' => ∃ v' L' og', x = .returned v' ∧ E8 w w' (fun b => some b = og ∨ some b = og2) ∧ (∀ b q, L' b q → b < w'.heap.size) ∧ (∀ b q, b < w.heap.size → ¬ (some b = og ∨ some b = og2) → (L' b q ↔ L b q)) ∧
     (∀ g, og' = some g → g < w'.heap.size ∧ (w.heap.size ≤ g ∨ some g = og ∨ some g = og2)) ∧ RC P w' L' og' r v'
section
variable (hd : o.dst = some d) (hlt : d < n) (hsz : a.tmps.size = n) (hdef : a.defers = []) (hR : Rel P w0 L0 row w L O σ (B4 a))
include hd hlt hsz hdef hR
theorem c5o {f x z : Operand} {ys : List Operand} {args : Array Operand} {ts : Array TypeId} (ho : o.op = .call { callee := .value f, args, argTypes := ts }) (hargs : args.toList = x :: (ys ++ [z])) {g : FuncId} (hf : A0 σ f = .d (.clo g []))
   {j j2 : Nat} {e e2 : TypeId} {l l2 : List D} (hx : A0 σ x = .bor j true e l) (hz : A0 σ z = .bor j2 true e2 l2) (hjj : j ≠ j2)
   {xa : List AV} (ha : L3 σ ys = some xa) {r : AV} (hfn : c8b P g e l xa e2 l2 r) (b : Bool) (h : K (put (put (put σ j .undef) j2 .undef) d (O8 b r))) :
   o.wp P a w (B6 P w0 L0 row n K) Q := by
 obtain ⟨css, hcs, hfv⟩ := a1m (E6 hR hf); simp only [A6] at hcs; subst hcs; have hvals : args.map a.eval = (a.eval x :: (ys.map a.eval ++ [a.eval z])).toArray := by
   apply Array.ext'; simp [hargs]
 have hexec : (execOp a.eval o).run P w = .ok (.enter g (args.map a.eval)) w := by
   simp only [execOp, ho, resolve, hfv, Deferred.ofValue, Sem.run_bind, Sem.run_pure, Result.andThen_ok, invoke, Array.empty_append, hfn.1 _ w, flatten_nil, Array.append_empty]
 have h1 := H2 hR x; rw [hx] at h1; obtain ⟨h1, h2⟩ := h1; have h3 := H2 hR z; rw [hz] at h3; obtain ⟨h3, h4⟩ := h3; have s1 := hR.slots j; rw [h1] at s1; obtain ⟨cs1, z1, p1, p2, p3, p4, p5⟩ : D9 P w L (O j) true e l (B4 a j) := s1; have s2 := hR.slots j2; rw [h3] at s2; obtain ⟨cs2, z2, q1, q2, q3, q4, q5⟩ : D9 P w L (O j2) true e2 l2 (B4 a j2) := s2; generalize hog : (B4 a j).ownBlock = og at *; generalize hog2 : (B4 a j2).ownBlock = og2 at *; have hO1 : ∀ g, og = some g → O j = some g := fun g hg => (p5 g hg).1
 have hO2 : ∀ g, og2 = some g → O j2 = some g := fun g hg => (q5 g hg).1
 have hne : ∀ g, og = some g → og2 ≠ some g := fun g hg hg2 => hjj (hR.inj j j2 g (hO1 g hg) (hO2 g hg2))
 have hown : ∀ g, some g = og ∨ some g = og2 → ∃ i, (i = j ∨ i = j2) ∧ O i = some g := fun g hg => hg.elim (fun h => ⟨j, .inl rfl, hO1 g h.symm⟩) fun h => ⟨j2, .inr rfl, hO2 g h.symm⟩
 have holt : ∀ g, some g = og ∨ some g = og2 → g < w.heap.size ∧ (w0.heap.size ≤ g ∨ row g) ∧ ∀ q, ¬ L g q := fun g hg => by
   obtain ⟨i, _, hi⟩ := hown g hg; refine ⟨(hR.olt i g hi).1, (hR.olt i g hi).2, fun q hq => ?_⟩; rcases hg with hg | hg
   · have := ((p5 g hg.symm).2 q).1 hq; simp at this
   · have := ((q5 g hg.symm).2 q).1 hq; simp at this
 unfold Oper.wp; rw [hexec, Oper.upon_enter, hvals, h2, h4]; refine (hfn.2 w L og og2 _ _ _ hR.lok hR.gl ⟨cs1, z1, p1, p2, p3, p4, fun g hg => ⟨by rw [← hog]; exact hg, (p5 g (by rw [← hog]; exact hg)).2⟩⟩ ⟨cs2, z2, q1, q2, q3, q4, fun g hg => ⟨by rw [← hog2]; exact hg, (q5 g (by rw [← hog2]; exact hg)).2⟩⟩ hog hog2 hne (fun g hg => (holt g hg).1) (a2y hR ys xa ha)).mono ?_; rintro e' w' ⟨v, L', og', rfl, hgr, hlok', hold', hog', hrc⟩
 show B6 P w0 L0 row n K (a.put o.dst v) w'
 obtain ⟨L2, hrc2, hlok2, hold2, hext2⟩ := hrc.demote b hlok' (fun g hg => (hog' g hg).1); have hS : F4 w L w' L2 (fun b => some b = og ∨ some b = og2) := by
   have hL : ∀ c q, c < w.heap.size → ¬ (some c = og ∨ some c = og2) → (L2 c q ↔ L c q) := fun c q hc hne => by
     refine (hold2 c q (fun e => ?_)).trans (hold' c q hc hne); rcases (hog' c e.symm).2 with h1 | h1
     · omega
     · exact hne h1
   refine ⟨fun c q hq => ?_, fun c hc hne => hgr.block c hc hne, hL⟩; have hc := hR.lok c q hq; have hne : ¬ (some c = og ∨ some c = og2) := fun e => (holt c e).2.2 q hq
   refine ⟨(hL c q hc hne).2 hq, fun u hu => ?_⟩; rw [G7 (hgr.block c hc hne)]; exact hu
 have hR2 := (hR.forget j).forget j2; have hO12 : ∀ i g, some g = og ∨ some g = og2 → B0 (B0 O j none) j2 none i ≠ some g := fun i g hg hi => by
   obtain ⟨i', hi', hi2⟩ := hown g hg; simp only [B0] at hi; split at hi
   · cases hi
   · split at hi
     · cases hi
     · have := hR.inj i i' g hi hi2; rcases hi' with rfl | rfl <;> contradiction
 refine ⟨L2, B0 (B0 (B0 O j none) j2 none) d og', put (put (put σ j .undef) j2 .undef) d (Vw.O8 b r), ?_, ?_, ?_, h⟩
 · rw [hd, Z0 (by omega)]; refine hR2.putOwn d (Vw.O8 b r) v og' (fun b => some b = og ∨ some b = og2) hS (hR.grown.then hgr (fun g hg => (holt g hg).2.1)) hgr.size hlok2 (fun g hg => (holt g hg).2.1) (fun i g _ hi e => hO12 i g e hi) (fun g hg => ?_) (RC.toRA hrc2 _ _ _ _); refine ⟨(hog' g hg).1, ?_, fun i _ hi => ?_⟩
   · rcases (hog' g hg).2 with h1 | h1
     · exact .inl (Nat.le_trans hR.grown.size h1)
     · exact (holt g h1).2.1
   · rcases (hog' g hg).2 with h1 | h1
     · have := (hR2.olt i g hi).1; omega
     · exact hO12 i g h1 hi
 · rw [hd]; simpa [Act.put] using hdef
 · rw [hd]; simpa [Act.put] using hsz
end
theorem D9.lend {og : Option Nat} {e : TypeId} {l : List D} {v : Value} (h : D9 P w L og true e l v) (hx : Ext w L w L') (hl : ∀ g, v.ownBlock = some g → ∀ q, L' g q) : RepV w L' (.sl l) v := by
 obtain ⟨css, sz, h1, h2, h3, h4, h5⟩ := h; rcases h4.2 with ⟨hv, hn⟩ | ⟨g, cap, cur, hv, hh, hnc, hcm, hsz, ht⟩
 · subst hv; have hl : l = [] := eq_nil_of_length_eq_zero hn; subst hl; exact a4F
 · subst hv; refine ⟨?_, rfl⟩; simp only [Rep]; refine ⟨some ⟨g, 0, none⟩, cap, css, sz, rfl, A6.mono hx _ _ h2, h3, hnc, fun _ => ⟨g, 0, rfl, fun k u hk => ?_⟩⟩; have hk1 := hk; rw [← ht, getElem?_take] at hk1; split at hk1
   · refine ⟨?_, hl g rfl _⟩; simp only [World.cell?, hh]; simpa using hk1
   · cases hk1
def b1j (σ : St) (tm : Nat → Value) (b : Nat) : Prop := ∃ j e l, σ j = .own true e l ∧ (tm j).ownBlock = some b
theorem b5M (hR : Rel P w0 L0 row w L O σ (B4 a)) (hx : Ext w L w L') (hl : ∀ b, b1j σ (B4 a) b → ∀ q, L' b q) : ∀ (xs : List Operand) (xa : List AV), X4 σ xs = some xa → RCs P w L' none xa (xs.map a.eval)
 | [], xa, h => by simp only [X4, Option.some.injEq] at h; subst h; simp [RCs]
 | x :: xs, xa, h => by
   simp only [X4] at h; split at h
   · rename_i y ys hy hys
     simp only [Option.some.injEq] at h; subst h; simp only [map_cons, RCs]; refine ⟨_, _, rfl, ?_, b5M hR hx hl xs ys hys⟩; simp only [b1Z] at hy; have h1 := H2 hR x; have other : ∀ z, A0 σ x = z → (asD z).map AV.d = some y → RC P w L' none y (a.eval x) := by
       intro z hz h2; simp only [Option.map_eq_some_iff] at h2; obtain ⟨u, hu, rfl⟩ := h2; have := I7 hR (x := x) (by rw [hz]; exact hu); simpa only [RC] using this.mono hx
     split at hy
     · rename_i j e l hxv
       simp only [Option.some.injEq] at hy; subst hy; rw [hxv] at h1; obtain ⟨h2, h3⟩ := h1; have h4 := hR.slots j; rw [h2] at h4; have h4' : D9 P w L (O j) true e l (B4 a j) := h4; rw [h3]; simp only [RC]; exact h4'.lend hx (fun g hg => hl g ⟨j, e, l, h2, hg⟩)
     · exact other _ rfl hy
   · cases h
section
variable (hd : o.dst = some d) (hlt : d < n) (hsz : a.tmps.size = n) (hdef : a.defers = []) (hR : Rel P w0 L0 row w L O σ (B4 a))
include hd hlt hsz hdef hR
theorem b1N {f : Operand} {args : Array Operand} {ts : Array TypeId} (ho : o.op = .call { callee := .value f, args, argTypes := ts }) {g : FuncId} {caps : List D} (hf : A0 σ f = .d (.clo g caps)) (hc : ∀ c ∈ caps, c.isAgg = false)
   {xa : List AV} (ha : X4 σ args.toList = some xa) {y : D} (hy : a7D y = true) (hfn : Ctr P g (xa ++ caps.map .d) (.d y)) (h : K (put σ d (.d y))) :
   o.wp P a w (B6 P w0 L0 row n K) Q := by
 obtain ⟨css, hcs, hfv⟩ := a1m (E6 hR hf); have hexec : (execOp a.eval o).run P w = .ok (.enter g (args.map a.eval ++ css.flatten.toArray)) w := by
   simp only [execOp, ho, resolve, hfv, Deferred.ofValue, Sem.run_bind, Sem.run_pure, Result.andThen_ok, invoke, Array.empty_append, hfn.1 _ w]
 have hvals : (args.map a.eval ++ css.flatten.toArray) = (args.toList.map a.eval ++ css.flatten).toArray := by
   apply Array.ext'; simp
 unfold Oper.wp; rw [hexec, Oper.upon_enter, hvals]; have hlent : ∀ b, b1j σ (B4 a) b → b < w.heap.size ∧ ∀ q, ¬ L b q := by
   rintro b ⟨j, e, l, hj, hb⟩; have h4 := hR.slots j; rw [hj] at h4; obtain ⟨_, _, _, _, _, _, g5⟩ : D9 P w L (O j) true e l (B4 a j) := h4; have h5 := g5 b hb; exact ⟨(hR.olt j b h5.1).1, fun q hq => by have := (h5.2 q).1 hq; simp at this⟩
 have hext : Ext w L w (fun b q => L b q ∨ b1j σ (B4 a) b) := fun b q hq => ⟨.inl hq, fun _ hv => hv⟩
 refine (hfn.2 w (fun b q => L b q ∨ b1j σ (B4 a) b) none _ (fun b q hq => hq.elim (hR.lok b q) (fun h => (hlent b h).1)) (hR.gl.mono hext) (by simp) (RCs.append (b5M hR hext (fun b hb q => .inr hb) args.toList xa ha) (a0M (A6.mono hext _ _ hcs) hc none))).mono ?_; rintro e w' ⟨v, L', og', rfl, hgr, hlok', hold', hog', hrc⟩
 show B6 P w0 L0 row n K (a.put o.dst v) w'
 have hgr' : E8 w w' noB := hgr.sub (fun b hb => by simp [E9] at hb); have hL : ∀ b q, b < w.heap.size → ((L' b q ∧ ¬ b1j σ (B4 a) b) ↔ L b q) := by
   intro b q hb; have := hold' b q hb (by simp [E9]); rw [this]; constructor
   · rintro ⟨h1 | h1, h2⟩
     · exact h1
     · exact absurd h1 h2
   · intro h1; exact ⟨.inl h1, fun h2 => (hlent b h2).2 q h1⟩
 have hS : F4 w L w' (fun b q => L' b q ∧ ¬ b1j σ (B4 a) b) noB := by
   refine ⟨fun b q hq => ?_, fun b hb hne => hgr'.block b hb hne, fun b q hb _ => hL b q hb⟩; have hb := hR.lok b q hq; refine ⟨(hL b q hb).2 hq, fun u hu => ?_⟩; rw [G7 (hgr'.block b hb id)]; exact hu
 have hrv : RepV w' L' y v := hrc; refine ⟨fun b q => L' b q ∧ ¬ b1j σ (B4 a) b, B0 O d none, put σ d (.d y), ?_, ?_, ?_, h⟩
 · rw [hd, Z0 (by omega)]; exact hR.putOwn d (.d y) v none noB hS (hR.grown.then hgr' (fun _ h => h.elim)) hgr.size (fun b q hq => hlok' b q hq.1) (fun _ h => h.elim) (fun _ _ _ _ h => h) (by simp) (by simpa only [E0, RA, RC] using c2U hy hrv)
 · rw [hd]; simpa [Act.put] using hdef
 · rw [hd]; simpa [Act.put] using hsz
theorem b7X {f x : Operand} {xs : List Operand} {args : Array Operand} {ts : Array TypeId} (ho : o.op = .call { callee := .value f, args, argTypes := ts }) (hargs : args.toList = x :: xs) {g : FuncId} {caps : List D} (hf : A0 σ f = .d (.clo g caps)) (hc : ∀ c ∈ caps, c.isAgg = false)
   {j : Nat} {e : TypeId} {l l' : List D} (hj : K1 (σ j) = some (e, l)) (hx : a.eval x = U1 (σ j) (B4 a j)) {xa : List AV} (ha : L3 σ xs = some xa) (hfn : a7u P g e l (xa ++ caps.map .d) l') (h : K (put (put σ j (W4 e l' (σ j))) d (.tup []))) :
   o.wp P a w (B6 P w0 L0 row n K) Q := by
 obtain ⟨css, hcs, hfv⟩ := a1m (E6 hR hf); have hexec : (execOp a.eval o).run P w = .ok (.enter g (args.map a.eval ++ css.flatten.toArray)) w := by
   simp only [execOp, ho, resolve, hfv, Deferred.ofValue, Sem.run_bind, Sem.run_pure, Result.andThen_ok, invoke, Array.empty_append, hfn.1 _ w]
 have hvals : (args.map a.eval ++ css.flatten.toArray) = (a.eval x :: (xs.map a.eval ++ css.flatten)).toArray := by
   apply Array.ext'; simp [hargs]
 unfold Oper.wp; rw [hexec, Oper.upon_enter, hvals, hx]; have hV := hR.owned hj; generalize hVe : U1 (σ j) (B4 a j) = V at hV; refine (hfn.2 w L V.ownBlock _ _ hR.lok hR.gl hV.self (RCs.append (a2y hR xs xa ha) (a0M hcs hc none))).mono ?_; rintro e' w' ⟨L', rfl, hgr, hlok', hold', hown⟩
 show B6 P w0 L0 row n K (a.put o.dst (.tuple #[])) w'
 have hO : ∀ b, E9 V.ownBlock b → O j = some b := fun b hb => (hV.blk hb).1
 have hext : F4 w L w' L' (E9 V.ownBlock) := by
   refine ⟨fun b q hq => ?_, fun b hb hne => hgr.block b hb hne, fun b q hb hne => hold' b q hb hne⟩; have hb := hR.lok b q hq; have hbj : ¬ E9 V.ownBlock b := fun hb => (hV.blk hb).2 q hq
   refine ⟨(hold' b q hb hbj).2 hq, fun u hu => ?_⟩; rw [G7 (hgr.block b hb hbj)]; exact hu
 have hj1 := hR.putOwn j (W4 e l' (σ j)) (B4 a j) (O j) (E9 V.ownBlock) hext (hR.grown.then hgr (fun b hb => (hR.olt j b (hO b hb)).2)) hgr.size hlok' (fun b hb => (hR.olt j b (hO b hb)).2) (fun i b hi hi2 e => hi (hR.inj i j b hi2 (hO b e)))
   (fun b hb => ⟨Nat.lt_of_lt_of_le (hR.olt j b hb).1 hgr.size, (hR.olt j b hb).2, fun i hi e => hi (hR.inj i j b e hb)⟩) (b3H hj (by rw [hVe]; exact hown.lift (fun g hg => by simpa [B0] using hO g hg)) j)
 rw [J2] at hj1; refine ⟨L', B0 (B0 O j (O j)) d none, put (put σ j (W4 e l' (σ j))) d (.tup []), ?_, ?_, ?_, h⟩
 · rw [hd, Z0 (by omega)]; exact hj1.putPure d (.tup []) (.tuple #[]) ⟨[], rfl, rfl⟩
 · rw [hd]; simpa [Act.put] using hdef
 · rw [hd]; simpa [Act.put] using hsz
theorem c4P {f x : Operand} {xs : List Operand} {args : Array Operand} {ts : Array TypeId} (ho : o.op = .call { callee := .value f, args, argTypes := ts }) (hargs : args.toList = x :: xs) {g : FuncId} {caps : List D} (hf : A0 σ f = .d (.clo g caps)) (hc : ∀ c ∈ caps, c.isAgg = false)
   {j : Nat} {e e' : TypeId} {l l' : List D} {u : Value} (hx : A0 σ x = .d (.raw u)) (hj : σ j = .hs u e l) {xa : List AV} (ha : L3 σ xs = some xa) (hfn : Ctr P g (.own true e l :: (xa ++ caps.map .d)) (.own true e' l'))
   (h : ∀ A c, K (put (put σ j (.hs (.slice A l'.length c) e' l')) d (.d (.raw (.slice A l'.length c))))) :
   o.wp P a w (B6 P w0 L0 row n K) Q := by
 obtain ⟨css, hcs, hfv⟩ := a1m (E6 hR hf); have hexec : (execOp a.eval o).run P w = .ok (.enter g (args.map a.eval ++ css.flatten.toArray)) w := by
   simp only [execOp, ho, resolve, hfv, Deferred.ofValue, Sem.run_bind, Sem.run_pure, Result.andThen_ok, invoke, Array.empty_append, hfn.1 _ w]
 have hvals : (args.map a.eval ++ css.flatten.toArray) = (a.eval x :: (xs.map a.eval ++ css.flatten)).toArray := by
   apply Array.ext'; simp [hargs]
 unfold Oper.wp; rw [hexec, Oper.upon_enter, hvals, (E6 hR hx).raw_inv]; have h4 := hR.slots j; rw [hj] at h4; have hV : D9 P w L (O j) true e l u := h4; have hO : ∀ b, u.ownBlock = some b → O j = some b := fun b hb => (hV.blk hb).1
 have hrest := RCs.append (a2y hR xs xa ha) (a0M hcs hc none); have hargs' : RCs P w L u.ownBlock (.own true e l :: (xa ++ caps.map .d)) (u :: (xs.map a.eval ++ css.flatten)) := by
   simp only [RCs]; refine ⟨_, _, rfl, by simpa only [RC] using hV.self, ?_⟩; have lift : ∀ (xs : List AV) (vs : List Value), (∀ x ∈ xs, ∃ y, x = .d y) → RCs P w L none xs vs → RCs P w L u.ownBlock xs vs := by
     intro xs
     induction xs with
     | nil => intro vs _ h; simpa [RCs] using h
     | cons x xs ih =>
       intro vs hx h; simp only [RCs] at h ⊢; obtain ⟨v, us, rfl, h1, h2⟩ := h; obtain ⟨y, rfl⟩ := hx x (by simp); exact ⟨v, us, rfl, by simpa only [RC] using h1, ih us (fun z hz => hx z (by simp [hz])) h2⟩
   refine lift _ _ (fun z hz => ?_) hrest; rcases mem_append.1 hz with hz | hz
   · have pl : ∀ (xs : List Operand) (xa : List AV), L3 σ xs = some xa → ∀ z ∈ xa, ∃ y, z = .d y := by
       intro xs
       induction xs with
       | nil => intro xa h z hz; simp only [L3, Option.some.injEq] at h; subst h; simp at hz
       | cons x xs ih =>
         intro xa h z hz; simp only [L3] at h; split at h
         · rename_i y ys hy hys
           simp only [Option.some.injEq] at h; subst h; rcases mem_cons.1 hz with hz | hz
           · exact ⟨y, hz⟩
           · exact ih ys hys z hz
         · cases h
     exact pl _ _ ha z hz
   · obtain ⟨y, _, rfl⟩ := mem_map.1 hz; exact ⟨y, rfl⟩
 refine (hfn.2 w L u.ownBlock _ hR.lok hR.gl (fun b hb => ⟨(hR.olt j b (hO b hb)).1, (hV.blk hb).2⟩) hargs').mono ?_; rintro e1 w' ⟨v, L', og', rfl, hgr, hlok', hold', hog', hrc⟩
 show B6 P w0 L0 row n K (a.put o.dst v) w'
 have hrc' : D9 P w' L' og' true e' l' v := hrc; have hext : F4 w L w' L' (E9 u.ownBlock) := by
   refine ⟨fun b q hq => ?_, fun b hb hne => hgr.block b hb hne, fun b q hb hne => hold' b q hb hne⟩; have hb := hR.lok b q hq; have hbj : ¬ E9 u.ownBlock b := fun hb => (hV.blk hb).2 q hq
   refine ⟨(hold' b q hb hbj).2 hq, fun u hu => ?_⟩; rw [G7 (hgr.block b hb hbj)]; exact hu
 have hj1 := hR.putOwn j (.hs v e' l') (B4 a j) og' (E9 u.ownBlock) hext (hR.grown.then hgr (fun b hb => (hR.olt j b (hO b hb)).2)) hgr.size hlok' (fun b hb => (hR.olt j b (hO b hb)).2) (fun i b hi hi2 e => hi (hR.inj i j b hi2 (hO b e)))
   (fun b hb => by
     refine ⟨(hog' b hb).1, ?_, fun i hi e => ?_⟩
     · rcases (hog' b hb).2 with h9 | h9
       · exact .inl (Nat.le_trans hR.grown.size h9)
       · exact (hR.olt j b (hO b h9)).2
     · rcases (hog' b hb).2 with h9 | h9
       · have := (hR.olt i b e).1; omega
       · exact hi (hR.inj i j b e (hO b h9))) hrc'
 rw [J2] at hj1; obtain ⟨A, c, rfl⟩ := hrc'.shape; refine ⟨L', B0 (B0 O j og') d none, _, ?_, ?_, ?_, h A c⟩
 · rw [hd, Z0 (by omega)]; exact hj1.putPure d (.d (.raw _)) _ (RepV.raw (by simp [Value.oneCell']) rfl)
 · rw [hd]; simpa [Act.put] using hdef
 · rw [hd]; simpa [Act.put] using hsz
end
def B7 : AV → Option Nat
 | .hs u _ _ => u.ownBlock
 | .hb (.pointer (some ad)) _ _ => some ad.block
 | .hm (.map (some g)) _ _ _ => some g
 | _ => none
def isH : AV → Bool
 | .hs _ _ _ => true
 | .hb _ _ _ => true
 | .hm _ _ _ _ => true
 | _ => false
def RH (P : Program) (w : World) (L : Nat → Nat → Prop) (x : AV) : Prop := isH x = true ∧ RC P w L (B7 x) x undef
def J7 : List (Option Nat) → Prop
 | [] => True
 | x :: xs => (∀ g, x = some g → some g ∉ xs) ∧ J7 xs
def F5 (P : Program) (f : FuncId) (args hs : List AV) (Post : AV → List AV → Prop) : Prop :=
 Enters P f ∧ ∀ (w : World) (L : Nat → Nat → Prop) (vals : List Value), (∀ b q, L b q → b < w.heap.size) → GL P w L → RCs P w L none args vals → (∀ x ∈ hs, RH P w L x) → J7 (hs.map B7) →
   Calls P f vals.toArray w fun e w' => ∃ v L' og r hs', e = .returned v ∧ E8 w w' (fun b => some b ∈ hs.map B7) ∧ (∀ b q, L' b q → b < w'.heap.size) ∧ (∀ b q, b < w.heap.size → some b ∉ hs.map B7 → (L' b q ↔ L b q)) ∧
     (∀ g, some g ∈ og :: hs'.map B7 → g < w'.heap.size ∧ (w.heap.size ≤ g ∨ some g ∈ hs.map B7)) ∧ J7 (og :: hs'.map B7) ∧ RC P w' L' og r v ∧ (∀ x ∈ hs', RH P w' L' x) ∧ Post r hs'
def C6 (σ : St) : List Nat → Nat → List AV → St
 | _, _, [] => σ
 | k :: ks, b, x :: xs => C6 (put σ k x) ks b xs
 | [], b, x :: xs => C6 (put σ b x) [] (b + 1) xs
theorem RH.step {touch : Nat → Prop} {x : AV} (hs : F4 w L w' L' touch) (hog : ∀ g, B7 x = some g → g < w.heap.size ∧ ¬ touch g) (h : RH P w L x) : RH P w' L' x := ⟨h.1, h.2.step hs hog⟩
theorem Rel.putName (h : Rel P w0 L0 row w L O σ tm) (k : Nat) (x : AV) (hx : RH P w L x) (hb : ∀ g, B7 x = some g → g < w.heap.size ∧ (w0.heap.size ≤ g ∨ row g) ∧ ∀ i, i ≠ k → O i ≠ some g) : Rel P w0 L0 row w L (B0 O k (B7 x)) (put σ k x) tm := by
 have := h.putOwn k x (tm k) (B7 x) noB (F4.refl w L _) h.grown (Nat.le_refl _) h.lok (fun _ h => h.elim) (fun _ _ _ _ h => h) hb (by
   obtain ⟨h1, h2⟩ := hx; cases x <;> simp [isH] at h1 <;> exact h2)
 rwa [J2] at this
theorem Rel.putNames : ∀ (xs : List AV) (ks : List Nat) (b : Nat) {O : Nat → Option Nat} {σ : St}, Rel P w0 L0 row w L O σ tm → (∀ x ∈ xs, RH P w L x) → J7 (xs.map B7) →
   (∀ g, some g ∈ xs.map B7 → g < w.heap.size ∧ (w0.heap.size ≤ g ∨ row g) ∧ ∀ i, O i ≠ some g) → ∃ O', Rel P w0 L0 row w L O' (C6 σ ks b xs) tm
 | [], ks, b, O, σ, h, _, _, _ => ⟨O, by cases ks <;> exact h⟩
 | x :: xs, k :: ks, b, O, σ, h, hx, ha, hb => by
   have h1 := h.putName k x (hx x (by simp)) (fun g hg => by have := hb g (by simp [hg]); exact ⟨this.1, this.2.1, fun i _ => this.2.2 i⟩); refine Rel.putNames xs ks b h1 (fun y hy => hx y (by simp [hy])) ha.2 (fun g hg => ?_); have := hb g (by simp only [map_cons, mem_cons]; exact .inr hg); refine ⟨this.1, this.2.1, fun i hi => ?_⟩; simp only [B0] at hi; split at hi
   · exact ha.1 g hi hg
   · exact this.2.2 i hi
 | x :: xs, [], b, O, σ, h, hx, ha, hb => by
   have h1 := h.putName b x (hx x (by simp)) (fun g hg => by have := hb g (by simp [hg]); exact ⟨this.1, this.2.1, fun i _ => this.2.2 i⟩); refine Rel.putNames xs [] (b + 1) h1 (fun y hy => hx y (by simp [hy])) ha.2 (fun g hg => ?_); have := hb g (by simp only [map_cons, mem_cons]; exact .inr hg); refine ⟨this.1, this.2.1, fun i hi => ?_⟩; simp only [B0] at hi; split at hi
   · exact ha.1 g hi hg
   · exact this.2.2 i hi
theorem RC.self {og : Option Nat} {x : AV} (hx : isH x = true) {v : Value} (h : RC P w L og x v) : RH P w L x ∧ ∀ g, B7 x = some g → og = some g := by
 cases x <;> simp [isH] at hx
 case hs u e l =>
   have h' : D9 P w L og true e l u := h; exact ⟨⟨rfl, h'.self⟩, fun g hg => (h'.blk hg).1⟩
 case hb u e y =>
   obtain ⟨g, C, h1, h2, h3⟩ : Y4 w L og e y u := h; subst h2; exact ⟨⟨rfl, ⟨g, C, rfl, rfl, h3⟩⟩, fun g' hg' => by simp only [B7, ptr] at hg'; rw [← hg']; exact h1⟩
 case hm u kt m E =>
   obtain ⟨g, m', es, clk, h1, h2, h3⟩ : a0d P w L og kt m E u := h; subst h2; exact ⟨⟨rfl, ⟨g, m', es, clk, rfl, rfl, h3⟩⟩, fun g' hg' => by simp only [B7] at hg'; rw [← hg']; exact h1⟩
def B9 (σ : St) : List Nat → St
 | [] => σ
 | k :: ks => B9 (put σ k .undef) ks
theorem Rel.takeH : ∀ (ks : List Nat) {O : Nat → Option Nat} {σ : St}, Rel P w0 L0 row w L O σ tm → (∀ k ∈ ks, isH (σ k) = true) → ks.Nodup →
   (∀ x ∈ ks.map σ, RH P w L x) ∧ J7 ((ks.map σ).map B7) ∧ ∃ O', Rel P w0 L0 row w L O' (Vw.B9 σ ks) tm ∧ (∀ i g, O' i = some g → O i = some g) ∧
     ∀ g, some g ∈ (ks.map σ).map B7 → (w0.heap.size ≤ g ∨ row g) ∧ g < w.heap.size ∧ (∀ q, ¬ L g q) ∧ (∀ i, O' i ≠ some g) ∧ ∃ k ∈ ks, O k = some g
 | [], O, σ, h, _, _ => ⟨by simp, trivial, O, h, fun _ _ h => h, by simp⟩
 | k :: ks, O, σ, h, hH, hn => by
   have hk := hH k (by simp); have hs := h.slots k; have hrc : RC P w L (O k) (σ k) (tm k) := by
     cases hx : σ k <;> rw [hx] at hs hk <;> simp [isH] at hk <;> exact hs
   obtain ⟨r1, r2⟩ := hrc.self hk; have h1 := h.forget k; rw [nodup_cons] at hn; have hsame : ∀ i ∈ ks, put σ k .undef i = σ i := fun i hi => by
     have hne : i ≠ k := fun e => hn.1 (e ▸ hi)
     have hHi := hH i (by simp [hi]); simp only [put, if_neg hne]; cases hx : σ i <;> rw [hx] at hHi <;> simp [isH] at hHi <;> rfl
   have hmap : ks.map (put σ k .undef) = ks.map σ := map_congr_left hsame; obtain ⟨q1, q2, O', q3, q4, q5⟩ := Rel.takeH ks h1 (fun i hi => by rw [hsame i hi]; exact hH i (by simp [hi])) hn.2; rw [hmap] at q1 q2 q5; have q4' : ∀ i g, O' i = some g → O i = some g ∧ i ≠ k := fun i g hi => by
     have := q4 i g hi; simp only [B0] at this; split at this
     · cases this
     · exact ⟨this, by assumption⟩
   have hLk : ∀ g, B7 (σ k) = some g → ∀ q, ¬ L g q := by
     intro g hg; cases hx : σ k <;> rw [hx] at hk hg hrc <;> simp [isH] at hk
     case hs u e l => exact ((show D9 P w L (O k) true e l u from hrc).blk hg).2
     case hb u e y =>
       obtain ⟨g', C, e1, e2, e3, e4, e5⟩ : Y4 w L (O k) e y u := hrc; subst e2; simp only [B7, ptr, Option.some.injEq] at hg; subst hg; exact e5
     case hm u kt m E =>
       obtain ⟨g', m', es, clk, e1, e2, e3, e4, e5⟩ : a0d P w L (O k) kt m E u := hrc; subst e2; simp only [B7, Option.some.injEq] at hg; subst hg; exact e4
   refine ⟨?_, ⟨?_, q2⟩, O', q3, fun i g hi => (q4' i g hi).1, ?_⟩
   · intro x hx; simp only [map_cons, mem_cons] at hx; rcases hx with rfl | hx
     · exact r1
     · exact q1 x hx
   · intro g hg hm; obtain ⟨_, _, _, _, k', hk', hO'⟩ := q5 g hm; simp only [B0] at hO'; split at hO'
     · cases hO'
     · rename_i hne
       exact hne (h.inj k' k g hO' (r2 g hg))
   · intro g hg; simp only [map_cons, mem_cons] at hg; rcases hg with hg | hg
     · have e1 := r2 g hg.symm; exact ⟨(h.olt k g e1).2, (h.olt k g e1).1, hLk g hg.symm, fun i hi => (q4' i g hi).2 (h.inj i k g (q4' i g hi).1 e1), k, by simp, e1⟩
     · obtain ⟨e1, e2, e3, e4, k', hk', e5⟩ := q5 g hg; simp only [B0] at e5; split at e5
       · cases e5
       · exact ⟨e1, e2, e3, e4, k', by simp [hk'], e5⟩
section
variable (hd : o.dst = some d) (hlt : d < n) (hsz : a.tmps.size = n) (hdef : a.defers = []) (hR : Rel P w0 L0 row w L O σ (B4 a))
include hd hlt hsz hdef hR
theorem c5v {f : Operand} {args : Array Operand} {ts : Array TypeId} (ho : o.op = .call { callee := .value f, args, argTypes := ts }) {g : FuncId} {caps : List D} (hf : A0 σ f = .d (.clo g caps)) (hc : ∀ c ∈ caps, c.isAgg = false)
   {xa : List AV} (ha : L3 σ args.toList = some xa) (ks : List Nat) (hks : ∀ k ∈ ks, isH (σ k) = true) (hnd : ks.Nodup) (b : Nat) {Post : AV → List AV → Prop} (hfn : F5 P g (xa ++ caps.map .d) (ks.map σ) Post)
   (h : ∀ r hs', Post r hs' → K (C6 (put (B9 σ ks) d r) ks b hs')) :
   o.wp P a w (B6 P w0 L0 row n K) Q := by
 obtain ⟨css, hcs, hfv⟩ := a1m (E6 hR hf); have hexec : (execOp a.eval o).run P w = .ok (.enter g (args.map a.eval ++ css.flatten.toArray)) w := by
   simp only [execOp, ho, resolve, hfv, Deferred.ofValue, Sem.run_bind, Sem.run_pure, Result.andThen_ok, invoke, Array.empty_append, hfn.1 _ w]
 have hvals : (args.map a.eval ++ css.flatten.toArray) = (args.toList.map a.eval ++ css.flatten).toArray := by
   apply Array.ext'; simp
 unfold Oper.wp; rw [hexec, Oper.upon_enter, hvals]; obtain ⟨t1, t2, O1, t3, t4, t5⟩ := hR.takeH ks hks hnd; refine (hfn.2 w L _ hR.lok hR.gl (RCs.append (a2y hR _ xa ha) (a0M hcs hc none)) t1 t2).mono ?_; rintro e w' ⟨v, L', og, r, hs', rfl, hgr, hlok', hold', hog', hap, hrc, hrh, hpost⟩
 show B6 P w0 L0 row n K (a.put o.dst v) w'
 have hS : F4 w L w' L' (fun b => some b ∈ (ks.map σ).map B7) := by
   refine ⟨fun b q hq => ?_, fun b hb hne => hgr.block b hb hne, fun b q hb hne => hold' b q hb hne⟩; have hb := hR.lok b q hq; have hbj : some b ∉ (ks.map σ).map B7 := fun hb => (t5 b hb).2.2.1 q hq
   refine ⟨(hold' b q hb hbj).2 hq, fun u hu => ?_⟩; rw [G7 (hgr.block b hb hbj)]; exact hu
 have hfresh : ∀ g, some g ∈ og :: hs'.map B7 → g < w'.heap.size ∧ (w0.heap.size ≤ g ∨ row g) ∧ ∀ i, O1 i ≠ some g := fun g hg => by
   have := hog' g hg; refine ⟨this.1, ?_, fun i hi => ?_⟩
   · rcases this.2 with h9 | h9
     · exact .inl (Nat.le_trans hR.grown.size h9)
     · exact (t5 g h9).1
   · rcases this.2 with h9 | h9
     · have := (t3.olt i g hi).1; omega
     · exact (t5 g h9).2.2.2.1 i hi
 have h1 := t3.putOwn d r v og _ hS (hR.grown.then hgr (fun b hb => (t5 b hb).1)) hgr.size hlok' (fun b hb => (t5 b hb).1) (fun i b _ hi hb => (t5 b hb).2.2.2.1 i hi) (fun g hg => by
   have := hfresh g (by simp [hg]); exact ⟨this.1, this.2.1, fun i _ => this.2.2 i⟩) (RC.toRA hrc _ _ _ _)
 obtain ⟨O2, h2⟩ := Rel.putNames hs' ks b h1 hrh hap.2 (fun g hg => by
   have := hfresh g (by simp only [mem_cons]; exact .inr hg); refine ⟨this.1, this.2.1, fun i hi => ?_⟩; simp only [B0] at hi; split at hi
   · exact hap.1 g hi hg
   · exact this.2.2 i hi)
 refine ⟨L', O2, _, ?_, ?_, ?_, h r hs' hpost⟩
 · rw [hd, Z0 (by omega)]; exact h2
 · rw [hd]; simpa [Act.put] using hdef
 · rw [hd]; simpa [Act.put] using hsz
end
mutual
inductive Fz (hs : List AV) : D → D → Prop
 | same (d : D) : Fz hs d d
 | sl {u : Value} {e : TypeId} {l : List D} : AV.hs u e l ∈ hs → Fz hs (.raw u) (.sl l)
 | nil : Fz hs (.raw (.slice none 0 0)) (.sl [])
 | agg {ds ds' : List D} : FzL hs ds ds' → Fz hs (.agg ds) (.agg ds')
inductive FzL (hs : List AV) : List D → List D → Prop
 | nil : FzL hs [] []
 | cons {d d' : D} {ds ds' : List D} : Fz hs d d' → FzL hs ds ds' → FzL hs (d :: ds) (d' :: ds')
end
theorem FzL.len {hs : List AV} : ∀ {ds ds' : List D}, FzL hs ds ds' → ds.length = ds'.length
 | _, _, .nil => rfl
 | _, _, .cons _ h => by simp [h.len]
def a5K (P : Program) (L : Nat → Nat → Prop) (hs : List AV) : Nat → Nat → Prop := fun b o => L b o ∨ ∃ u e l sz, AV.hs u e l ∈ hs ∧ u.ownBlock = some b ∧ (P.info? (ety e)).map (·.size) = some sz ∧ o < l.length * sz
theorem a7T (hs : List AV) : Ext w L w (a5K P L hs) := fun _ _ h => ⟨.inl h, fun _ h => h⟩
theorem b4y : ∀ {hs : List AV}, J7 (hs.map B7) → ∀ {x y : AV}, x ∈ hs → y ∈ hs → ∀ {g : Nat}, B7 x = some g → B7 y = some g → x = y
 | [], _, x, _, hx, _, _, _, _ => by simp at hx
 | z :: hs, h, x, y, hx, hy, g, h1, h2 => by
   rcases mem_cons.1 hx with rfl | hx2
   · rcases mem_cons.1 hy with rfl | hy2
     · rfl
     · exact absurd (mem_map.2 ⟨y, hy2, h2⟩) (h.1 g h1)
   · rcases mem_cons.1 hy with rfl | hy2
     · exact absurd (mem_map.2 ⟨x, hx2, h1⟩) (h.1 g h2)
     · exact b4y h.2 hx2 hy2 h1 h2
theorem c3Q {hs : List AV} (hr : ∀ x ∈ hs, RH P w L x) (ha : J7 (hs.map B7)) {u : Value} {e : TypeId} {l : List D} (hm : AV.hs u e l ∈ hs) : RepV w (a5K P L hs) (.sl l) u := by
 obtain ⟨css, sz, h1, h2, h3, h4, h5⟩ : D9 P w L u.ownBlock true e l u := (hr _ hm).2; refine D9.at_ (P := P) (og := u.ownBlock) (e := e) ⟨css, sz, h1, A6.mono (a7T hs) _ _ h2, h3, h4, fun g hg => ⟨hg, fun o => ⟨fun hL => ⟨rfl, ?_⟩, fun h => ?_⟩⟩⟩
 · rcases hL with hL | ⟨u', e', l', sz', hm', hb', hs', ho'⟩
   · exact absurd (((h5 g hg).2 o).1 hL).1 (by simp)
   · have := b4y ha hm hm' (g := g) hg hb'; simp only [AV.hs.injEq] at this; obtain ⟨rfl, rfl, rfl⟩ := this; rw [h1] at hs'; simp only [Option.some.injEq] at hs'; subst hs'; exact ho'
 · exact .inr ⟨u, e, l, sz, hm, hg, h1, h.2⟩
mutual
theorem Rep.fz {hs : List AV} (hr : ∀ x ∈ hs, RH P w L x) (ha : J7 (hs.map B7)) : ∀ {d d' : D} {cs : List Value}, Fz hs d d' → Rep w L d cs → Rep w (a5K P L hs) d' cs
 | _, _, _, .same d, h => Rep.mono (a7T hs) _ _ h
 | _, _, _, .sl hm, h => by
   simp only [Rep] at h; obtain ⟨rfl, h2, h3⟩ := h; exact (c3Q hr ha hm).cell rfl
 | _, _, _, .nil, h => by
   simp only [Rep] at h; obtain ⟨rfl, _, _⟩ := h; exact a4F.cell rfl
 | _, _, _, .agg hL, h => by
   simp only [Rep] at h ⊢; obtain ⟨css, h1, h2⟩ := h; exact ⟨css, A6.fz hr ha hL h1, h2⟩
theorem A6.fz {hs : List AV} (hr : ∀ x ∈ hs, RH P w L x) (ha : J7 (hs.map B7)) : ∀ {ds ds' : List D} {css : List (List Value)}, FzL hs ds ds' → A6 w L ds css → A6 w (a5K P L hs) ds' css
 | _, _, _, .nil, h => h
 | _, _, _, .cons h1 h2, h => by
   simp only [A6] at h ⊢; obtain ⟨c, cs, e, h3, h4⟩ := h; exact ⟨c, cs, e, Rep.fz hr ha h1 h3, A6.fz hr ha h2 h4⟩
end
theorem Fz.agg_eq {hs : List AV} {d d' : D} (h : Fz hs d d') : I4 undef = I4 undef ∧ d.isAgg = d'.isAgg := by
 refine ⟨rfl, ?_⟩; cases h <;> rfl
section
variable (hd : o.dst = some d) (hlt : d < n) (hsz : a.tmps.size = n) (hdef : a.defers = []) (hR : Rel P w0 L0 row w L O σ (B4 a))
include hd hlt hsz hdef hR
theorem c2Y {t : TypeId} {x : Operand} (ho : o.op = .load t x) {y y' : D} (hx : X6 P σ x = some y) (ht : tyk P t = some (y.isAgg, A9 y)) (ks : List Nat) (hks : ∀ k ∈ ks, isH (σ k) = true) (hnd : ks.Nodup) (hfz : Fz (ks.map σ) y y')
   (h : K (put (B9 σ ks) d (.d y'))) : o.wp P a w (B6 P w0 L0 row n K) Q := by
 obtain ⟨b, off, cs, h1, h2, h3⟩ := b3V hR hx; obtain ⟨v, hv, hr⟩ := a6c ht h2 h3; obtain ⟨hrh, hap, O', hR', _, hg⟩ := Rel.takeH ks hR hks hnd; have hrun : (execOp a.eval o).run P w = .ok (.value v) w := by
   simp only [execOp, ho, h1, Instr.loadAt, Instr.sureAddr, Sem.run_bind, Sem.run_pure, Result.andThen_ok, hv]
 have hwH : ∀ c q, a5K P L (ks.map σ) c q → ¬ L c q → some c ∈ (ks.map σ).map B7 := fun c q hq hn => by
   rcases hq with hq | ⟨u, e, l, sz, hm, hb, _, _⟩
   · exact absurd hq hn
   · exact mem_map.2 ⟨_, hm, hb⟩
 have hS : F4 w L w (a5K P L (ks.map σ)) (fun c => some c ∈ (ks.map σ).map B7) :=
   ⟨a7T _, fun _ _ _ => rfl, fun c q hc hne => ⟨fun hq => by
     by_cases hl : L c q
     · exact hl
     · exact absurd (hwH c q hq hl) hne, fun hq => .inl hq⟩⟩
 refine G4 hd hlt hsz hdef hrun (hR'.putOwn d (.d y') v none (fun c => some c ∈ (ks.map σ).map B7) hS hR.grown (Nat.le_refl _) (fun c q hq => ?_) (fun c hc => (hg c hc).1) (fun i g _ hi hc => (hg g hc).2.2.2.1 i hi) (fun g hg => by cases hg) ?_) h
 · by_cases hl : L c q
   · exact hR.lok c q hl
   · exact (hg c (hwH c q hq hl)).2.1
 · show RepV w (a5K P L (ks.map σ)) y' v
   exact ⟨Rep.fz hrh hap hfz hr.1, by rw [hr.2]; exact hfz.agg_eq.2⟩
end
end Go.Vw
namespace Go.Vw
open Go.RowKit Go.Proofs
def M8 (m : List (D × D)) (k : D) : Option D := (m.find? fun p => G8 p.1 k).map (·.2)
def S5 (m : List (D × D)) (k v : D) : List (D × D) := if m.any (fun p => G8 p.1 k) then m.map (fun p => if G8 p.1 k then (p.1, v) else p) else m ++ [(k, v)]
def a6P (m : List (D × D)) (k : D) : List (D × D) := m.filter fun p => !G8 p.1 k
variable {P : Program} {w0 : World} {L0 : Nat → Nat → Prop} {row : Nat → Prop} {n : Nat} {K : St → Prop} {Q : Exit → Act → World → Prop}
 {w w' : World} {L L' : Nat → Nat → Prop} {O O' : Nat → Option Nat} {σ σ' : St} {a : Act} {o : Oper} {d : Nat} {v : Value} {tm : Nat → Value}
theorem a8U {x y : D} (h : Y9 x y = true) : x = y := by
 unfold Y9 at h; split at h <;> simp_all
theorem b2b : ∀ {x y : List D}, a0D x y = true → x = y
 | [], [], _ => rfl
 | x :: xs, y :: ys, h => by
   simp only [a0D, Bool.and_eq_true] at h; rw [a8U h.1, b2b h.2]
 | [], _ :: _, h => by simp [a0D] at h
 | _ :: _, [], h => by simp [a0D] at h
theorem a8p : ∀ {x y : List D}, W7 x y = true → x = y
 | [], [], _ => rfl
 | x :: xs, y :: ys, h => by
   unfold W7 at h; split at h
   · rename_i e _; cases e
   · rename_i a xs' b ys' e1 e2
     simp only [List.cons.injEq] at e1 e2; obtain ⟨rfl, rfl⟩ := e1; obtain ⟨rfl, rfl⟩ := e2; simp only [Bool.and_eq_true] at h; rw [b2b h.1, a8p h.2]
   · rename_i x' xs' y' ys' _ e1 e2
     simp only [List.cons.injEq] at e1 e2; obtain ⟨rfl, rfl⟩ := e1; obtain ⟨rfl, rfl⟩ := e2; simp only [Bool.and_eq_true] at h; rw [a8U h.1, a8p h.2]
   · cases h
 | [], _ :: _, h => by simp [W7] at h
 | _ :: _, [], h => by simp [W7] at h
theorem Z4 {x y : D} (h : G8 x y = true) : x = y := by
 unfold G8 at h; split at h
 · rw [a8p h]
 · exact a8U h
theorem a9h {u : Option TypeDesc} {x y : D} (hx : Q5 u x = true) (hy : Q5 u y = true) : a0X u x y = true := by
 unfold Q5 at hx; split at hx
 · cases y <;> simp_all [Q5, a0X]
 · cases y <;> simp_all [Q5, a0X]
 · cases y <;> simp_all [Q5, a0X]
 · cases hx
theorem b1d {u : Option TypeDesc} {x y : D} (h : a0X u x y = true) : K2 [x] [y] = Y9 x y := by
 unfold a0X at h; split at h
 · simp [K2, Y9]
 · simp [K2, Y9]
 · simp_all [K2, Y9]
 · cases h
theorem a3R {f : Field} {fs : List Field} {off : Nat} {x : D} {xs : List D} (h : V5 P (f :: fs) off (x :: xs) = true) :
   f.name ≠ "_" ∧ f.offset = off ∧ ((Q5 (P.underlying f.type) x = true ∧ V5 P fs (off + 1) xs = true ∧ ∀ a, x ≠ .agg a) ∨
     ∃ a, x = .agg a ∧ a1k (P.underlying f.type) = true ∧ P.stoodInHeld f.type = false ∧ D2 P f.type = some (C9 a) ∧ U2 P (P.fieldsOf f.type).toList 0 a = true ∧ V5 P fs (off + C9 a) xs = true) := by
 unfold V5 at h; split at h
 · rename_i e1 e2; cases e1
 · rename_i f' fs' off' a xs' e1 e2
   simp only [List.cons.injEq] at e1 e2; obtain ⟨rfl, rfl⟩ := e1; obtain ⟨rfl, rfl⟩ := e2; simp only [Bool.and_eq_true, decide_eq_true_eq, Bool.not_eq_true'] at h; obtain ⟨⟨⟨h1, h2⟩, ⟨⟨h3, h4⟩, h5⟩, h7⟩, h8⟩ := h; exact ⟨h1, h2, .inr ⟨a, rfl, h3, h4, h5, h7, h8⟩⟩
 · rename_i f' fs' off' x' xs' hn e1 e2
   simp only [List.cons.injEq] at e1 e2; obtain ⟨rfl, rfl⟩ := e1; obtain ⟨rfl, rfl⟩ := e2; simp only [Bool.and_eq_true, decide_eq_true_eq] at h; exact ⟨h.1.1.1, h.1.1.2, .inl ⟨h.1.2, h.2, fun a e => hn a (by rw [e])⟩⟩
 · cases h
theorem b4C : ∀ {fs : List Field} {off : Nat} {xs ys : List D}, U2 P fs off xs = true → U2 P fs off ys = true → a0e P fs off xs ys = true ∧ K2 xs ys = a0D xs ys
 | [], _, [], [], _, _ => by simp [a0e, a0D]
 | f :: fs, off, x :: xs, y :: ys, hx, hy => by
   simp only [U2, Bool.and_eq_true, decide_eq_true_eq] at hx hy; have h1 := a9h hx.1.2 hy.1.2; have h2 := b4C hx.2 hy.2; refine ⟨by simp [a0e, hx.1.1.1, hx.1.1.2, h1, h2.1], ?_⟩; rw [a8G h1, b1d h1, h2.2]; rfl
 | [], _, [], _ :: _, _, h => by simp [U2] at h
 | [], _, _ :: _, _, h, _ => by simp [U2] at h
 | _ :: _, _, [], _, h, _ => by simp [U2] at h
 | _ :: _, _, _ :: _, [], _, h => by simp [U2] at h
theorem b1c : ∀ {fs : List Field} {off : Nat} {xs ys : List D}, V5 P fs off xs = true → V5 P fs off ys = true → Q2 P fs off xs ys = true ∧ P9 xs ys = W7 xs ys
 | [], _, [], [], _, _ => by simp [Q2, P9, W7]
 | f :: fs, off, x :: xs, y :: ys, hx, hy => by
   obtain ⟨h1, h2, h3⟩ := a3R hx; obtain ⟨_, _, k3⟩ := a3R hy; have nope : ∀ {z : D}, Q5 (P.underlying f.type) z = true → a1k (P.underlying f.type) = true → False := fun {z} p q => by
     unfold a1k at q; unfold Q5 at p; split at p <;> simp_all
   rcases h3 with ⟨h3, h4, hna⟩ | ⟨a, rfl, h3, h5, h6, h8, h4⟩
   · rcases k3 with ⟨k3, k4, _⟩ | ⟨a, rfl, k3, _⟩
     · have e1 := a9h h3 k3; have e2 := b1c h4 k4; refine ⟨?_, ?_⟩
       · cases x <;> first
           | exact absurd rfl (hna _)
           | simp [Q2, h1, h2, e1, e2.1]
       · rw [a9Y e1, b1d e1, e2.2, W7.eq_3 _ _ _ _ (fun a b ex _ => hna a ex)]
     · exact (nope h3 k3).elim
   · rcases k3 with ⟨k3, k4, _⟩ | ⟨a', rfl, k3, k5, k6, k8, k4⟩
     · exact (nope k3 h3).elim
     · have hw : C9 a' = C9 a := by rw [h6] at k6; exact (Option.some.inj k6).symm
       have e1 := b4C h8 k8; rw [hw] at k4; have e2 := b1c h4 k4; refine ⟨?_, ?_⟩
       · simp [Q2, h1, h2, h3, h5, h6, hw, e1.1, e2.1]
       · simp [P9, W7, e1.2, e2.2]
 | [], _, [], _ :: _, _, h => by simp [V5] at h
 | [], _, _ :: _, _, h, _ => by simp [V5] at h
 | _ :: _, _, [], _, h, _ => by simp [V5] at h
 | _ :: _, _, _ :: _, [], _, h => by simp [V5] at h
theorem R0 {kt : TypeId} {k : D} (h : D8 P kt k = true) : (Q5 (P.underlying kt) k = true ∧ k.isAgg = false) ∨ ∃ xs, k = .agg xs ∧ a1T P kt = true ∧ V5 P (P.fieldsOf kt).toList 0 xs = true := by
 cases k with
 | agg xs => simp only [D8, Bool.and_eq_true] at h; exact .inr ⟨xs, rfl, h.1, h.2⟩
 | _ => exact .inl ⟨h, rfl⟩
theorem a5i {t : TypeId} (h1 : a1T P t = true) : P.underlying t = some (.struct (P.fieldsOf t)) ∧ P.stoodInHeld t = false := by
 simp only [a1T, Bool.and_eq_true, Bool.not_eq_true'] at h1; exact ⟨a6R h1.1.1, h1.1.2⟩
theorem a5d {t : TypeId} {x : D} (h : Q5 (P.underlying t) x = true) (hs : a1T P t = true) : False := by
 rw [(a5i hs).1] at h; simp [Q5] at h
theorem a8c {kt : TypeId} {x y : D} {vx vy : Value} (hx : D8 P kt x = true) (hy : D8 P kt y = true) (rx : RepV w L x vx) (ry : RepV w L y vy) : (Op.equal kt vx vy).run P w = .ok (G8 x y) w := by
 rcases R0 hx with ⟨h1, h2⟩ | ⟨xs, rfl, h1, h2⟩
 · rcases R0 hy with ⟨k1, k2⟩ | ⟨ys, rfl, k1, k2⟩
   · have h3 := a9h h1 k1; obtain ⟨a, b, e1, e2, _, e3⟩ := b0U h3 (rx.cell h2) (ry.cell k2); cases e1; cases e2
     have := e3 9999; rw [b1d h3] at this; rw [show Op.equal kt vx vy = Op.equalIn (9999 + 1) kt vx vy from rfl, this]; cases x <;> first | rfl | (simp [D.isAgg] at h2)
   · exact (a5d h1 k1).elim
 · rcases R0 hy with ⟨k1, k2⟩ | ⟨ys, rfl, k1, k2⟩
   · exact (a5d k1 h1).elim
   · obtain ⟨A, rfl⟩ : ∃ A, vx = .agg A := by have := rx.2; cases vx <;> simp [I4, D.isAgg] at this; exact ⟨_, rfl⟩
     obtain ⟨B, rfl⟩ : ∃ B, vy = .agg B := by have := ry.2; cases vy <;> simp [I4, D.isAgg] at this; exact ⟨_, rfl⟩
     have h9 := rx.1; simp only [Rep] at h9; obtain ⟨cx, r1, r2⟩ := h9; have r2 : A.toList = cx.flatten := r2; have h10 := ry.1; simp only [Rep] at h10; obtain ⟨cy, r3, r4⟩ := h10; have r4 : B.toList = cy.flatten := r4; obtain ⟨hu, hst⟩ := a5i h1; have h3 := b1c h2 k2; rw [show Op.equal kt (.agg A) (.agg B) = Op.equalIn (9999 + 1) kt (.agg A) (.agg B) from rfl, run_equalIn_struct w 9999 kt A B hu hst, a3C 9997 A B _ 0 xs ys cx cy h3.1 r1 r3 (by simpa using r2) (by simpa using r4), h3.2]; rfl
theorem a7I {u : Option TypeDesc} {x : D} (h : Q5 u x = true) : Y9 x x = true := by
 unfold Q5 at h; split at h <;> simp_all [Y9]
theorem a7S : ∀ {fs : List Field} {off : Nat} {xs : List D}, U2 P fs off xs = true → a0D xs xs = true
 | [], _, [], _ => rfl
 | f :: fs, off, x :: xs, h => by
   simp only [U2, Bool.and_eq_true] at h; simp [a0D, a7I h.1.2, a7S h.2]
 | [], _, _ :: _, h => by simp [U2] at h
 | _ :: _, _, [], h => by simp [U2] at h
theorem a5W : ∀ {fs : List Field} {off : Nat} {xs : List D}, V5 P fs off xs = true → W7 xs xs = true
 | [], _, [], _ => rfl
 | f :: fs, off, x :: xs, h => by
   obtain ⟨_, _, h3⟩ := a3R h; rcases h3 with ⟨h3, h4, hna⟩ | ⟨a, rfl, h3, h5, h6, h8, h4⟩
   · rw [W7.eq_3 _ _ _ _ (fun a b ex _ => hna a ex), a7I h3, a5W h4]; rfl
   · simp [W7, a7S h8, a5W h4]
 | [], _, _ :: _, h => by simp [V5] at h
 | _ :: _, _, [], h => by simp [V5] at h
theorem a0l {kt : TypeId} {k : D} (h : D8 P kt k = true) : G8 k k = true := by
 rcases R0 h with ⟨h1, h2⟩ | ⟨xs, rfl, h1, h2⟩
 · have := a7I h1; cases k <;> first | exact this | (simp [D.isAgg] at h2)
 · exact a5W h2
theorem b7V {kt : TypeId} {k k' : D} {v v' : Value} (h : D8 P kt k = true) (h' : D8 P kt k' = true) (hr : RepV w L k v) (hr' : RepV w L k' v') (e : v = v') : k = k' := by
 subst e; have h1 := a8c h h' hr hr'; rw [a8c h h hr hr, a0l h] at h1; simp only [Result.ok.injEq] at h1; exact Z4 h1.1.symm
theorem a6F {u : Option TypeDesc} {x : D} {c c' : List Value} (h : Q5 u x = true) (hr : Rep w L x c) (hr' : Rep w L x c') : c = c' := by
 unfold Q5 at h; split at h
 · simp only [Rep] at hr hr'; rw [hr, hr']
 · simp only [Rep] at hr hr'; rw [hr, hr']
 · simp only [Rep] at hr hr'; rw [hr, hr']
 · cases h
theorem a9V : ∀ {fs : List Field} {off : Nat} {xs : List D} {c c' : List (List Value)}, U2 P fs off xs = true → A6 w L xs c → A6 w L xs c' → c = c'
 | [], _, [], c, c', _, h, h' => by simp only [A6] at h h'; rw [h, h']
 | f :: fs, off, x :: xs, c, c', hk, h, h' => by
   simp only [U2, Bool.and_eq_true] at hk; simp only [A6] at h h'; obtain ⟨a, as', rfl, h1, h2⟩ := h; obtain ⟨b, bs, rfl, k1, k2⟩ := h'; rw [a6F hk.1.2 h1 k1, a9V hk.2 h2 k2]
 | [], _, _ :: _, _, _, h, _, _ => by simp [U2] at h
 | _ :: _, _, [], _, _, h, _, _ => by simp [U2] at h
theorem a6Z : ∀ {fs : List Field} {off : Nat} {xs : List D} {c c' : List (List Value)}, V5 P fs off xs = true → A6 w L xs c → A6 w L xs c' → c = c'
 | [], _, [], c, c', _, h, h' => by simp only [A6] at h h'; rw [h, h']
 | f :: fs, off, x :: xs, c, c', hk, h, h' => by
   simp only [A6] at h h'; obtain ⟨a, as', rfl, h1, h2⟩ := h; obtain ⟨b, bs, rfl, k1, k2⟩ := h'; obtain ⟨_, _, h3⟩ := a3R hk; rcases h3 with ⟨h3, h4, _⟩ | ⟨a', rfl, h3, h5, h6, h8, h4⟩
   · rw [a6F h3 h1 k1, a6Z h4 h2 k2]
   · simp only [Rep] at h1 k1; obtain ⟨d1, q1, rfl⟩ := h1; obtain ⟨d2, q2, rfl⟩ := k1; rw [a9V h8 q1 q2, a6Z h4 h2 k2]
 | [], _, _ :: _, _, _, h, _, _ => by simp [V5] at h
 | _ :: _, _, [], _, _, h, _, _ => by simp [V5] at h
theorem b6L {kt : TypeId} {k : D} {v v' : Value} (h : D8 P kt k = true) (hr : RepV w L k v) (hr' : RepV w L k v') : v = v' := by
 rcases R0 h with ⟨h1, h2⟩ | ⟨xs, rfl, h1, h2⟩
 · simpa using a6F h1 (hr.cell h2) (hr'.cell h2)
 · obtain ⟨A, rfl⟩ : ∃ A, v = .agg A := by have := hr.2; cases v <;> simp [I4, D.isAgg] at this; exact ⟨_, rfl⟩
   obtain ⟨B, rfl⟩ : ∃ B, v' = .agg B := by have := hr'.2; cases v' <;> simp [I4, D.isAgg] at this; exact ⟨_, rfl⟩
   have h9 := hr.1; have h10 := hr'.1; simp only [Rep] at h9 h10; obtain ⟨cx, r1, r2⟩ := h9; obtain ⟨cy, r3, r4⟩ := h10; have e := a6Z h2 r1 r3; have : A.toList = B.toList := by rw [show A.toList = cx.flatten from r2, show B.toList = cy.flatten from r4, e]
   rw [Array.ext' this]
theorem a4y {t : TypeId} {x : D} {c : List Value} (h : Q5 (P.underlying t) x = true) (hr : Rep w L x c) : ∃ v, c = [v] ∧ (isAgg t).run P w = .ok false w ∧ (∀ em n, (Instr.checkKey em (n + 1) t v).run P w = .ok () w) ∧ ∀ m, Instr.sameBits m v v = true := by
 cases hu : P.underlying t with
 | none => rw [hu] at h; simp [Q5] at h
 | some dd =>
   rw [hu] at h; cases x <;> cases dd <;> simp [Q5] at h <;> simp only [Rep] at hr
   · exact ⟨_, hr, by simp [isAgg, run_underlying hu], fun em n => MapKept.run_checkKey hu (by trivial) em n, fun m => by cases m <;> simp [Instr.sameBits]⟩
   · exact ⟨_, hr, by simp [isAgg, run_underlying hu], fun em n => MapKept.run_checkKey hu (show MapKept.IsKey (.int _) (.int _ _) from h.symm) em n, fun m => by cases m <;> simp [Instr.sameBits]⟩
   · exact ⟨_, hr, by simp [isAgg, run_underlying hu], fun em n => MapKept.run_checkKey hu (by trivial) em n, fun m => by cases m <;> simp [Instr.sameBits] <;> exact (MapKept.bytes_beq _ _).2 rfl⟩
theorem c1X {A : Array Value} : ∀ {fs : List Field} {off : Nat} {xs : List D} {css : List (List Value)}, U2 P fs off xs = true → A6 w L xs css → A.toList.drop off = css.flatten →
   (∀ f ∈ fs, f.name ≠ "_" ∧ ∃ v, (part f.type A f.offset).run P w = .ok v w ∧ ∀ em n, (Instr.checkKey em (n + 1) f.type v).run P w = .ok () w) ∧ ∀ v ∈ css.flatten, ∀ m, Instr.sameBits m v v = true
 | [], _, [], css, _, h, _ => by simp only [A6] at h; subst h; simp
 | f :: fs, off, x :: xs, css, hk, h, hA => by
   simp only [U2, Bool.and_eq_true, decide_eq_true_eq] at hk; simp only [A6] at h; obtain ⟨c, cs, rfl, h1, h2⟩ := h; obtain ⟨v, rfl, e1, e2, e3⟩ := a4y hk.1.2 h1; have ga : A[f.offset]? = some v := by
     have := congrArg (fun l => l[0]?) hA; simp only [getElem?_drop, Nat.add_zero, flatten_cons, cons_append, getElem?_cons_zero] at this; rw [hk.1.1.2]; simpa using this
   have dA : A.toList.drop (off + 1) = cs.flatten := by
     rw [← drop_drop, hA]; simp
   obtain ⟨i1, i2⟩ := c1X hk.2 h2 dA; refine ⟨fun g hg => ?_, fun u hu => ?_⟩
   · rcases mem_cons.1 hg with rfl | hg
     · exact ⟨hk.1.1.1, v, by simp [part, e1, ga], e2⟩
     · exact i1 g hg
   · rcases mem_cons.1 (show u ∈ v :: cs.flatten by simpa using hu) with rfl | hu
     · exact e3
     · exact i2 u hu
 | [], _, _ :: _, _, h, _, _ => by simp [U2] at h
 | _ :: _, _, [], _, h, _, _ => by simp [U2] at h
theorem b3y {fs : List Field} {A : Array Value} {em : Bool} {n : Nat} (h : ∀ f ∈ fs, f.name ≠ "_" ∧ ∃ v, (part f.type A f.offset).run P w = .ok v w ∧ (Instr.checkKey em n f.type v).run P w = .ok () w) {t : TypeId} (ht : P.underlying t = some (.struct fs.toArray)) :
   (Instr.checkKey em (n + 1) t (.agg A)).run P w = .ok () w := by
 rw [Instr.checkKey]; simp only [Sem.run_bind, run_underlying ht, Result.andThen_ok]; rw [← Array.forIn_toList]; simp only [toList_toArray]; clear ht
 induction fs with
 | nil => simp
 | cons f fs ih =>
   obtain ⟨hn, v, p1, p2⟩ := h f (by simp); simp only [forIn_cons, Sem.run_bind, hn, ne_eq, not_false_eq_true, if_true, Result.andThen_ok, p1, p2, Sem.run_pure]; exact ih (fun g hg => h g (by simp [hg]))
theorem b2y {A : Array Value} : ∀ {fs : List Field} {off : Nat} {xs : List D} {css : List (List Value)}, V5 P fs off xs = true → A6 w L xs css → A.toList.drop off = css.flatten →
   (∀ f ∈ fs, f.name ≠ "_" ∧ ∃ v, (part f.type A f.offset).run P w = .ok v w ∧ ∀ em n, (Instr.checkKey em (n + 2) f.type v).run P w = .ok () w) ∧ ∀ v ∈ css.flatten, ∀ m, Instr.sameBits m v v = true
 | [], _, [], css, _, h, _ => by simp only [A6] at h; subst h; simp
 | f :: fs, off, x :: xs, css, hk, h, hA => by
   obtain ⟨k1, k2, k3⟩ := a3R hk; simp only [A6] at h; obtain ⟨c, cs, rfl, h1, h2⟩ := h; rcases k3 with ⟨h3, h4, _⟩ | ⟨a, rfl, h3, h5, h6, h8, h4⟩
   · obtain ⟨v, rfl, e1, e2, e3⟩ := a4y h3 h1; have ga : A[f.offset]? = some v := by
       have := congrArg (fun l => l[0]?) hA; simp only [getElem?_drop, Nat.add_zero, flatten_cons, cons_append, getElem?_cons_zero] at this; rw [k2]; simpa using this
     have dA : A.toList.drop (off + 1) = cs.flatten := by
       rw [← drop_drop, hA]; simp
     obtain ⟨i1, i2⟩ := b2y h4 h2 dA; refine ⟨fun g hg => ?_, fun u hu => ?_⟩
     · rcases mem_cons.1 hg with rfl | hg
       · exact ⟨k1, v, by simp [part, e1, ga], fun em n => e2 em (n + 1)⟩
       · exact i1 g hg
     · rcases mem_cons.1 (show u ∈ v :: cs.flatten by simpa using hu) with rfl | hu
       · exact e3
       · exact i2 u hu
   · have hu := a6R h3; have hag : (isAgg f.type).run P w = .ok true w := (by simp [isAgg, run_underlying hu]); have hsz := H0 h6 w; have l1 : c.length = C9 a := Rep.len _ _ h1; have tA : (A.extract f.offset (f.offset + C9 a)).toList = c := by
       rw [Array.toList_extract, extract_eq_take_drop, k2, hA, flatten_cons, Nat.add_sub_cancel_left, ← l1, take_left]
     have pa : (part f.type A f.offset).run P w = .ok (.agg (A.extract f.offset (f.offset + C9 a))) w := (by simp [part, hag, hsz]); have dA : A.toList.drop (off + C9 a) = cs.flatten := by
       rw [← drop_drop, hA, flatten_cons, ← l1, drop_left]
     simp only [Rep] at h1; obtain ⟨d1, r1, r2⟩ := h1; obtain ⟨j1, j2⟩ := c1X (A := A.extract f.offset (f.offset + C9 a)) h8 r1 (by rw [drop_zero, tA, r2]); obtain ⟨i1, i2⟩ := b2y h4 h2 dA; refine ⟨fun g hg => ?_, fun u hu => ?_⟩
     · rcases mem_cons.1 hg with rfl | hg
       · refine ⟨k1, _, pa, fun em n => b3y (fs := (P.fieldsOf g.type).toList) (fun q hq => ?_) (by simpa using hu)⟩; obtain ⟨q1, v, q2, q3⟩ := j1 q hq; exact ⟨q1, v, q2, q3 em n⟩
       · exact i1 g hg
     · rcases mem_append.1 (show u ∈ c ++ cs.flatten by simpa using hu) with hu | hu
       · exact j2 u (by rw [← r2]; exact hu)
       · exact i2 u hu
 | [], _, _ :: _, _, h, _, _ => by simp [V5] at h
 | _ :: _, _, [], _, h, _, _ => by simp [V5] at h
theorem Q7 {kt : TypeId} {k : D} {v : Value} (h : D8 P kt k = true) (hr : RepV w L k v) (em : Bool) : (Instr.checkKey em 10000 kt v).run P w = .ok () w := by
 rcases R0 h with ⟨h1, h2⟩ | ⟨xs, rfl, h1, h2⟩
 · obtain ⟨u, e1, _, e2, _⟩ := a4y h1 (hr.cell h2); cases e1
   exact e2 em 9999
 · obtain ⟨A, rfl⟩ : ∃ A, v = .agg A := by have := hr.2; cases v <;> simp [I4, D.isAgg] at this; exact ⟨_, rfl⟩
   have h9 := hr.1; simp only [Rep] at h9; obtain ⟨cx, r1, r2⟩ := h9; obtain ⟨j1, _⟩ := b2y (A := A) h2 r1 (by rw [drop_zero]; exact r2); refine b3y (n := 9999) (fs := (P.fieldsOf kt).toList) (fun q hq => ?_) (by simpa using (a5i h1).1); obtain ⟨q1, v, q2, q3⟩ := j1 q hq; exact ⟨q1, v, q2, q3 em 9997⟩
theorem c1H {kt : TypeId} {k : D} {v : Value} (h : D8 P kt k = true) (hr : RepV w L k v) : (Instr.keyThatStays v v).run P w = .ok v w := by
 have : Instr.sameBits 10000 v v = true := by
   rcases R0 h with ⟨h1, h2⟩ | ⟨xs, rfl, h1, h2⟩
   · obtain ⟨u, e1, _, _, e3⟩ := a4y h1 (hr.cell h2); cases e1
     exact e3 _
   · obtain ⟨A, rfl⟩ : ∃ A, v = .agg A := by have := hr.2; cases v <;> simp [I4, D.isAgg] at this; exact ⟨_, rfl⟩
     have h9 := hr.1; simp only [Rep] at h9; obtain ⟨cx, r1, r2⟩ := h9; obtain ⟨_, j2⟩ := b2y (A := A) h2 r1 (by rw [drop_zero]; exact r2); have r2' : A.toList = cx.flatten := r2
     show Instr.sameBits (9999 + 1) (.agg A) (.agg A) = true
     simp only [Instr.sameBits, beq_self_eq_true, Bool.true_and, all_eq_true]; rintro ⟨p, q⟩ hp; obtain ⟨i, hi, e⟩ := getElem_of_mem hp; rw [getElem_zip] at e; cases e
     exact j2 _ (by rw [← r2']; exact getElem_mem _) 9999
 simp [Instr.keyThatStays, this]
theorem I6.len : ∀ {m : List (D × D)} {es : List MapEntry}, I6 w L m es → es.length = m.length
 | [], _, h => by simp only [I6] at h; subst h; rfl
 | p :: m, _, h => by
   obtain ⟨e, es', rfl, _, _, h4⟩ := h; simp [h4.len]
theorem I6.get : ∀ {m : List (D × D)} {es : List MapEntry} {i : Nat} {e : MapEntry}, I6 w L m es → es[i]? = some e → ∃ p, m[i]? = some p ∧ RepV w L p.1 e.key ∧ RepV w L p.2 e.val
 | [], _, i, e, h, hi => by simp only [I6] at h; subst h; simp at hi
 | p :: m, _, 0, e, h, hi => by
   obtain ⟨e', es', rfl, h2, h3, h4⟩ := h; simp only [getElem?_cons_zero, Option.some.injEq] at hi; subst hi; exact ⟨p, rfl, h2, h3⟩
 | p :: m, _, i + 1, e, h, hi => by
   obtain ⟨e', es', rfl, h2, h3, h4⟩ := h; simp only [getElem?_cons_succ] at hi; simpa using h4.get hi
theorem I6.at_ : ∀ {m : List (D × D)} {es : List MapEntry} {i : Nat} {p : D × D}, I6 w L m es → m[i]? = some p → ∃ e, es[i]? = some e ∧ RepV w L p.1 e.key ∧ RepV w L p.2 e.val
 | [], _, i, e, h, hi => by simp at hi
 | p :: m, _, 0, e, h, hi => by
   obtain ⟨e', es', rfl, h2, h3, h4⟩ := h; simp only [getElem?_cons_zero, Option.some.injEq] at hi; subst hi; exact ⟨e', rfl, h2, h3⟩
 | p :: m, _, i + 1, e, h, hi => by
   obtain ⟨e', es', rfl, h2, h3, h4⟩ := h; simp only [getElem?_cons_succ] at hi; simpa using h4.at_ hi
theorem I6.append : ∀ {m m2 : List (D × D)} {es es2 : List MapEntry}, I6 w L m es → I6 w L m2 es2 → I6 w L (m ++ m2) (es ++ es2)
 | [], _, _, _, h, h2 => by simp only [I6] at h; subst h; simpa using h2
 | p :: m, _, _, _, h, h2 => by
   obtain ⟨e', es', rfl, g2, g3, g4⟩ := h; exact ⟨e', _, rfl, g2, g3, g4.append h2⟩
theorem I6.set : ∀ {m : List (D × D)} {es : List MapEntry} {i : Nat} {p : D × D} {e : MapEntry}, I6 w L m es → RepV w L p.1 e.key → RepV w L p.2 e.val → I6 w L (m.set i p) (es.set i e)
 | [], _, _, _, _, h, _, _ => by simp only [I6] at h; subst h; simp [I6]
 | q :: m, _, 0, _, e, h, h1, h2 => by
   obtain ⟨e', es', rfl, g2, g3, g4⟩ := h; exact ⟨e, es', rfl, h1, h2, g4⟩
 | q :: m, _, i + 1, _, e, h, h1, h2 => by
   obtain ⟨e', es', rfl, g2, g3, g4⟩ := h; exact ⟨e', _, rfl, g2, g3, g4.set h1 h2⟩
theorem I6.erase : ∀ {m : List (D × D)} {es : List MapEntry} {i : Nat}, I6 w L m es → I6 w L (m.eraseIdx i) (es.eraseIdx i)
 | [], _, _, h => by simp only [I6] at h; subst h; simp [I6]
 | q :: m, _, 0, h => by
   obtain ⟨e', es', rfl, g2, g3, g4⟩ := h; exact g4
 | q :: m, _, i + 1, h => by
   obtain ⟨e', es', rfl, g2, g3, g4⟩ := h; exact ⟨e', _, rfl, g2, g3, g4.erase⟩
theorem b6D {kt : TypeId} {k : D} (hk : D8 P kt k = true) (hr : RepV w L k v) : ∀ {m : List (D × D)} {es : List MapEntry} (i : Nat), I6 w L m es → (∀ p ∈ m, D8 P kt p.1 = true) →
   ((Instr.findAsking kt v es i).run P w = .ok none w ∧ ∀ p ∈ m, p.1 ≠ k) ∨ ∃ (j : Nat) (e : MapEntry) (x : D), (Instr.findAsking kt v es i).run P w = .ok (some (i + j, e.val)) w ∧ es[j]? = some e ∧ e.key = v ∧ m[j]? = some (k, x) ∧ RepV w L x e.val
 | [], _, i, h, _ => by simp only [I6] at h; subst h; exact .inl ⟨by simp [Instr.findAsking], by simp⟩
 | p :: m, _, i, h, hf => by
   obtain ⟨e, es, rfl, h1, h2, h3⟩ := h; have hq := a8c hk (hf p (by simp)) hr h1; cases hb : G8 k p.1 with
   | true =>
     rw [hb] at hq; have e1 := Z4 hb; obtain ⟨p1, p2⟩ := p; cases e1
     exact .inr ⟨0, e, p2, by simp [Instr.findAsking, hq], rfl, b6L hk h1 hr, rfl, h2⟩
   | false =>
     rw [hb] at hq; have hne : p.1 ≠ k := fun e => by rw [e, a0l hk] at hb; cases hb
     rcases b6D hk hr (i + 1) h3 (fun q hq => hf q (by simp [hq])) with ⟨f1, f2⟩ | ⟨j, e', x, f1, f2, f3, f4, f5⟩
     · exact .inl ⟨by simp [Instr.findAsking, hq, f1], fun q hq => by
         rcases mem_cons.1 hq with rfl | hq
         · exact hne
         · exact f2 q hq⟩
     · exact .inr ⟨j + 1, e', x, by simp [Instr.findAsking, hq, f1, Nat.add_assoc, Nat.add_comm 1 j], by simpa using f2, f3, by simpa using f4, f5⟩
theorem I6.find {m : List (D × D)} {es : List MapEntry} {kt : TypeId} {k : D} (h : I6 w L m es) (hf : ∀ p ∈ m, D8 P kt p.1 = true) (hk : D8 P kt k = true) (hr : RepV w L k v) :
   ((Instr.findKey kt v es).run P w = .ok none w ∧ ∀ p ∈ m, p.1 ≠ k) ∨ ∃ (j : Nat) (e : MapEntry) (x : D), (Instr.findKey kt v es).run P w = .ok (some (j, e.val)) w ∧ es[j]? = some e ∧ e.key = v ∧ m[j]? = some (k, x) ∧ RepV w L x e.val := by
 rcases R0 hk with ⟨h1, h2⟩ | ⟨xs, rfl, h1, h2⟩
 · cases hu : P.underlying kt with
   | none => rw [hu] at h1; simp [Q5] at h1
   | some dd =>
     have hik : ∀ {x : D} {u : Value}, D8 P kt x = true → RepV w L x u → MapKept.IsKey dd u := fun {x u} hx hx2 => by
       rcases R0 hx with ⟨k1, k2⟩ | ⟨ys, rfl, k1, k2⟩
       · rw [hu] at k1; cases x <;> cases dd <;> simp [Q5] at k1
         · rw [hx2.bool_inv]; trivial
         · rw [hx2.int_inv]; exact k1.symm
         · rw [hx2.str_inv]; trivial
       · exact (a5d h1 k1).elim
     have hks : ∀ e ∈ es, MapKept.IsKey dd e.key := fun e he => by
       obtain ⟨i, hi⟩ := getElem?_of_mem he; obtain ⟨p, hp, g1, _⟩ := h.get hi; exact hik (hf p (mem_of_getElem? hp)) g1
     rcases MapKept.findNow_spec (hik hk hr) es 0 hks with ⟨f1, f2⟩ | ⟨j, e, f1, f2, f3⟩
     · refine .inl ⟨MapKept.run_findKey hu f1, fun p hp e => ?_⟩; obtain ⟨i, hi⟩ := getElem?_of_mem hp; obtain ⟨e1, he, g1, _⟩ := h.at_ hi; subst e; exact f2 e1 (mem_of_getElem? he) (b6L hk g1 hr)
     · obtain ⟨p, hp, g1, g2⟩ := h.get f2; refine .inr ⟨j, e, p.2, by simpa using MapKept.run_findKey hu f1, f2, f3, ?_, g2⟩; have := b7V (hf p (mem_of_getElem? hp)) hk g1 hr f3; rw [hp, ← this]
 · rw [run_findKey_eq w (by rw [(a5i h1).1])]; simpa using b6D hk hr 0 h hf
theorem a5v {m : List (D × D)} {k : D} (h : ∀ p ∈ m, p.1 ≠ k) : M8 m k = none := by
 have : m.find? (fun p => G8 p.1 k) = none := by
   rw [find?_eq_none]; intro p hp e; exact h p hp (Z4 e)
 simp [M8, this]
theorem a7d {kt : TypeId} {m : List (D × D)} {k x : D} (hn : (m.map (·.1)).Nodup) (hk : D8 P kt k = true) (h : (k, x) ∈ m) : M8 m k = some x := by
 induction m with
 | nil => simp at h
 | cons p m ih =>
   rw [map_cons, nodup_cons] at hn; rcases mem_cons.1 h with rfl | h
   · simp [M8, a0l hk]
   · have hne : G8 p.1 k = false := by
       cases he : G8 p.1 k with
       | false => rfl
       | true => exact absurd (Z4 he ▸ mem_map.2 ⟨_, h, rfl⟩) hn.1
     have := ih hn.2 h; simp only [M8, find?_cons, hne] at this ⊢; exact this
theorem b7N {kt : TypeId} {k x y : D} (hk : D8 P kt k = true) : ∀ {m : List (D × D)} {j : Nat}, (m.map (·.1)).Nodup → m[j]? = some (k, x) → m.map (fun p => if G8 p.1 k then (p.1, y) else p) = m.set j (k, y)
 | [], j, _, h => by simp at h
 | p :: m, 0, hn, h => by
   simp only [getElem?_cons_zero, Option.some.injEq] at h; subst h; rw [map_cons, nodup_cons] at hn; have : m.map (fun p => if G8 p.1 k then (p.1, y) else p) = m := by
     refine (map_congr_left (fun q hq => ?_)).trans (map_id m); cases he : G8 q.1 k with
     | false => rfl
     | true => exact absurd (Z4 he ▸ mem_map.2 ⟨q, hq, rfl⟩) hn.1
   simp [a0l hk, this]
 | p :: m, j + 1, hn, h => by
   simp only [getElem?_cons_succ] at h; rw [map_cons, nodup_cons] at hn; have hne : G8 p.1 k = false := by
     cases he : G8 p.1 k with
     | false => rfl
     | true => exact absurd (Z4 he ▸ mem_map.2 ⟨_, mem_of_getElem? h, rfl⟩) hn.1
   simp [hne, b7N hk hn.2 h]
theorem b8b {kt : TypeId} {k x : D} (hk : D8 P kt k = true) : ∀ {m : List (D × D)} {j : Nat}, (m.map (·.1)).Nodup → m[j]? = some (k, x) → m.filter (fun p => !G8 p.1 k) = m.eraseIdx j
 | [], j, _, h => by simp at h
 | p :: m, 0, hn, h => by
   simp only [getElem?_cons_zero, Option.some.injEq] at h; subst h; rw [map_cons, nodup_cons] at hn; have : m.filter (fun p => !G8 p.1 k) = m := filter_eq_self.2 (fun q hq => by
     cases he : G8 q.1 k with
     | false => rfl
     | true => exact absurd (Z4 he ▸ mem_map.2 ⟨q, hq, rfl⟩) hn.1)
   simp [a0l hk, this]
 | p :: m, j + 1, hn, h => by
   simp only [getElem?_cons_succ] at h; rw [map_cons, nodup_cons] at hn; have hne : G8 p.1 k = false := by
     cases he : G8 p.1 k with
     | false => rfl
     | true => exact absurd (Z4 he ▸ mem_map.2 ⟨_, mem_of_getElem? h, rfl⟩) hn.1
   simp [hne, b8b hk hn.2 h]
theorem b7D {kt : TypeId} {m : List (D × D)} {k x : D} (hk : D8 P kt k = true) (h : (k, x) ∈ m) : m.any (fun p => G8 p.1 k) = true := any_eq_true.2 ⟨_, h, a0l hk⟩
theorem c0I {m : List (D × D)} {k : D} (h : ∀ p ∈ m, p.1 ≠ k) : m.any (fun p => G8 p.1 k) = false := by
 rw [any_eq_false]; intro p hp e; exact h p hp (Z4 e)
theorem b4E (m : List (D × D)) (k y : D) : (S5 m k y).map (·.1) = if m.any (fun p => G8 p.1 k) then m.map (·.1) else m.map (·.1) ++ [k] := by
 unfold S5; split
 · rw [map_map]; refine map_congr_left (fun p _ => ?_); simp only [Function.comp_apply]; split <;> rfl
 · simp
theorem b9R {m : List (D × D)} {k y : D} (hn : (m.map (·.1)).Nodup) {kt : TypeId} (hk : D8 P kt k = true) : ((S5 m k y).map (·.1)).Nodup := by
 rw [b4E]; split
 · exact hn
 · rename_i h
   refine nodup_append.2 ⟨hn, by simp, fun x hx z hz => ?_⟩; simp only [mem_singleton] at hz; subst hz; rintro rfl; obtain ⟨p, hp, rfl⟩ := mem_map.1 hx; exact h (b7D hk hp)
theorem c3b {m : List (D × D)} {k y : D} {kt : TypeId} (hf : ∀ p ∈ m, D8 P kt p.1 = true) (hk : D8 P kt k = true) : ∀ p ∈ S5 m k y, D8 P kt p.1 = true := by
 intro p hp; have : p.1 ∈ (S5 m k y).map (·.1) := mem_map.2 ⟨p, hp, rfl⟩; rw [b4E] at this; have old : p.1 ∈ m.map (·.1) → D8 P kt p.1 = true := fun h => by
   obtain ⟨q, hq, e⟩ := mem_map.1 h; rw [← e]; exact hf q hq
 split at this
 · exact old this
 · rcases mem_append.1 this with h | h
   · exact old h
   · rw [mem_singleton.1 h]; exact hk
theorem c2V {α : Type} {l l' : List α} (h : Perm l l') (f : α → Bool) : l.any f = l'.any f := by
 rw [Bool.eq_iff_iff, any_eq_true, any_eq_true]; exact ⟨fun ⟨x, hx, e⟩ => ⟨x, h.mem_iff.1 hx, e⟩, fun ⟨x, hx, e⟩ => ⟨x, h.mem_iff.2 hx, e⟩⟩
theorem c0f {m m' : List (D × D)} (h : Perm m' m) (k y : D) : Perm (S5 m' k y) (S5 m k y) := by
 unfold S5; rw [c2V h]; split
 · exact h.map _
 · exact h.append_right _
theorem c1B {m m' : List (D × D)} (h : Perm m' m) (k : D) : Perm (a6P m' k) (a6P m k) := h.filter _
theorem b3L {kt : TypeId} {m m' : List (D × D)} (h : Perm m' m) (hn : (m.map (·.1)).Nodup) {k : D} (hk : D8 P kt k = true) : M8 m' k = M8 m k := by
 by_cases hx : ∃ x, (k, x) ∈ m
 · obtain ⟨x, hx⟩ := hx; rw [a7d hn hk hx, a7d ((h.map _).nodup_iff.2 hn) hk (h.mem_iff.2 hx)]
 · have h0 : ∀ p ∈ m, p.1 ≠ k := fun p hp e => hx ⟨p.2, by rw [← e]; exact hp⟩
   rw [a5v h0, a5v (fun p hp => h0 p (h.mem_iff.1 hp))]
def a6s (P : Program) (s f : Nat) : Option (TypeId × Nat) :=
 match P.underlying s with
 | some (.struct fs) => (fs[f]?).map fun x => (x.type, x.offset)
 | _ => none
theorem b9T {P : Program} {w : World} {L : Nat → Nat → Prop} {s f : Nat} {ds : List D} {v : Value} (hv : RepV w L (.agg ds) v) {y : D} (hy : ds[f]? = some y) {q : TypeId × Nat} (hq : a6s P s f = some q) (ht : tyk P q.1 = some (y.isAgg, A9 y)) (ho : q.2 = C9 (ds.take f)) :
   ∃ u, (Instr.field s v f).run P w = .ok u w ∧ RepV w L y u := by
 obtain ⟨h1, h2⟩ := hv; obtain ⟨cs, rfl⟩ : ∃ cs, v = .agg cs := by
   cases v with
   | agg cs => exact ⟨cs, rfl⟩
   | _ => simp [I4, D.isAgg] at h2
 simp only [Rep] at h1; obtain ⟨css, h4, h1⟩ := h1; simp only [Value.cells] at h1; obtain ⟨pre, c, post, h5, h6, h7⟩ := h4.flat_at hy; have hcl : c.length = A9 y := Rep.len y c h7; unfold a6s at hq; split at hq
 · rename_i fs hu
   obtain ⟨x, hx, rfl⟩ := Option.map_eq_some_iff.1 hq; simp only at ht ho; have hcs : cs.toList = pre ++ (c ++ post) := by rw [h1, h5, append_assoc]
   have hrun : ∀ r, (part x.type cs x.offset).run P w = r → (Instr.field s (.agg cs) f).run P w = r := fun r hr => by
     simp only [Instr.field, Sem.run_bind, run_underlying hu, Result.andThen_ok, hx, asAgg, Sem.run_pure, hr]
   cases ha : y.isAgg with
   | true =>
     rw [ha] at ht; refine ⟨.agg (cs.extract x.offset (x.offset + A9 y)), hrun _ ?_, ?_, by simp [I4, ha]⟩
     · simp only [part, Sem.run_bind, a2r ht, Result.andThen_ok, if_true, a6n ht, Sem.run_pure]
     · have : take (A9 y) (drop x.offset cs.toList) = c := by
         rw [hcs, ho, ← h6, ← hcl]; simp
       simp only [Value.cells, Array.toList_extract, extract_eq_take_drop, Nat.add_sub_cancel_left, this]; exact h7
   | false =>
     rw [ha] at ht; obtain ⟨u, hu', hv'⟩ := a9A h7 ha; refine ⟨u, hrun _ ?_, RepV.of_cell (by rw [← hu']; exact h7) ha hv'⟩; have : cs[x.offset]? = some u := by
       rw [← Array.getElem?_toList, hcs, ho, ← h6, getElem?_append_right (Nat.le_refl _), Nat.sub_self, hu']; rfl
     simp only [part, Sem.run_bind, a2r ht, Result.andThen_ok, Bool.false_eq_true, if_false, this, Sem.run_pure]
 · cases hq
def a0y (c : Bool) (z : D) (r : Option D) : AV :=
 match c, r with
 | true, some x => .tup [.d x, .d (.bool true)]
 | true, none => .tup [.d z, .d (.bool false)]
 | false, some x => .d x
 | false, none => .d z
theorem RepV.tup2 {x y : D} {vx vy : Value} {O : Nat → Option Nat} {σ : St} {tm : Nat → Value} (hx : RepV w L x vx) (hy : RepV w L y vy) : RA P w L O σ tm none (.tup [.d x, .d y]) (.tuple #[vx, vy]) := by
 simp only [RA, RC, RCs]; exact ⟨[vx, vy], rfl, vx, [vy], rfl, hx, vy, [], rfl, hy, rfl⟩
theorem Rel.mapT (h : Rel P w0 L0 row w L O σ tm) {j : Nat} {u : Value} {kt : TypeId} {m : List (D × D)} {E : Option (List (D × Nat) × Nat)} (hj : σ j = .hm u kt m E) : a0d P w L (O j) kt m E u := by
 have h1 := h.slots j; rw [hj] at h1; exact h1
theorem Rel.mapSet (h : Rel P w0 L0 row w L O σ tm) {j g : Nat} {kt : TypeId} {m m1 m2 : List (D × D)} {E : Option (List (D × Nat) × Nat)} {es2 : Array MapEntry} {clk2 : Nat} (hj : σ j = .hm (.map (some g)) kt m E)
   (hp : Perm m1 m2) (he : I6 w L m1 es2.toList) (hn : (m2.map (·.1)).Nodup) (hf : ∀ p ∈ m2, D8 P kt p.1 = true) (hb : (es2.toList.map (·.born)).Nodup) (hc : ∀ e ∈ es2.toList, e.born < clk2) :
   ∃ O', Rel P w0 L0 row { w with heap := w.heap.setIfInBounds g (.map es2 clk2) } L O' (put σ j (.hm (.map (some g)) kt m2 none)) tm := by
 obtain ⟨g', m', es, clk, h1, h2, h3, h4, h5⟩ := h.mapT hj; simp only [Value.map.injEq, Option.some.injEq] at h2; subst h2; have hg := h.olt j g h1; have hset := MapKept.heap_set (o' := .map es2 clk2) h3; have hS : F4 w L { w with heap := w.heap.setIfInBounds g (.map es2 clk2) } L (E9 (some g)) := by
   refine ⟨fun b q hq => ⟨hq, fun v hv => ?_⟩, fun b _ hne => hset.2 b (fun e => hne (by rw [e]; rfl)), fun _ _ _ _ => Iff.rfl⟩; have hne : b ≠ g := fun e => h4 q (e ▸ hq)
   rw [G7 (hset.2 b hne)]; exact hv
 have := h.putOwn (w' := { w with heap := w.heap.setIfInBounds g (.map es2 clk2) }) j (.hm (.map (some g)) kt m2 none) (tm j) (O j) (E9 (some g)) hS
   (h.grown.then ⟨rfl, rfl, rfl, by simp, fun k hk hne => hset.2 k (fun e => hne (show some g = some k by rw [e])), Nat.le_refl _⟩ (fun q hq => by obtain rfl : g = q := (by simpa [E9] using hq); exact hg.2)) (by simp)
   (fun b q hq => by simpa using h.lok b q hq) (fun q hq => by obtain rfl : g = q := (by simpa [E9] using hq); exact hg.2) (fun i q hi hO e => hi (h.inj i j q hO (by rw [h1]; exact e)))
   (fun q hq => ⟨by simpa using (h.olt j q hq).1, (h.olt j q hq).2, fun i hi e => hi (h.inj i j q e hq)⟩)
   (by
     show a0d P { w with heap := w.heap.setIfInBounds g (.map es2 clk2) } L (O j) kt m2 none (.map (some g))
     exact ⟨g, m1, es2, clk2, h1, rfl, hset.1, h4, hp, he.mono hS.ext, hn, hf, hb, hc, by simp⟩)
 rw [J2] at this; exact ⟨_, this⟩
theorem b3p (hR : Rel P w0 L0 row w L O σ (B4 a)) {t kt vt : TypeId} (ht : P.underlying t = some (.map kt vt)) {j : Nat} {u : Value} {m m2 : List (D × D)} {E : Option (List (D × Nat) × Nat)} (hj : σ j = .hm u kt m E)
   {k y : D} {vk vy : Value} (hk : D8 P kt k = true) (hrk : RepV w L k vk) (hry : RepV w L y vy) (hp : Perm m2 (S5 m k y)) :
   ∃ w' O', (Instr.mapUpdate t u vk vy).run P w = .ok () w' ∧ Rel P w0 L0 row w' L O' (put σ j (.hm u kt m2 none)) (B4 a) := by
 obtain ⟨g, m', es, clk, h1, rfl, h3, h4, h5, h6, h7, h8, h9, h10, h11⟩ := hR.mapT hj; have h8' : ∀ p ∈ m', D8 P kt p.1 = true := fun p hp => h8 p (h5.mem_iff.1 hp)
 have hn' : (m'.map (·.1)).Nodup := (h5.map _).nodup_iff.2 h7; have hn2 : (m2.map (·.1)).Nodup := (hp.map _).nodup_iff.2 (b9R h7 hk); have hf2 : ∀ p ∈ m2, D8 P kt p.1 = true := fun p hp' => c3b h8 hk p (hp.mem_iff.1 hp')
 have hpm : Perm (S5 m' k y) m2 := (c0f h5 k y).trans hp.symm; rcases h6.find h8' hk hrk with ⟨f1, f2⟩ | ⟨i, e, x, f1, f2, f3, f4, f5⟩
 · have hms : S5 m' k y = m' ++ [(k, y)] := by unfold S5; rw [c0I f2]; simp
   rw [hms] at hpm; obtain ⟨O', hR'⟩ := hR.mapSet (es2 := es.push { key := vk, val := vy, born := clk }) (clk2 := clk + 1) hj hpm (by rw [Array.toList_push]; exact h6.append ⟨_, [], rfl, hrk, hry, rfl⟩) hn2 hf2
     (by
       rw [Array.toList_push, map_append]; refine nodup_append.2 ⟨h9, by simp, fun x hx z hz => ?_⟩; simp only [map_cons, map_nil, mem_singleton] at hz; subst hz; obtain ⟨e, he, rfl⟩ := mem_map.1 hx; exact Nat.ne_of_lt (h10 e he))
     (by
       intro e he; rw [Array.toList_push] at he; rcases mem_append.1 he with he | he
       · exact Nat.lt_succ_of_lt (h10 e he)
       · rw [mem_singleton.1 he]; exact Nat.lt_succ_self _)
   refine ⟨_, O', ?_, hR'⟩; simp [Instr.mapUpdate, run_underlying ht, MapKept.run_getObj_map h3, Q7 hk hrk, f1, MapKept.run_setObj_map _ h3, Result.andThen]
 · have hi : es[i]? = some e := (by simpa using f2); have hms : S5 m' k y = m'.set i (k, y) := by
     unfold S5; rw [if_pos (b7D hk (mem_of_getElem? f4)), b7N hk hn' f4]
   rw [hms] at hpm; have hto : (es.modify i fun e => { e with key := vk, val := vy }).toList = es.toList.set i { e with key := vk, val := vy } := by
     apply ext_getElem?
     intro q; simp only [Array.getElem?_toList, Array.getElem?_modify, getElem?_set, Array.length_toList]; have hlt : i < es.size := (Array.getElem?_eq_some_iff.1 hi).1; by_cases hq : i = q
     · subst hq; have he : es[i] = e := (Array.getElem?_eq_some_iff.1 hi).2; simp [hlt, he]
     · simp [hq]
   have hborn : (es.toList.set i { e with key := vk, val := vy }).map (·.born) = es.toList.map (·.born) := by
     apply ext_getElem?
     intro q; simp only [getElem?_map, getElem?_set]; have hlt : i < es.toList.length := (List.getElem?_eq_some_iff.1 f2).1; by_cases hq : i = q
     · subst hq; have hlt' : i < es.size := (by simpa using hlt); have he : es[i] = e := (Array.getElem?_eq_some_iff.1 hi).2; simp [hlt', he]
     · simp [hq]
   obtain ⟨O', hR'⟩ := hR.mapSet (es2 := es.modify i fun e => { e with key := vk, val := vy }) (clk2 := clk) hj hpm (by rw [hto]; exact h6.set hrk hry) hn2 hf2 (by rw [hto, hborn]; exact h9)
     (by
       intro e' he'; have : e'.born ∈ es.toList.map (·.born) := by rw [← hborn, ← hto]; exact mem_map.2 ⟨e', he', rfl⟩
       obtain ⟨e2, he2, hb⟩ := mem_map.1 this; rw [← hb]; exact h10 e2 he2)
   refine ⟨_, O', ?_, hR'⟩; simp [Instr.mapUpdate, run_underlying ht, MapKept.run_getObj_map h3, Q7 hk hrk, f1, hi, f3, c1H hk hrk, MapKept.run_setObj_map _ h3, Result.andThen]
theorem a6w (hR : Rel P w0 L0 row w L O σ (B4 a)) {t kt vt ty : TypeId} {ts : Array TypeId} (hts : ts[0]? = some t) (ht : P.underlying t = some (.map kt vt)) {j : Nat} {u : Value} {m m2 : List (D × D)} {E : Option (List (D × Nat) × Nat)} (hj : σ j = .hm u kt m E)
   {k : D} {vk : Value} (hk : D8 P kt k = true) (hrk : RepV w L k vk) (hp : Perm m2 (a6P m k)) :
   ∃ w' O', (Builtin.delete_ ts ty #[u, vk]).run P w = .ok (.tuple #[]) w' ∧ Rel P w0 L0 row w' L O' (put σ j (.hm u kt m2 none)) (B4 a) := by
 obtain ⟨g, m', es, clk, h1, rfl, h3, h4, h5, h6, h7, h8, h9, h10, h11⟩ := hR.mapT hj; have h8' : ∀ p ∈ m', D8 P kt p.1 = true := fun p hp => h8 p (h5.mem_iff.1 hp)
 have hn' : (m'.map (·.1)).Nodup := (h5.map _).nodup_iff.2 h7; have hsub : ∀ p ∈ m2, p ∈ m := fun p hp' => (mem_filter.1 (hp.mem_iff.1 hp')).1
 have hn2 : (m2.map (·.1)).Nodup := (hp.map _).nodup_iff.2 ((filter_sublist.map _).nodup h7); have hf2 : ∀ p ∈ m2, D8 P kt p.1 = true := fun p hp' => h8 p (hsub p hp')
 have hpm : Perm (a6P m' k) m2 := (c1B h5 k).trans hp.symm; rcases h6.find h8' hk hrk with ⟨f1, f2⟩ | ⟨i, e, x, f1, f2, f3, f4, f5⟩
 · have hms : a6P m' k = m' := filter_eq_self.2 (fun p hp => by
     cases he : G8 p.1 k with
     | false => rfl
     | true => exact absurd (Z4 he) (f2 p hp))
   rw [hms] at hpm; obtain ⟨O', hR'⟩ := hR.mapSet (es2 := es) (clk2 := clk) hj hpm h6 hn2 hf2 h9 h10; refine ⟨_, O', ?_, hR'⟩; simp [Builtin.delete_, hts, run_underlying ht, MapKept.run_getObj_map h3, Q7 hk hrk, f1, MapKept.run_setObj_map _ h3, Result.andThen]
 · have hlt : i < es.size := by have := (List.getElem?_eq_some_iff.1 f2).1; simpa using this
   have hms : a6P m' k = m'.eraseIdx i := b8b hk hn' f4; rw [hms] at hpm; have hto : (es.eraseIdxIfInBounds i).toList = es.toList.eraseIdx i := by
     unfold Array.eraseIdxIfInBounds; rw [dif_pos hlt, Array.toList_eraseIdx]
   have hsl : (es.toList.eraseIdx i).Sublist es.toList := eraseIdx_sublist _ _; obtain ⟨O', hR'⟩ := hR.mapSet (es2 := es.eraseIdxIfInBounds i) (clk2 := clk) hj hpm (by rw [hto]; exact h6.erase) hn2 hf2 (by rw [hto]; exact (hsl.map _).nodup h9)
     (by rw [hto]; exact fun e he => h10 e (hsl.subset he))
   refine ⟨_, O', ?_, hR'⟩; simp [Builtin.delete_, hts, run_underlying ht, MapKept.run_getObj_map h3, Q7 hk hrk, f1, MapKept.run_setObj_map _ h3, Result.andThen]
section
variable (hd : o.dst = some d) (hlt : d < n) (hsz : a.tmps.size = n) (hdef : a.defers = []) (hR : Rel P w0 L0 row w L O σ (B4 a))
include hd hlt hsz hdef hR
theorem c0z {t kt : TypeId} (ho : o.op = .makeMap t none) {j : Nat} (hj : σ j = .undef) (h : ∀ g, K (put (put σ j (.hm (.map (some g)) kt [] none)) d (.d (.raw (.map (some g)))))) : o.wp P a w (B6 P w0 L0 row n K) Q := by
 have h1 := hR.putNew (.map #[] 0) 0 j (.hm (.map (some w.heap.size)) kt [] none) (B4 a j) (by
   refine ⟨w.heap.size, [], #[], 0, rfl, rfl, heap_alloc_new w _, fun q hq => ?_, Perm.refl _, rfl, by simp, by simp, by simp, by simp, by simp⟩; rcases hq with hq | hq
   · have := hR.lok _ _ hq; omega
   · omega)
 rw [J2] at h1; refine G4 hd hlt hsz hdef (v := .map (some w.heap.size)) (w' := w.alloc (.map #[] 0)) ?_ (h1.putPure d (.d (.raw (.map (some w.heap.size)))) _ (RepV.raw (by simp [Value.oneCell']) rfl)) (h w.heap.size); simp [execOp, ho, Instr.makeMap, newObj]; rfl
theorem b5X {t kt vt : TypeId} {x i : Operand} {c : Bool} (ho : o.op = .lookup t x i c) (ht : P.underlying t = some (.map kt vt)) {u : Value} (hx : A0 σ x = .d (.raw u)) {j : Nat} {m : List (D × D)} {E : Option (List (D × Nat) × Nat)} (hj : σ j = .hm u kt m E)
   {k z : D} (hi : asD (A0 σ i) = some k) (hk : D8 P kt k = true) (hz : D4 P vt = some z) (h : K (put σ d (a0y c z (M8 m k)))) : o.wp P a w (B6 P w0 L0 row n K) Q := by
 have hu : a.eval x = u := (E6 hR hx).raw_inv; have hrk := I7 hR hi; obtain ⟨g, m', es, clk, h1, rfl, h3, h4, h5, h6, h7, h8, h9, h10, h11⟩ := hR.mapT hj; have h8' : ∀ p ∈ m', D8 P kt p.1 = true := fun p hp => h8 p (h5.mem_iff.1 hp)
 have hn' : (m'.map (·.1)).Nodup := (h5.map _).nodup_iff.2 h7; obtain ⟨zv, hzv, hzr, _⟩ := a3w hz w L; rw [← b3L h5 h7 hk] at h; rcases h6.find h8' hk hrk with ⟨f1, f2⟩ | ⟨i', e, x', f1, f2, f3, f4, f5⟩
 · rw [a5v f2] at h; cases c with
   | true =>
     refine C8 hd hlt hsz hdef hR (x := .tup [.d z, .d (.bool false)]) (v := .tuple #[zv, .bool false]) ?_ (RepV.tup2 hzr RepV.bool) h; simp [execOp, ho, hu, Instr.lookup, run_underlying ht, MapKept.run_getObj_map h3, Q7 hk hrk, f1, hzv, Result.andThen]
   | false =>
     refine C8 hd hlt hsz hdef hR (x := .d z) (v := zv) ?_ hzr h; simp [execOp, ho, hu, Instr.lookup, run_underlying ht, MapKept.run_getObj_map h3, Q7 hk hrk, f1, hzv, Result.andThen]
 · rw [a7d hn' hk (mem_of_getElem? f4)] at h; cases c with
   | true =>
     refine C8 hd hlt hsz hdef hR (x := .tup [.d x', .d (.bool true)]) (v := .tuple #[e.val, .bool true]) ?_ (RepV.tup2 f5 RepV.bool) h; simp [execOp, ho, hu, Instr.lookup, run_underlying ht, MapKept.run_getObj_map h3, Q7 hk hrk, f1, Result.andThen]
   | false =>
     refine C8 hd hlt hsz hdef hR (x := .d x') (v := e.val) ?_ f5 h; simp [execOp, ho, hu, Instr.lookup, run_underlying ht, MapKept.run_getObj_map h3, Q7 hk hrk, f1, Result.andThen]
theorem b3R {t kt vt : TypeId} {x i : Operand} {c : Bool} (ho : o.op = .lookup t x i c) (ht : P.underlying t = some (.map kt vt)) (hx : A0 σ x = .d (.raw (.map none)))
   {k z : D} (hi : asD (A0 σ i) = some k) (hk : D8 P kt k = true) (hz : D4 P vt = some z) (h : K (put σ d (a0y c z none))) : o.wp P a w (B6 P w0 L0 row n K) Q := by
 have hu : a.eval x = .map none := (E6 hR hx).raw_inv; have hrk := I7 hR hi; obtain ⟨zv, hzv, hzr, _⟩ := a3w hz w L; have h6 : I6 w L [] [] := (by simp [I6]); rcases h6.find (fun p hp => by cases hp) hk hrk with ⟨f1, f2⟩ | ⟨i', e, x', f1, f2, f3, f4, f5⟩
 · cases c with
   | true =>
     refine C8 hd hlt hsz hdef hR (x := .tup [.d z, .d (.bool false)]) (v := .tuple #[zv, .bool false]) ?_ (RepV.tup2 hzr RepV.bool) h; simp [execOp, ho, hu, Instr.lookup, run_underlying ht, Q7 hk hrk, f1, hzv, Result.andThen]
   | false =>
     refine C8 hd hlt hsz hdef hR (x := .d z) (v := zv) ?_ hzr h; simp [execOp, ho, hu, Instr.lookup, run_underlying ht, Q7 hk hrk, f1, hzv, Result.andThen]
 · cases f4
theorem c3R {s f : Nat} {x : Operand} (ho : o.op = .field s x f) {ds : List D} (hx : A0 σ x = .d (.agg ds)) {y : D} (hy : ds[f]? = some y) {q : TypeId × Nat} (hq : a6s P s f = some q) (ht : tyk P q.1 = some (y.isAgg, A9 y)) (hw : q.2 = C9 (ds.take f))
   (h : K (put σ d (.d y))) : o.wp P a w (B6 P w0 L0 row n K) Q := by
 obtain ⟨u, hu, hr⟩ := b9T (E6 hR hx) hy hq ht hw; refine C8 hd hlt hsz hdef hR (x := .d y) (v := u) ?_ hr h; simp only [execOp, ho, Sem.run_bind, hu, Result.andThen_ok, Sem.run_pure]
theorem c0Y {t kt vt : TypeId} {x : Operand} (ho : o.op = .call { callee := .builtin .len, args := #[x], argTypes := #[t] }) (ht : P.underlying t = some (.map kt vt)) {u : Value} (hx : A0 σ x = .d (.raw u)) {j : Nat} {kt' : TypeId} {m : List (D × D)}
   {E : Option (List (D × Nat) × Nat)} (hj : σ j = .hm u kt' m E) (h : K (put σ d (.d (.int .i64 m.length)))) : o.wp P a w (B6 P w0 L0 row n K) Q := by
 have hu : a.eval x = u := (E6 hR hx).raw_inv; obtain ⟨g, m', es, clk, h1, rfl, h3, h4, h5, h6, h7⟩ := hR.mapT hj; have hl : es.size = m.length := by rw [← h5.length_eq, ← h6.len]; simp
 refine C8 hd hlt hsz hdef hR (x := .d (.int .i64 m.length)) (v := goInt es.size) ?_ (by rw [hl]; exact RepV.int) h; simp [execOp, ho, hu, resolve, invoke, builtin, Builtin.len_, run_underlying ht, MapKept.run_getObj_map h3, Result.andThen]
theorem c2Q {t t' kt vt : TypeId} {x i : Operand} (ho : o.op = .call { callee := .builtin .delete, args := #[x, i], argTypes := #[t, t'] }) (ht : P.underlying t = some (.map kt vt)) {u : Value} (hx : A0 σ x = .d (.raw u)) {j : Nat} {m m2 : List (D × D)}
   {E : Option (List (D × Nat) × Nat)} (hj : σ j = .hm u kt m E) {k : D} (hi : asD (A0 σ i) = some k) (hk : D8 P kt k = true) (hp : Perm m2 (a6P m k)) (h : K (put (put σ j (.hm u kt m2 none)) d (.tup []))) : o.wp P a w (B6 P w0 L0 row n K) Q := by
 have hu : a.eval x = u := (E6 hR hx).raw_inv; obtain ⟨w', O', hrun, hR'⟩ := a6w (ts := #[t, t']) (ty := o.type) hR rfl ht hj hk (I7 hR hi) hp; refine G4 hd hlt hsz hdef (v := .tuple #[]) (w' := w') ?_ (hR'.putPure d (.tup []) _ ⟨[], rfl, rfl⟩) h; simp [execOp, ho, hu, resolve, invoke, builtin, hrun, Result.andThen]
end
section
variable (hd : o.dst = none) (hsz : a.tmps.size = n) (hdef : a.defers = []) (hR : Rel P w0 L0 row w L O σ (B4 a))
include hd hsz hdef hR
theorem c1N {t t' kt vt : TypeId} {x i : Operand} (ho : o.op = .call { callee := .builtin .delete, args := #[x, i], argTypes := #[t, t'] }) (ht : P.underlying t = some (.map kt vt)) {u : Value} (hx : A0 σ x = .d (.raw u)) {j : Nat} {m m2 : List (D × D)}
   {E : Option (List (D × Nat) × Nat)} (hj : σ j = .hm u kt m E) {k : D} (hi : asD (A0 σ i) = some k) (hk : D8 P kt k = true) (hp : Perm m2 (a6P m k)) (h : K (put σ j (.hm u kt m2 none))) : o.wp P a w (B6 P w0 L0 row n K) Q := by
 have hu : a.eval x = u := (E6 hR hx).raw_inv; obtain ⟨w', O', hrun, hR'⟩ := a6w (ts := #[t, t']) (ty := o.type) hR rfl ht hj hk (I7 hR hi) hp; unfold Oper.wp; have : (execOp a.eval o).run P w = .ok (.value (.tuple #[])) w' := by
   simp [execOp, ho, hu, resolve, invoke, builtin, hrun, Result.andThen]
 rw [this]; simp only [Oper.upon, hd, Act.put]; exact ⟨L, O', _, hR', hdef, hsz, h⟩
theorem b0o {t kt vt : TypeId} {x i y : Operand} (ho : o.op = .mapUpdate t x i y ∨ o.op = .insert t x i y) (ht : P.underlying t = some (.map kt vt)) {u : Value} (hx : A0 σ x = .d (.raw u)) {j : Nat} {m m2 : List (D × D)}
   {E : Option (List (D × Nat) × Nat)} (hj : σ j = .hm u kt m E) {k z : D} (hi : asD (A0 σ i) = some k) (hk : D8 P kt k = true) (hy : asD (A0 σ y) = some z) (hp : Perm m2 (S5 m k z)) (h : K (put σ j (.hm u kt m2 none))) :
   o.wp P a w (B6 P w0 L0 row n K) Q := by
 have hu : a.eval x = u := (E6 hR hx).raw_inv; obtain ⟨w', O', hrun, hR'⟩ := b3p hR ht hj hk (I7 hR hi) (I7 hR hy) hp; refine a8D hd hsz hdef (w' := w') ?_ hR' h; rcases ho with ho | ho <;> simp [execOp, ho, hu, hrun, Result.andThen]
end
theorem a3G {m : List (D × D)} {es : List MapEntry} (h : es.length = m.length) : (H3 m es).map (·.1) = m.map (·.1) := by
 unfold H3; rw [← unzip_fst, unzip_zip_left (by simp [h])]
theorem a1C : ∀ {m : List (D × D)} {es : List MapEntry} {i : Nat} {p : D × D} {e : MapEntry}, (m.map (·.1)).Nodup → (∀ p ∈ m, G8 p.1 p.1 = true) → m[i]? = some p → es[i]? = some e → U4 (H3 m es) p.1 = e.born
 | [], _, _, _, _, _, _, h, _ => by simp at h
 | _ :: _, [], _, _, _, _, _, _, h => by simp at h
 | q :: m, e' :: es, 0, p, e, _, hf, h1, h2 => by
   simp only [getElem?_cons_zero, Option.some.injEq] at h1 h2; subst h1; subst h2; simp [U4, H3, hf q (by simp)]
 | q :: m, e' :: es, i + 1, p, e, hn, hf, h1, h2 => by
   simp only [getElem?_cons_succ] at h1 h2; rw [map_cons, nodup_cons] at hn; have hne : G8 q.1 p.1 = false := by
     cases he : G8 q.1 p.1 with
     | false => rfl
     | true => exact absurd (Z4 he ▸ mem_map.2 ⟨_, mem_of_getElem? h1, rfl⟩) hn.1
   have := a1C hn.2 (fun p hp => hf p (mem_cons_of_mem _ hp)) h1 h2; simp only [U4, H3, map_cons, zip_cons_cons, find?_cons, hne] at this ⊢; exact this
theorem b6H {α : Type} {l : List α} (hn : l.Nodup) {i j : Nat} {x : α} (hi : l[i]? = some x) (hj : l[j]? = some x) : i = j := by
 obtain ⟨h1, h2⟩ := List.getElem?_eq_some_iff.1 hi; obtain ⟨h3, h4⟩ := List.getElem?_eq_some_iff.1 hj; rcases Nat.lt_trichotomy i j with h | h | h
 · exact absurd (h2.trans h4.symm) ((pairwise_iff_getElem.1 hn) i j h1 h3 h)
 · exact h
 · exact absurd (h4.trans h2.symm) ((pairwise_iff_getElem.1 hn) j i h3 h1 h)
section
variable (hd : o.dst = some d) (hlt : d < n) (hsz : a.tmps.size = n) (hdef : a.defers = []) (hR : Rel P w0 L0 row w L O σ (B4 a))
include hd hlt hsz hdef hR
theorem c3G {t kt vt : TypeId} {x : Operand} (ho : o.op = .range t x) (ht : P.underlying t = some (.map kt vt)) {u : Value} (hx : A0 σ x = .d (.raw u)) {j : Nat} {m : List (D × D)} {E : Option (List (D × Nat) × Nat)} (hj : σ j = .hm u kt m E)
   (h : ∀ E, K (put (put σ j (.hm u kt m (some E))) d (.mit u E []))) : o.wp P a w (B6 P w0 L0 row n K) Q := by
 have hu : a.eval x = u := (E6 hR hx).raw_inv; obtain ⟨g, m', es, clk, h1, rfl, h3, h4, h5, h6, h7, h8, h9, h10, h11⟩ := hR.mapT hj; have hR1 := hR.putOwn j (.hm (.map (some g)) kt m (some (H3 m' es.toList, clk))) (B4 a j) (O j) noB (F4.refl w L _) hR.grown (Nat.le_refl _) hR.lok (fun _ h => h.elim) (fun _ _ _ _ h => h)
   (fun q hq => ⟨(hR.olt j q hq).1, (hR.olt j q hq).2, fun i hi e => hi (hR.inj i j q e hq)⟩)
   (show a0d P w L (O j) kt m (some (H3 m' es.toList, clk)) (.map (some g)) from ⟨g, m', es, clk, h1, rfl, h3, h4, h5, h6, h7, h8, h9, h10, by simp⟩)
 rw [J2] at hR1; have hR2 := hR1.putNew (.mapIter (some g) clk #[] clk) 0 d (.mit (.map (some g)) (H3 m' es.toList, clk) []) (.pointer (some ⟨w.heap.size, 0, none⟩)) ⟨w.heap.size, g, rfl, rfl, rfl, heap_alloc_new w _, by simp, fun q hq => by
   rcases hq with hq | hq
   · have := hR1.lok _ _ hq; omega
   · omega⟩
 refine G4 hd hlt hsz hdef ?_ hR2 (h _); simp [execOp, ho, hu, run_range_map w t kt vt g es clk ht h3, Result.andThen]
theorem c6o {t : Nat} (ho : o.op = .next (.tmp t) false) {u : Value} {E : List (D × Nat) × Nat} {seen : List D} (ht : σ t = .mit u E seen) {j : Nat} {kt : TypeId} {m : List (D × D)} (hj : σ j = .hm u kt m (some E))
   (h1 : ∀ k v, (k, v) ∈ m → k ∉ seen → K (put (put σ t (.mit u E (seen ++ [k]))) d (.tup [.d (.bool true), .d k, .d v]))) (h0 : (∀ p ∈ m, p.1 ∈ seen) → K (put (put σ j (.hm u kt m none)) d (.tup [.d (.bool false)]))) :
   o.wp P a w (B6 P w0 L0 row n K) Q := by
 obtain ⟨g, m', es, clk, f1, rfl, f3, f4, f5, f6, f7, f8, f9, f10, f11⟩ := hR.mapT hj; have hE := f11 E rfl; subst hE; have hs := hR.slots t; rw [ht] at hs; obtain ⟨r, g', e1, e2, e3, e4, e5, e6⟩ := hs; simp only [Value.map.injEq, Option.some.injEq] at e3; subst e3; simp only at e4 e5; have hn' : (m'.map (·.1)).Nodup := (f5.map _).nodup_iff.2 f7; have hf' : ∀ p ∈ m', G8 p.1 p.1 = true := fun p hp => a0l (f8 p (f5.mem_iff.1 hp))
 have hrg := (hR.olt t r e1); have hev : a.eval (.tmp t) = .pointer (some ⟨r, 0, none⟩) := e2; rw [a3G f6.len] at e5; rcases run_next_at (P := P) w o.type r g clk clk _ es clk e4 f3 f10 (Nat.le_refl _) with ⟨hL, hrun⟩ | ⟨e, he, w1, hw1, hrun⟩
 · have hR1 := hR.putOwn j (.hm (.map (some g)) kt m none) (B4 a j) (O j) noB (F4.refl w L _) hR.grown (Nat.le_refl _) hR.lok (fun _ h => h.elim) (fun _ _ _ _ h => h)
     (fun q hq => ⟨(hR.olt j q hq).1, (hR.olt j q hq).2, fun i hi e => hi (hR.inj i j q e hq)⟩)
     (show a0d P w L (O j) kt m none (.map (some g)) from ⟨g, m', es, clk, f1, rfl, f3, f4, f5, f6, f7, f8, f9, f10, by simp⟩)
   rw [J2] at hR1; have hR2 := hR1.putPure d (.tup [.d (.bool false)]) (.tuple #[.bool false]) (by
     simp only [RA, RC, RCs]; exact ⟨[.bool false], rfl, _, [], rfl, RepV.bool, rfl⟩)
   refine G4 hd hlt hsz hdef (v := .tuple #[.bool false]) (w' := w) (by simp [execOp, ho, hev, hrun, Result.andThen]) hR2 (h0 fun p hp => ?_); obtain ⟨i, hi⟩ := getElem?_of_mem (f5.mem_iff.2 hp); obtain ⟨en, hen, _⟩ := f6.at_ hi; have hseen := all_seen es _ hL en (mem_of_getElem? hen); rw [Array.contains_iff_mem] at hseen; simp only [mem_toArray, mem_map] at hseen; obtain ⟨k', hk', hb⟩ := hseen; obtain ⟨p', hp', rfl⟩ := mem_map.1 (e5 k' hk'); obtain ⟨i', hi'⟩ := getElem?_of_mem hp'; obtain ⟨en', hen', _⟩ := f6.at_ hi'; rw [a1C hn' hf' hi' hen'] at hb; have : i' = i := b6H f9 (x := en'.born) (by rw [getElem?_map, hen']; rfl) (by rw [getElem?_map, hen, hb]; rfl); subst this; rw [hi] at hi'; simp only [Option.some.injEq] at hi'; rw [hi']; exact hk'
 · obtain ⟨he1, he2⟩ := mem_left he; obtain ⟨i, hi⟩ := getElem?_of_mem he1; obtain ⟨p, hp, g1, g2⟩ := f6.get hi; have hbo := a1C hn' hf' hp hi; have hns : p.1 ∉ seen := fun hs => by
     have : (seen.map (U4 (H3 m' es.toList))).toArray.contains e.born = true := by
       rw [Array.contains_iff_mem]; simp only [mem_toArray, mem_map]; exact ⟨p.1, hs, hbo⟩
     rw [this] at he2; cases he2
   have hRw : Rel P w0 L0 row w1 L O σ (B4 a) := by
     rcases hw1 with rfl | rfl
     · exact hR
     · exact hR.drew
   have hw1h : w1.heap = w.heap := by rcases hw1 with rfl | rfl <;> rfl
   have hset := MapKept.heap_set (w := w1) (o' := .mapIter (some g) clk ((seen.map (U4 (H3 m' es.toList))).toArray.push e.born) clk) (r := r) (by rw [hw1h]; exact e4); have hS : F4 w1 L (ChangeMaps.setBlock w1 r (.mapIter (some g) clk ((seen.map (U4 (H3 m' es.toList))).toArray.push e.born) clk)) L (E9 (some r)) := by
     refine ⟨fun b q hq => ⟨hq, fun v hv => ?_⟩, fun b _ hne => hset.2 b (fun e => hne (show some r = some b by rw [e])), fun _ _ _ _ => Iff.rfl⟩; have hne : b ≠ r := fun e => e6 q (e ▸ hq)
     rw [G7 (hset.2 b hne)]; exact hv
   have hR2 := hRw.putOwn (w' := ChangeMaps.setBlock w1 r (.mapIter (some g) clk ((seen.map (U4 (H3 m' es.toList))).toArray.push e.born) clk)) t (.mit (.map (some g)) (H3 m' es.toList, clk) (seen ++ [p.1])) (B4 a t) (O t) (E9 (some r)) hS
     (hRw.grown.then ⟨rfl, rfl, rfl, by simp [ChangeMaps.setBlock], fun k hk hne => hset.2 k (fun e => hne (show some r = some k by rw [e])), Nat.le_refl _⟩ (fun q hq => by obtain rfl : r = q := (by simpa [E9] using hq); exact hrg.2)) (by simp [ChangeMaps.setBlock])
     (fun b q hq => by simpa [ChangeMaps.setBlock] using hRw.lok b q hq) (fun q hq => by obtain rfl : r = q := (by simpa [E9] using hq); exact hrg.2) (fun i q hi hO e => hi (hR.inj i t q hO (by rw [e1]; exact e)))
     (fun q hq => ⟨by simpa [ChangeMaps.setBlock] using (hRw.olt t q hq).1, (hRw.olt t q hq).2, fun i hi e => hi (hR.inj i t q e hq)⟩)
     (by
       refine ⟨r, g, e1, e2, rfl, ?_, ?_, e6⟩
       · show (w1.heap.setIfInBounds r _)[r]? = _
         rw [hset.1]; simp [hbo]
       · intro k hk; rw [a3G f6.len]; rcases mem_append.1 hk with hk | hk
         · exact e5 k hk
         · rw [mem_singleton.1 hk]; exact mem_map.2 ⟨p, mem_of_getElem? hp, rfl⟩)
   rw [J2] at hR2; refine G4 hd hlt hsz hdef (v := .tuple #[.bool true, e.key, e.val]) ?_ (hR2.putPure d (.tup [.d (.bool true), .d p.1, .d p.2]) _ ?_) (h1 p.1 p.2 (f5.mem_iff.1 (mem_of_getElem? hp)) hns)
   · simp [execOp, ho, hev, hrun, Result.andThen]
   · simp only [RA, RC, RCs]; have hx1 : Ext w L (ChangeMaps.setBlock w1 r (.mapIter (some g) clk ((seen.map (U4 (H3 m' es.toList))).toArray.push e.born) clk)) L := fun b q hq => ⟨hq, fun v hv => (hS.ext b q hq).2 v (by
       rw [G7 (w := w) (by rw [hw1h])]; exact hv)⟩
     exact ⟨[.bool true, e.key, e.val], rfl, _, _, rfl, RepV.bool, _, _, rfl, g1.mono hx1, _, _, rfl, g2.mono hx1, rfl⟩
theorem c4G {t : Nat} (ho : o.op = .entry (.tmp t)) {u : Value} {E : List (D × Nat) × Nat} {seen : List D} (ht : σ t = .mit u E seen) {j : Nat} {kt : TypeId} {m : List (D × D)} (hj : σ j = .hm u kt m (some E)) {s2 : List D} {k v : D} (hs : seen = s2 ++ [k]) (hm : (k, v) ∈ m)
   (h : K (put σ d (.tup [.d k, .d v]))) : o.wp P a w (B6 P w0 L0 row n K) Q := by
 obtain ⟨g, m', es, clk, f1, rfl, f3, f4, f5, f6, f7, f8, f9, f10, f11⟩ := hR.mapT hj; have hE := f11 E rfl; subst hE; have hst := hR.slots t; rw [ht] at hst; obtain ⟨r, g', e1, e2, e3, e4, e5, e6⟩ := hst; simp only [Value.map.injEq, Option.some.injEq] at e3; subst e3; subst hs; simp only at e4; have hn' : (m'.map (·.1)).Nodup := (f5.map _).nodup_iff.2 f7; have hf' : ∀ p ∈ m', G8 p.1 p.1 = true := fun p hp => a0l (f8 p (f5.mem_iff.1 hp))
 obtain ⟨i, hi⟩ := getElem?_of_mem (f5.mem_iff.2 hm); obtain ⟨e, he, g1, g2⟩ := f6.at_ hi; have hbo := a1C hn' hf' hi he; simp only at hbo; have hev : a.eval (.tmp t) = .pointer (some ⟨r, 0, none⟩) := e2; have hseen : ((s2 ++ [k]).map (U4 (H3 m' es.toList))).toArray = ((s2.map (U4 (H3 m' es.toList))).toArray).push e.born := by
   apply Array.ext'
   simp [hbo]
 rw [hseen] at e4; have hrun := run_entry_at (P := P) w r g clk _ es clk e e4 f3 (mem_of_getElem? he) f9; refine C8 hd hlt hsz hdef hR (x := .tup [.d k, .d v]) (v := .tuple #[e.key, e.val]) ?_ (RepV.tup2 g1 g2) h; simp [execOp, ho, hev, hrun, Result.andThen]
end
def b2K (σ : St) (d : Option Nat) (r : AV) : St := match d with
 | some d => put σ d r
 | none => σ
theorem b2n (hlt : ∀ d, o.dst = some d → d < n) (hsz : a.tmps.size = n) (hdef : a.defers = []) (hR : Rel P w0 L0 row w L O σ (B4 a)) {g : FuncId} {vals : List Value} {xa : List AV} (hexec : (execOp a.eval o).run P w = .ok (.enter g vals.toArray) w) (hvals : RCs P w L none xa vals)
   (ks : List Nat) (hks : ∀ k ∈ ks, isH (σ k) = true) (hnd : ks.Nodup) (b : Nat) {Post : AV → List AV → Prop} (hfn : F5 P g xa (ks.map σ) Post)
   (h : ∀ r hs', Post r hs' → K (C6 (b2K (B9 σ ks) o.dst r) ks b hs')) :
   o.wp P a w (B6 P w0 L0 row n K) Q := by
 unfold Oper.wp; rw [hexec, Oper.upon_enter]; obtain ⟨t1, t2, O1, t3, t4, t5⟩ := hR.takeH ks hks hnd; refine (hfn.2 w L _ hR.lok hR.gl hvals t1 t2).mono ?_; rintro e w' ⟨v, L', og, r, hs', rfl, hgr, hlok', hold', hog', hap, hrc, hrh, hpost⟩
 show B6 P w0 L0 row n K (a.put o.dst v) w'
 have hS : F4 w L w' L' (fun b => some b ∈ (ks.map σ).map B7) := by
   refine ⟨fun b q hq => ?_, fun b hb hne => hgr.block b hb hne, fun b q hb hne => hold' b q hb hne⟩; have hb := hR.lok b q hq; have hbj : some b ∉ (ks.map σ).map B7 := fun hb => (t5 b hb).2.2.1 q hq
   refine ⟨(hold' b q hb hbj).2 hq, fun u hu => ?_⟩; rw [G7 (hgr.block b hb hbj)]; exact hu
 have hfresh : ∀ g, some g ∈ og :: hs'.map B7 → g < w'.heap.size ∧ (w0.heap.size ≤ g ∨ row g) ∧ ∀ i, O1 i ≠ some g := fun g hg => by
   have := hog' g hg; refine ⟨this.1, ?_, fun i hi => ?_⟩
   · rcases this.2 with h9 | h9
     · exact .inl (Nat.le_trans hR.grown.size h9)
     · exact (t5 g h9).1
   · rcases this.2 with h9 | h9
     · have := (t3.olt i g hi).1; omega
     · exact (t5 g h9).2.2.2.1 i hi
 have hmid : ∃ O2, Rel P w0 L0 row w' L' O2 (b2K (B9 σ ks) o.dst r) (B4 (a.put o.dst v)) ∧ ∀ g, some g ∈ hs'.map B7 → ∀ i, O2 i ≠ some g := by
   cases hd : o.dst with
   | some d =>
     have h1 := t3.putOwn d r v og _ hS (hR.grown.then hgr (fun b hb => (t5 b hb).1)) hgr.size hlok' (fun b hb => (t5 b hb).1) (fun i b _ hi hb => (t5 b hb).2.2.2.1 i hi) (fun g hg => by
       have := hfresh g (by simp [hg]); exact ⟨this.1, this.2.1, fun i _ => this.2.2 i⟩) (RC.toRA hrc _ _ _ _)
     refine ⟨_, by rw [Z0 (show d < a.tmps.size by rw [hsz]; exact hlt d hd)]; exact h1, fun g hg i hi => ?_⟩; simp only [B0] at hi; split at hi
     · exact hap.1 g hi hg
     · exact (hfresh g (by simp only [mem_cons]; exact .inr hg)).2.2 i hi
   | none =>
     refine ⟨O1, ⟨hR.grown.then hgr (fun b hb => (t5 b hb).1), hlok', t3.gl.mono hS.ext, fun b q hb hr => ?_, fun i => ?_, t3.inj, fun i g hi => ⟨Nat.lt_of_lt_of_le (t3.olt i g hi).1 hgr.size, (t3.olt i g hi).2⟩⟩, fun g hg i => (hfresh g (by simp only [mem_cons]; exact .inr hg)).2.2 i⟩
     · have hb' : b < w.heap.size := Nat.lt_of_lt_of_le hb t3.grown.size; refine (hS.lim b q hb' (fun e => ?_)).trans (t3.old b q hb hr); rcases (t5 b e).1 with h1 | h1
       · omega
       · exact hr h1
     · exact RA.step (og := O1 i) hS (fun g hg => ⟨(t3.olt i g hg).1, fun hm => (t5 g hm).2.2.2.1 i hg⟩) (t3.slots i)
 obtain ⟨O2, h1, h1b⟩ := hmid; obtain ⟨O3, h2⟩ := Rel.putNames hs' ks b h1 hrh hap.2 (fun g hg => by
   have := hfresh g (by simp only [mem_cons]; exact .inr hg); exact ⟨this.1, this.2.1, h1b g hg⟩)
 refine ⟨L', O3, _, h2, ?_, ?_, h r hs' hpost⟩
 · cases o.dst <;> simpa [Act.put] using hdef
 · cases o.dst <;> simpa [Act.put] using hsz
theorem b6M (hlt : ∀ d, o.dst = some d → d < n) (hsz : a.tmps.size = n) (hdef : a.defers = []) (hR : Rel P w0 L0 row w L O σ (B4 a)) {f : Operand} {args : Array Operand} {ts : Array TypeId} (ho : o.op = .call { callee := .value f, args, argTypes := ts }) {g : FuncId} {first : List D} (hf : A0 σ f = .d (.bnd g first))
   {xa : List AV} (ha : L3 σ args.toList = some xa) (ks : List Nat) (hks : ∀ k ∈ ks, isH (σ k) = true) (hnd : ks.Nodup) (b : Nat) {Post : AV → List AV → Prop} (hfn : F5 P g (first.map .d ++ xa) (ks.map σ) Post)
   (h : ∀ r hs', Post r hs' → K (C6 (b2K (B9 σ ks) o.dst r) ks b hs')) :
   o.wp P a w (B6 P w0 L0 row n K) Q := by
 obtain ⟨vs, hvs, hfv⟩ := b8d (P := P) (E6 hR hf); have hexec : (execOp a.eval o).run P w = .ok (.enter g (vs.toArray ++ args.map a.eval)) w := by
   simp only [execOp, ho, resolve, hfv, Deferred.ofValue, Sem.run_bind, Sem.run_pure, Result.andThen_ok, invoke, Array.append_empty, hfn.1 _ w]
 have hvals : (vs.toArray ++ args.map a.eval) = (vs ++ args.toList.map a.eval).toArray := by
   apply Array.ext'; simp
 rw [hvals] at hexec; exact b2n hlt hsz hdef hR hexec (RCs.append hvs (a2y hR _ xa ha)) ks hks hnd b hfn h
theorem c4D (hlt : ∀ d, o.dst = some d → d < n) (hsz : a.tmps.size = n) (hdef : a.defers = []) (hR : Rel P w0 L0 row w L O σ (B4 a)) {f : Operand} {args : Array Operand} {ts : Array TypeId} (ho : o.op = .call { callee := .value f, args, argTypes := ts }) {g : FuncId} {caps : List D} (hf : A0 σ f = .d (.clo g caps)) (hc : ∀ c ∈ caps, c.isAgg = false)
   {xa : List AV} (ha : L3 σ args.toList = some xa) (ks : List Nat) (hks : ∀ k ∈ ks, isH (σ k) = true) (hnd : ks.Nodup) (b : Nat) {Post : AV → List AV → Prop} (hfn : F5 P g (xa ++ caps.map .d) (ks.map σ) Post)
   (h : ∀ r hs', Post r hs' → K (C6 (b2K (B9 σ ks) o.dst r) ks b hs')) :
   o.wp P a w (B6 P w0 L0 row n K) Q := by
 obtain ⟨css, hcs, hfv⟩ := a1m (E6 hR hf); have hexec : (execOp a.eval o).run P w = .ok (.enter g (args.map a.eval ++ css.flatten.toArray)) w := by
   simp only [execOp, ho, resolve, hfv, Deferred.ofValue, Sem.run_bind, Sem.run_pure, Result.andThen_ok, invoke, Array.empty_append, hfn.1 _ w]
 have hvals : (args.map a.eval ++ css.flatten.toArray) = (args.toList.map a.eval ++ css.flatten).toArray := by
   apply Array.ext'; simp
 rw [hvals] at hexec; exact b2n hlt hsz hdef hR hexec (RCs.append (a2y hR _ xa ha) (a0M hcs hc none)) ks hks hnd b hfn h
theorem b8g : ∀ {ks vs : List D} {kss vss : List (List Value)} {es : List MapEntry}, A6 w L ks kss → A6 w L vs vss → kss = es.map (fun e => e.key.cells.toList) → vss = es.map (fun e => e.val.cells.toList) →
   ks.map D.isAgg = es.map (fun e => I4 e.key) → vs.map D.isAgg = es.map (fun e => I4 e.val) → I6 w L (ks.zip vs) es
 | [], vs, kss, vss, es, h1, _, h3, _, _, _ => by
   simp only [A6] at h1; subst h1; cases es with
   | nil => simp [I6]
   | cons e es => simp at h3
 | k :: ks, vs, kss, vss, es, h1, h2, h3, h4, h5, h6 => by
   cases es with
   | nil => simp at h5
   | cons e es =>
     cases vs with
     | nil => simp at h6
     | cons v vs =>
       simp only [A6] at h1 h2; obtain ⟨c, cs, rfl, g1, g2⟩ := h1; obtain ⟨c', cs', rfl, g3, g4⟩ := h2; simp only [map_cons, List.cons.injEq] at h3 h4 h5 h6; refine ⟨e, es, rfl, ⟨by rw [← h3.1]; exact g1, h5.1.symm⟩, ⟨by rw [← h4.1]; exact g3, h6.1.symm⟩, b8g g2 g4 h3.2 h4.2 h5.2 h6.2⟩
theorem a2A {u : Value} {ks vs : List D} {bs : List Nat} {clk : Nat} (h : RepV w L (.map u ks vs bs clk) v) : ∃ g es, v = .map (some g) ∧ u = .map (some g) ∧ w.heap[g]? = some (.map es clk) ∧ L g 0 ∧ I6 w L (ks.zip vs) es.toList ∧ bs = es.toList.map (·.born) ∧ ks.length = es.size ∧ vs.length = es.size ∧
   ks.Nodup ∧ bs.Nodup ∧ ∀ b ∈ bs, b < clk := by
 have h1 := h.cell rfl; simp only [Rep] at h1; obtain ⟨g, es, kss, vss, e1, e2, e3, e4, e5, e6, e7, e8, e9, e10, e11, e12, e13, e14⟩ := h1; refine ⟨g, es, by rw [← e2]; simpa using e1, e2, e3, e4, b8g e5 e6 e7 e8 e9 e10, e11, ?_, ?_, e12, e13, e14⟩
 · have := congrArg length e9; simpa using this
 · have := congrArg length e10; simpa using this
theorem a6u {α β : Type} : ∀ {xs : List α} {ys : List β}, xs.length = ys.length → (xs.zip ys).map (·.1) = xs
 | [], _, _ => rfl
 | x :: xs, y :: ys, h => by simp only [zip_cons_cons, map_cons, a6u (xs := xs) (ys := ys) (by simpa using h)]
 | _ :: _, [], h => by simp at h
section
variable (hd : o.dst = some d) (hlt : d < n) (hsz : a.tmps.size = n) (hdef : a.defers = []) (hR : Rel P w0 L0 row w L O σ (B4 a))
include hd hlt hsz hdef hR
theorem b4a {t kt vt : TypeId} {x i : Operand} {c : Bool} (ho : o.op = .lookup t x i c) (ht : P.underlying t = some (.map kt vt)) {u : Value} {ks vs : List D} {bs : List Nat} {clk : Nat} (hx : A0 σ x = .d (.map u ks vs bs clk)) (hf : ∀ k ∈ ks, D8 P kt k = true)
   {k z : D} (hi : asD (A0 σ i) = some k) (hk : D8 P kt k = true) (hz : D4 P vt = some z) (h : K (put σ d (a0y c z (M8 (ks.zip vs) k)))) : o.wp P a w (B6 P w0 L0 row n K) Q := by
 obtain ⟨g, es, hu, _, h3, h4, h6, h7, h8, h9, h10, h11, h12⟩ := a2A (E6 hR hx); have hrk := I7 hR hi; have hk1 : (ks.zip vs).map (·.1) = ks := a6u (by rw [h8, h9]); have h8' : ∀ p ∈ ks.zip vs, D8 P kt p.1 = true := fun p hp => hf p.1 (by rw [← hk1]; exact mem_map.2 ⟨p, hp, rfl⟩)
 have hn' : ((ks.zip vs).map (·.1)).Nodup := by rw [hk1]; exact h10
 obtain ⟨zv, hzv, hzr, _⟩ := a3w hz w L; rcases h6.find h8' hk hrk with ⟨f1, f2⟩ | ⟨i', e, x', f1, f2, f3, f4, f5⟩
 · rw [a5v f2] at h; cases c with
   | true =>
     refine C8 hd hlt hsz hdef hR (x := .tup [.d z, .d (.bool false)]) (v := .tuple #[zv, .bool false]) ?_ (RepV.tup2 hzr RepV.bool) h; simp [execOp, ho, hu, Instr.lookup, run_underlying ht, MapKept.run_getObj_map h3, Q7 hk hrk, f1, hzv, Result.andThen]
   | false =>
     refine C8 hd hlt hsz hdef hR (x := .d z) (v := zv) ?_ hzr h; simp [execOp, ho, hu, Instr.lookup, run_underlying ht, MapKept.run_getObj_map h3, Q7 hk hrk, f1, hzv, Result.andThen]
 · rw [a7d hn' hk (mem_of_getElem? f4)] at h; cases c with
   | true =>
     refine C8 hd hlt hsz hdef hR (x := .tup [.d x', .d (.bool true)]) (v := .tuple #[e.val, .bool true]) ?_ (RepV.tup2 f5 RepV.bool) h; simp [execOp, ho, hu, Instr.lookup, run_underlying ht, MapKept.run_getObj_map h3, Q7 hk hrk, f1, Result.andThen]
   | false =>
     refine C8 hd hlt hsz hdef hR (x := .d x') (v := e.val) ?_ f5 h; simp [execOp, ho, hu, Instr.lookup, run_underlying ht, MapKept.run_getObj_map h3, Q7 hk hrk, f1, Result.andThen]
theorem c0A {t kt vt : TypeId} {x : Operand} (ho : o.op = .call { callee := .builtin .len, args := #[x], argTypes := #[t] }) (ht : P.underlying t = some (.map kt vt)) {u : Value} {ks vs : List D} {bs : List Nat} {clk : Nat} (hx : A0 σ x = .d (.map u ks vs bs clk))
   (h : K (put σ d (.d (.int .i64 ks.length)))) : o.wp P a w (B6 P w0 L0 row n K) Q := by
 obtain ⟨g, es, hu, _, h3, h4, h6, h7, h8, h9, h10, h11, h12⟩ := a2A (E6 hR hx); refine C8 hd hlt hsz hdef hR (x := .d (.int .i64 ks.length)) (v := goInt es.size) ?_ (by rw [h8]; exact RepV.int) h; simp [execOp, ho, hu, resolve, invoke, builtin, Builtin.len_, run_underlying ht, MapKept.run_getObj_map h3, Result.andThen]
theorem c4e {t kt vt : TypeId} {x : Operand} (ho : o.op = .range t x) (ht : P.underlying t = some (.map kt vt)) {u : Value} {ks vs : List D} {bs : List Nat} {clk : Nat} (hx : A0 σ x = .d (.map u ks vs bs clk))
   (h : K (put σ d (.mit u (ks.zip bs, clk) []))) : o.wp P a w (B6 P w0 L0 row n K) Q := by
 obtain ⟨g, es, hu, rfl, h3, _⟩ := a2A (E6 hR hx); have hR2 := hR.putNew (.mapIter (some g) clk #[] clk) 0 d (.mit (.map (some g)) (ks.zip bs, clk) []) (.pointer (some ⟨w.heap.size, 0, none⟩)) ⟨w.heap.size, g, rfl, rfl, rfl, heap_alloc_new w _, by simp, fun q hq => by
   rcases hq with hq | hq
   · have := hR.lok _ _ hq; omega
   · omega⟩
 refine G4 hd hlt hsz hdef ?_ hR2 h; simp [execOp, ho, hu, run_range_map w t kt vt g es clk ht h3, Result.andThen]
theorem c6w {t : Nat} (ho : o.op = .next (.tmp t) false) {u : Value} {ks vs : List D} {bs : List Nat} {clk : Nat} {seen : List D} (ht : σ t = .mit u (ks.zip bs, clk) seen) {j : Nat} (hj : σ j = .d (.map u ks vs bs clk)) (hf : ∀ k ∈ ks, G8 k k = true)
   (h1 : ∀ k v, (k, v) ∈ ks.zip vs → k ∉ seen → K (put (put σ t (.mit u (ks.zip bs, clk) (seen ++ [k]))) d (.tup [.d (.bool true), .d k, .d v]))) (h0 : (∀ p ∈ ks.zip vs, p.1 ∈ seen) → K (put σ d (.tup [.d (.bool false)]))) :
   o.wp P a w (B6 P w0 L0 row n K) Q := by
 have hjs := hR.slots j; rw [hj] at hjs; obtain ⟨g, es, f2, rfl, f3, f4, f6, rfl, f7, f8, f9, f10, f11⟩ := a2A (show RepV w L (.map u ks vs bs clk) _ from hjs); have hs := hR.slots t; rw [ht] at hs; obtain ⟨r, g', e1, e2, e3, e4, e5, e6⟩ := hs; simp only [Value.map.injEq, Option.some.injEq] at e3; subst e3; simp only at e4 e5; have hk1 : (ks.zip vs).map (·.1) = ks := a6u (by rw [f7, f8]); have hzb : ks.zip (es.toList.map (·.born)) = H3 (ks.zip vs) es.toList := by unfold H3; rw [hk1]
 have hn' : ((ks.zip vs).map (·.1)).Nodup := by rw [hk1]; exact f9
 have hf' : ∀ p ∈ ks.zip vs, G8 p.1 p.1 = true := fun p hp => hf p.1 (by rw [← hk1]; exact mem_map.2 ⟨p, hp, rfl⟩)
 rw [hzb] at e4 e5 h1 ht; have hrg := (hR.olt t r e1); have hev : a.eval (.tmp t) = .pointer (some ⟨r, 0, none⟩) := e2; rw [a3G f6.len] at e5; rcases run_next_at (P := P) w o.type r g clk clk _ es clk e4 f3 (fun e he => f11 _ (mem_map.2 ⟨e, he, rfl⟩)) (Nat.le_refl _) with ⟨hL, hrun⟩ | ⟨e, he, w1, hw1, hrun⟩
 · have hR2 := hR.putPure d (.tup [.d (.bool false)]) (.tuple #[.bool false]) (by
     simp only [RA, RC, RCs]; exact ⟨[.bool false], rfl, _, [], rfl, RepV.bool, rfl⟩)
   refine G4 hd hlt hsz hdef (v := .tuple #[.bool false]) (w' := w) (by simp [execOp, ho, hev, hrun, Result.andThen]) hR2 (h0 fun p hp => ?_); obtain ⟨i, hi⟩ := getElem?_of_mem hp; obtain ⟨en, hen, _⟩ := f6.at_ hi; have hseen := all_seen es _ hL en (mem_of_getElem? hen); rw [Array.contains_iff_mem] at hseen; simp only [mem_toArray, mem_map] at hseen; obtain ⟨k', hk', hb⟩ := hseen; obtain ⟨p', hp', rfl⟩ := mem_map.1 (e5 k' hk'); obtain ⟨i', hi'⟩ := getElem?_of_mem hp'; obtain ⟨en', hen', _⟩ := f6.at_ hi'; rw [a1C hn' hf' hi' hen'] at hb; have : i' = i := b6H f10 (x := en'.born) (by rw [getElem?_map, hen']; rfl) (by rw [getElem?_map, hen, hb]; rfl); subst this; rw [hi] at hi'; simp only [Option.some.injEq] at hi'; rw [hi']; exact hk'
 · obtain ⟨he1, he2⟩ := mem_left he; obtain ⟨i, hi⟩ := getElem?_of_mem he1; obtain ⟨p, hp, g1, g2⟩ := f6.get hi; have hbo := a1C hn' hf' hp hi; have hns : p.1 ∉ seen := fun hs => by
     have : (seen.map (U4 (H3 (ks.zip vs) es.toList))).toArray.contains e.born = true := by
       rw [Array.contains_iff_mem]; simp only [mem_toArray, mem_map]; exact ⟨p.1, hs, hbo⟩
     rw [this] at he2; cases he2
   have hRw : Rel P w0 L0 row w1 L O σ (B4 a) := by
     rcases hw1 with rfl | rfl
     · exact hR
     · exact hR.drew
   have hw1h : w1.heap = w.heap := by rcases hw1 with rfl | rfl <;> rfl
   have hset := MapKept.heap_set (w := w1) (o' := .mapIter (some g) clk ((seen.map (U4 (H3 (ks.zip vs) es.toList))).toArray.push e.born) clk) (r := r) (by rw [hw1h]; exact e4); have hS : F4 w1 L (ChangeMaps.setBlock w1 r (.mapIter (some g) clk ((seen.map (U4 (H3 (ks.zip vs) es.toList))).toArray.push e.born) clk)) L (E9 (some r)) := by
     refine ⟨fun b q hq => ⟨hq, fun v hv => ?_⟩, fun b _ hne => hset.2 b (fun e => hne (show some r = some b by rw [e])), fun _ _ _ _ => Iff.rfl⟩; have hne : b ≠ r := fun e => e6 q (e ▸ hq)
     rw [G7 (hset.2 b hne)]; exact hv
   have hR2 := hRw.putOwn (w' := ChangeMaps.setBlock w1 r (.mapIter (some g) clk ((seen.map (U4 (H3 (ks.zip vs) es.toList))).toArray.push e.born) clk)) t (.mit (.map (some g)) (H3 (ks.zip vs) es.toList, clk) (seen ++ [p.1])) (B4 a t) (O t) (E9 (some r)) hS
     (hRw.grown.then ⟨rfl, rfl, rfl, by simp [ChangeMaps.setBlock], fun k hk hne => hset.2 k (fun e => hne (show some r = some k by rw [e])), Nat.le_refl _⟩ (fun q hq => by obtain rfl : r = q := (by simpa [E9] using hq); exact hrg.2)) (by simp [ChangeMaps.setBlock])
     (fun b q hq => by simpa [ChangeMaps.setBlock] using hRw.lok b q hq) (fun q hq => by obtain rfl : r = q := (by simpa [E9] using hq); exact hrg.2) (fun i q hi hO e => hi (hR.inj i t q hO (by rw [e1]; exact e)))
     (fun q hq => ⟨by simpa [ChangeMaps.setBlock] using (hRw.olt t q hq).1, (hRw.olt t q hq).2, fun i hi e => hi (hR.inj i t q e hq)⟩)
     (by
       refine ⟨r, g, e1, e2, rfl, ?_, ?_, e6⟩
       · show (w1.heap.setIfInBounds r _)[r]? = _
         rw [hset.1]; simp [hbo]
       · intro k hk; rw [a3G f6.len]; rcases mem_append.1 hk with hk | hk
         · exact e5 k hk
         · rw [mem_singleton.1 hk]; exact mem_map.2 ⟨p, mem_of_getElem? hp, rfl⟩)
   rw [J2] at hR2; refine G4 hd hlt hsz hdef (v := .tuple #[.bool true, e.key, e.val]) ?_ (hR2.putPure d (.tup [.d (.bool true), .d p.1, .d p.2]) _ ?_) (h1 p.1 p.2 (mem_of_getElem? hp) hns)
   · simp [execOp, ho, hev, hrun, Result.andThen]
   · simp only [RA, RC, RCs]; have hx1 : Ext w L (ChangeMaps.setBlock w1 r (.mapIter (some g) clk ((seen.map (U4 (H3 (ks.zip vs) es.toList))).toArray.push e.born) clk)) L := fun b q hq => ⟨hq, fun v hv => (hS.ext b q hq).2 v (by
       rw [G7 (w := w) (by rw [hw1h])]; exact hv)⟩
     exact ⟨[.bool true, e.key, e.val], rfl, _, _, rfl, RepV.bool, _, _, rfl, g1.mono hx1, _, _, rfl, g2.mono hx1, rfl⟩
theorem c3x {t : Nat} (ho : o.op = .entry (.tmp t)) {u : Value} {ks vs : List D} {bs : List Nat} {clk : Nat} {seen : List D} (ht : σ t = .mit u (ks.zip bs, clk) seen) {j : Nat} (hj : σ j = .d (.map u ks vs bs clk)) (hf : ∀ k ∈ ks, G8 k k = true)
   {s2 : List D} {k v : D} (hs : seen = s2 ++ [k]) (hm : (k, v) ∈ ks.zip vs) (h : K (put σ d (.tup [.d k, .d v]))) : o.wp P a w (B6 P w0 L0 row n K) Q := by
 have hjs := hR.slots j; rw [hj] at hjs; obtain ⟨g, es, f2, rfl, f3, f4, f6, rfl, f7, f8, f9, f10, f11⟩ := a2A (show RepV w L (.map u ks vs bs clk) _ from hjs); have hst := hR.slots t; rw [ht] at hst; obtain ⟨r, g', e1, e2, e3, e4, e5, e6⟩ := hst; simp only [Value.map.injEq, Option.some.injEq] at e3; subst e3; subst hs; have hk1 : (ks.zip vs).map (·.1) = ks := a6u (by rw [f7, f8]); have hzb : ks.zip (es.toList.map (·.born)) = H3 (ks.zip vs) es.toList := by unfold H3; rw [hk1]
 rw [hzb] at e4; simp only at e4; have hn' : ((ks.zip vs).map (·.1)).Nodup := by rw [hk1]; exact f9
 have hf' : ∀ p ∈ ks.zip vs, G8 p.1 p.1 = true := fun p hp => hf p.1 (by rw [← hk1]; exact mem_map.2 ⟨p, hp, rfl⟩)
 obtain ⟨i, hi⟩ := getElem?_of_mem hm; obtain ⟨e, he, g1, g2⟩ := f6.at_ hi; have hbo := a1C hn' hf' hi he; simp only at hbo; have hev : a.eval (.tmp t) = .pointer (some ⟨r, 0, none⟩) := e2; have hseen : ((s2 ++ [k]).map (U4 (H3 (ks.zip vs) es.toList))).toArray = ((s2.map (U4 (H3 (ks.zip vs) es.toList))).toArray).push e.born := by
   apply Array.ext'
   simp [hbo]
 rw [hseen] at e4; have hrun := run_entry_at (P := P) w r g clk _ es clk e e4 f3 (mem_of_getElem? he) f10; refine C8 hd hlt hsz hdef hR (x := .tup [.d k, .d v]) (v := .tuple #[e.key, e.val]) ?_ (RepV.tup2 g1 g2) h; simp [execOp, ho, hev, hrun, Result.andThen]
end
def a7k (P : Program) (t : TypeId) (u : Value) (k : D) (c : Bool) (σ : St) (C : AV → Prop) : Prop :=
 (∃ j kt vt z m E, 1000000 ≤ j ∧ P.underlying t = some (.map kt vt) ∧ σ j = .hm u kt m E ∧ D8 P kt k = true ∧ D4 P vt = some z ∧ C (a0y c z (M8 m k))) ∨
   (u = .map none ∧ ∃ kt vt z, P.underlying t = some (.map kt vt) ∧ D8 P kt k = true ∧ D4 P vt = some z ∧ C (a0y c z none))
def b6e (P : Program) (t : TypeId) (u : Value) (σ : St) (C : AV → Prop) : Prop :=
 ∃ j kt vt kt' m E, 1000000 ≤ j ∧ P.underlying t = some (.map kt vt) ∧ σ j = .hm u kt' m E ∧ C (.d (.int .i64 ((m : List (D × D)).length : Nat)))
def b1B (σ : St) (d : Nat) (K : St → Prop) : Prop := ∃ (kt : TypeId) (h : Nat), σ h = .undef ∧ ∀ g, K (put (put σ h (.hm (.map (some g)) kt [] none)) d (.d (.raw (.map (some g)))))
def b9O (P : Program) (t : TypeId) (u : Value) (k z : D) (σ : St) (K : St → Prop) : Prop :=
 ∃ j kt vt m m2 E, P.underlying t = some (.map kt vt) ∧ σ j = .hm u kt m E ∧ D8 P kt k = true ∧ Perm m2 (S5 m k z) ∧ K (put σ j (.hm u kt m2 none))
def b8D (P : Program) (t : TypeId) (u : Value) (k : D) (σ : St) (K : St → Prop) : Prop :=
 ∃ j kt vt m m2 E, P.underlying t = some (.map kt vt) ∧ σ j = .hm u kt m E ∧ D8 P kt k = true ∧ Perm m2 (a6P m k) ∧ K (put σ j (.hm u kt m2 none))
def b9W (P : Program) (t : TypeId) (u : Value) (σ : St) (d : Nat) (K : St → Prop) : Prop :=
 ∃ j kt vt m E, P.underlying t = some (.map kt vt) ∧ σ j = .hm u kt m E ∧ ∀ E', K (put (put σ j (.hm u kt m (some E'))) d (.mit u E' []))
def b9t (t : Nat) (u : Value) (E : List (D × Nat) × Nat) (seen : List D) (σ : St) (d : Nat) (K : St → Prop) : Prop :=
 (∃ (j : Nat) (kt : TypeId) (m : List (D × D)), σ j = .hm u kt m (some E) ∧ (∀ k v, (k, v) ∈ m → k ∉ seen → K (put (put σ t (.mit u E (seen ++ [k]))) d (.tup [.d (.bool true), .d k, .d v]))) ∧
   ((∀ p ∈ m, p.1 ∈ seen) → K (put (put σ j (.hm u kt m none)) d (.tup [.d (.bool false)])))) ∨
 ∃ (j : Nat) (ks vs : List D) (bs : List Nat) (clk : Nat), σ j = .d (.map u ks vs bs clk) ∧ E = (ks.zip bs, clk) ∧ (∀ k ∈ ks, G8 k k = true) ∧ (∀ k v, (k, v) ∈ ks.zip vs → k ∉ seen → K (put (put σ t (.mit u E (seen ++ [k]))) d (.tup [.d (.bool true), .d k, .d v]))) ∧
   ((∀ p ∈ ks.zip vs, p.1 ∈ seen) → K (put σ d (.tup [.d (.bool false)])))
def b9d (u : Value) (E : List (D × Nat) × Nat) (seen : List D) (σ : St) (d : Nat) (K : St → Prop) : Prop :=
 (∃ (j : Nat) (kt : TypeId) (m : List (D × D)) (s2 : List D) (k v : D), σ j = .hm u kt m (some E) ∧ seen = s2 ++ [k] ∧ (k, v) ∈ m ∧ K (put σ d (.tup [.d k, .d v]))) ∨
 ∃ (j : Nat) (ks vs : List D) (bs : List Nat) (clk : Nat) (s2 : List D) (k v : D), σ j = .d (.map u ks vs bs clk) ∧ E = (ks.zip bs, clk) ∧ (∀ k ∈ ks, G8 k k = true) ∧ seen = s2 ++ [k] ∧ (k, v) ∈ ks.zip vs ∧ K (put σ d (.tup [.d k, .d v]))
def a6G (P : Program) (t : TypeId) (ks vs : List D) (k : D) (c : Bool) (C : AV → Prop) : Prop :=
 ∃ kt vt z, P.underlying t = some (.map kt vt) ∧ D8 P kt k = true ∧ (∀ k ∈ ks, D8 P kt k = true) ∧ D4 P vt = some z ∧ C (a0y c z (M8 (ks.zip vs) k))
def b5Z (P : Program) (t : TypeId) (C : Prop) : Prop := (∃ kt vt, P.underlying t = some (.map kt vt)) ∧ C
def b6w (P : Program) (g : FuncId) (args : List AV) (σ : St) (d : Option Nat) (K : St → Prop) : Prop :=
 ∃ ks b Post, (∀ k ∈ ks, isH (σ k) = true) ∧ ks.Nodup ∧ F5 P g args (ks.map σ) Post ∧ ∀ r hs', Post r hs' → K (C6 (b2K (B9 σ ks) d r) ks b hs')
end Go.Vw
namespace Go.Vw
open Go.RowKit Go.Proofs
def A8 {α : Type} (x : Option α) (f : α → Prop) : Prop :=
 match x with
 | some y => f y
 | none => False
@[simp] theorem I9 {α : Type} (y : α) (f : α → Prop) : A8 (some y) f = f y := rfl
@[simp] theorem b8v {α : Type} (f : α → Prop) : A8 none f = False := rfl
theorem A4 {α : Type} {x : Option α} {f : α → Prop} (h : A8 x f) : ∃ y, x = some y ∧ f y := by
 cases x with
 | none => exact h.elim
 | some y => exact ⟨y, rfl, h⟩
def H1 (P : Program) (t : TypeId) : Option TypeId :=
 match P.underlying t with
 | some (.slice e) => if e < 100000 then some e else none
 | _ => none
theorem R9 {P : Program} {t e : TypeId} (h : H1 P t = some e) : e < 100000 := by
 unfold H1 at h; split at h
 · split at h
   · simp only [Option.some.injEq] at h; subst h; assumption
   · cases h
 · cases h
theorem J3 {P : Program} {t e : TypeId} (h : H1 P t = some e) : P.underlying t = some (.slice e) := by
 unfold H1 at h; split at h
 · rename_i e' hu
   split at h
   · simp only [Option.some.injEq] at h; subst h; exact hu
   · cases h
 · cases h
def K5 : List D → Option Str
 | [] => some []
 | .int .u8 m :: l => (match K5 l with
   | some s => if 0 ≤ m ∧ m < 256 then some (UInt8.ofNat m.toNat :: s) else none
   | none => none)
 | _ :: _ => none
theorem b1U : ∀ {l : List D} {s : Str}, K5 l = some s → l = s.map fun c => .int .u8 c.toNat
 | [], s, h => by simp only [K5, Option.some.injEq] at h; subst h; rfl
 | .int .u8 m :: l, s, h => by
   simp only [K5] at h; split at h
   · rename_i s' hs
     split at h
     · rename_i hm
       simp only [Option.some.injEq] at h; subst h; simp only [map_cons, b1U hs]; congr 2
       have : m.toNat % 256 = m.toNat := (by omega); simp [UInt8.toNat_ofNat', this]; omega
     · cases h
   · cases h
 | .int .i8 _ :: _, _, h => by simp [K5] at h
 | .int .i16 _ :: _, _, h => by simp [K5] at h
 | .int .i32 _ :: _, _, h => by simp [K5] at h
 | .int .i64 _ :: _, _, h => by simp [K5] at h
 | .int .u16 _ :: _, _, h => by simp [K5] at h
 | .int .u32 _ :: _, _, h => by simp [K5] at h
 | .int .u64 _ :: _, _, h => by simp [K5] at h
 | .bool _ :: _, _, h => by simp [K5] at h
 | .str _ :: _, _, h => by simp [K5] at h
 | .sl _ :: _, _, h => by simp [K5] at h
 | .agg _ :: _, _, h => by simp [K5] at h
 | .ref _ :: _, _, h => by simp [K5] at h
 | .clo _ _ :: _, _, h => by simp [K5] at h
 | .bnd _ _ :: _, _, h => by simp [K5] at h
 | .nilp :: _, _, h => by simp [K5] at h
 | .raw _ :: _, _, h => by simp [K5] at h
 | .map _ _ _ _ _ :: _, _, h => by simp [K5] at h
@[simp] theorem c5t (s : Str) : K5 (D5 s) = some s := by
 induction s with
 | nil => rfl
 | cons c s ih =>
   have hc := c.toNat_lt; have e : K5 (D5 (c :: s)) = (match K5 (D5 s) with
     | some s => if (0 : Int) ≤ c.toNat ∧ (c.toNat : Int) < 256 then some (UInt8.ofNat (c.toNat : Int).toNat :: s) else none
     | none => none) := rfl
   rw [e, ih]; have h2 : (0 : Int) ≤ c.toNat ∧ (c.toNat : Int) < 256 := (by omega); simp only [h2, and_self, if_true, Int.toNat_natCast, UInt8.ofNat_toNat]
def a9z (P : Program) (g : FuncId) (args : List AV) (σ : St) (d : Nat) (b : Bool) (K : St → Prop) : Prop := ∃ r, Ctr P g args r ∧ K (put σ d (O8 b r))
def b4O (P : Program) (g : FuncId) (args : List AV) (σ : St) (d : Nat) (K : St → Prop) : Prop := ∃ y, a7D y = true ∧ Ctr P g args (.d y) ∧ K (put σ d (.d y))
def InK (P : Program) (g : FuncId) (x : AV) (rest : List AV) (σ : St) (d : Nat) (K : St → Prop) : Prop :=
 match x with
 | .bor j true e l => ∃ l', a7u P g e l rest l' ∧ K (put (put σ j (.own true e l')) d (.tup []))
 | .d (.raw u) => ∃ h e l l', σ h = .hs u e l ∧ a7u P g e l rest l' ∧ K (put (put σ h (.hs u e l')) d (.tup []))
 | _ => False
def b2i (P : Program) (g : FuncId) (x : AV) (rest : List AV) (σ : St) (d : Nat) (K : St → Prop) : Prop :=
 match x with
 | .d (.raw u) => ∃ h e l e' l', σ h = .hs u e l ∧ Ctr P g (.own true e l :: rest) (.own true e' l') ∧ ∀ A c, K (put (put σ h (.hs (.slice A l'.length c) e' l')) d (.d (.raw (.slice A l'.length c))))
 | _ => False
def a2T (P : Program) (g : FuncId) (args : List AV) (σ : St) (d : Nat) (K : St → Prop) : Prop :=
 ∃ ks b Post, (∀ k ∈ ks, isH (σ k) = true) ∧ ks.Nodup ∧ F5 P g args (ks.map σ) Post ∧ ∀ r hs', Post r hs' → K (C6 (put (B9 σ ks) d r) ks b hs')
def b4P (u : Value) (σ : St) (C : List D → Prop) : Prop := ∃ j e l, σ j = .hs u e l ∧ C l
def a1Y (v : AV) (σ : St) (C : List D → Prop) : Prop := match v with
 | .d (.raw u) => b4P u σ C
 | v => A8 (Q4 v) C
theorem c6p {v : AV} {σ : St} {C : List D → Prop} {ds : List D} (h : Q4 v = some ds) : a1Y v σ C = C ds := by
 unfold a1Y; split
 · simp [Q4] at h
 · rw [h]; rfl
def b5p (e : TypeId) (z : Nat × Nat) (ds : List D) (u : Value) (σ : St) (d : Nat) (K : St → Prop) : Prop :=
 ∃ h l, (σ h = .hs u e l ∨ (u = .slice none 0 0 ∧ l = [] ∧ σ h = .undef)) ∧ (∀ u ∈ ds, A9 u = z.1) ∧ (l.length + ds.length) * z.2 ≤ 140737488355328 ∧ l.length + ds.length ≤ 140737488355328 ∧
   ∀ A c, K (put (put σ h (.hs (.slice A (l ++ ds).length c) e (l ++ ds))) d (.d (.raw (.slice A (l ++ ds).length c))))
def b4W (e : TypeId) (st : Str) (u : Value) (σ : St) (d : Nat) (K : St → Prop) : Prop :=
 ∃ h l, (σ h = .hs u e l ∨ (u = .slice none 0 0 ∧ l = [] ∧ σ h = .undef)) ∧ l.length + length st ≤ 140737488355328 ∧
   ∀ A c, K (put (put σ h (.hs (.slice A (l ++ D5 st).length c) e (l ++ D5 st))) d (.d (.raw (.slice A (l ++ D5 st).length c))))
def b8J (σ : St) : Option (Nat × TypeId) → St
 | none => σ
 | some (k, e) => put σ k (.hs (.slice none 0 0) e [])
def c4W (P : Program) (σ : St) : Option (Nat × TypeId) → Prop
 | none => True
 | some (k, e) => σ k = .undef ∧ (P.info? (ety e)).isSome = true
def b3h (P : Program) (e : TypeId) (z : D) (σ : St) (d : Nat) (K : St → Prop) : Prop :=
 ∃ h nk, c4W P σ nk ∧ b8J σ nk h = .undef ∧ ∀ g, K (put (put (b8J σ nk) h (.hb (.pointer (some ⟨g, 0, none⟩)) e z)) d (.d (.raw (.pointer (some ⟨g, 0, none⟩)))))
def b8r (e : TypeId) (z : D) (σ : St) (d : Nat) (K : St → Prop) : Prop :=
 ∃ h, σ h = .undef ∧ ∀ g, K (put (put σ h (.hb (.pointer (some ⟨g, 0, none⟩)) e z)) d (.d (.raw (.pointer (some ⟨g, 0, none⟩)))))
theorem Rel.nilN {P : Program} {w0 w : World} {L0 L : Nat → Nat → Prop} {row : Nat → Prop} {O : Nat → Option Nat} {σ : St} {tm : Nat → Value} (h : Rel P w0 L0 row w L O σ tm) : ∀ {nk : Option (Nat × TypeId)}, c4W P σ nk → ∃ O', Rel P w0 L0 row w L O' (b8J σ nk) tm
 | none, _ => ⟨O, h⟩
 | some (k, e), hk => by
   obtain ⟨_, hi⟩ := hk; obtain ⟨i, hi⟩ := Option.isSome_iff_exists.1 hi; refine ⟨_, h.putName k (.hs (.slice none 0 0) e []) ⟨rfl, ?_⟩ (fun g hg => by simp [B7, Value.ownBlock] at hg)⟩; refine ⟨[], i.size, by rw [hi]; rfl, by simp [A6], by simp, ⟨by simp, .inl ⟨rfl, rfl⟩⟩, fun g hg => by simp [Value.ownBlock] at hg⟩
def b4S (e : TypeId) (m : Nat) (u : Value) (σ : St) (C : AV → Prop) : Prop := ∃ j e' l, 1000000 ≤ j ∧ σ j = .hs u e' l ∧ ety e' = e ∧ m < l.length ∧ C (.eadr j m [])
def b2x (P : Program) (s f : Nat) (u : Value) (σ : St) (C : AV → Prop) : Prop := ∃ j e ds, 1000000 ≤ j ∧ σ j = .hb u e (.agg ds) ∧ f < ds.length ∧ E5 P s f = some (C9 (ds.take f)) ∧ C (.adr j [f])
def b5O (e : TypeId) (i : Nat) (u : Value) (σ : St) (d : Nat) (K : St → Prop) : Prop := ∃ j e' l, σ j = .hs u e' l ∧ ety e' = e ∧ i ≤ l.length ∧ K (put (put σ j .undef) d (.own true e' (l.take i)))
def b9C (P : Program) (t : TypeId) (ds : List D) (m : Int) (C : Nat → Prop) : Prop :=
 ∃ n e sz, P.underlying t = some (.array n e) ∧ (P.info? e).map (·.size) = some sz ∧ ds.length = n ∧ (∀ y ∈ ds, A9 y = sz) ∧ 0 ≤ m ∧ m.toNat < n ∧ C m.toNat
def c7y (y : D) (σ : St) (d : Nat) (K : St → Prop) : Prop := ∃ ks y', (∀ k ∈ ks, isH (σ k) = true) ∧ ks.Nodup ∧ Fz (ks.map σ) y y' ∧ K (put (B9 σ ks) d (.d y'))
def c3L (t : Nat) (e : TypeId) (l : List D) (σ : St) (d : Nat) (K : St → Prop) : Prop :=
 ∃ h, h ≠ t ∧ σ h = .undef ∧ ∀ A c, K (put (put (put σ t (.d (.raw (.slice A l.length c)))) h (.hs (.slice A l.length c) e l)) d (.d (.raw (.slice A l.length c))))
def UnK (t : Nat) (σ : St) (d : Nat) (K : St → Prop) : Prop :=
 ∃ u h e l, h ≠ t ∧ σ t = .d (.raw u) ∧ σ h = .hs u e l ∧ K (put (put (put σ h .undef) t (.own true e l)) d (.bor t true e l))
def c7w (P : Program) (g : FuncId) (x : AV) (mid : List AV) (z : AV) (σ : St) (d : Nat) (b : Bool) (K : St → Prop) : Prop :=
 match x, z with
 | .bor j true e l, .bor j2 true e2 l2 => j ≠ j2 ∧ ∃ r, c8b P g e l mid e2 l2 r ∧ K (put (put (put σ j .undef) j2 .undef) d (O8 b r))
 | _, _ => False
section
variable (P : Program) (F : Nat → Bool)
def a4w (c : Call) (d : Nat) (K : St → Prop) (σ : St) : Prop :=
 match c.callee, c.args.toList, c.argTypes.toList with
 | .builtin .len, [x], [t] => (match P.underlying t with
   | some (.slice _) => (match A0 σ x with
     | .sub j lo => A8 (K1 (σ j)) fun q => K (put σ d (.d (.int .i64 ((q.2.length - lo : Nat) : Int))))
     | y => A8 (a4t y) fun l => K (put σ d (.d (.int .i64 l))))
   | some .string => (match A0 σ x with
     | .d (.str s) => K (put σ d (.d (.int .i64 s.length)))
     | _ => False)
   | some (.map _ _) => (match A0 σ x with
     | .d (.raw u) => b6e P t u σ fun y => K (put σ d y)
     | .d (.map _ ks _ _ _) => b5Z P t (K (put σ d (.d (.int .i64 (ks.length : Nat)))))
     | _ => False)
   | _ => False)
 | .builtin .delete, [x, i], [t, _] => (match A0 σ x with
   | .d (.raw u) => A8 (asD (A0 σ i)) fun k => b8D P t u k σ fun σ' => K (put σ' d (.tup []))
   | _ => False)
 | .builtin .append, [x, y], [t, t'] => if t' = t then A8 (H1 P t) fun e => (match A0 σ x with
   | .bor j m e' l => e' = e ∧ A8 (esz P e) fun z => a1Y (A0 σ y) σ fun ds => (∀ u ∈ ds, A9 u = z.1) ∧ (l.length + ds.length) * z.2 ≤ 140737488355328 ∧ l.length + ds.length ≤ 140737488355328 ∧
       K (put (put σ j (left m l)) d (.own m e (l ++ ds)))
   | .d (.raw u) => A8 (esz P e) fun z => A8 (Q4 (A0 σ y)) fun ds => b5p e z ds u σ d K
   | .full l => A8 (esz P e) fun z => A8 (Q4 (A0 σ y)) fun ds => (∀ u ∈ l, A9 u = z.1) ∧ (∀ u ∈ ds, A9 u = z.1) ∧ (l.length + ds.length) * z.2 ≤ 140737488355328 ∧ l.length + ds.length ≤ 140737488355328 ∧ K (put σ d (.d (.sl (l ++ ds))))
   | _ => False)
   else P.underlying t' = some .string ∧ A8 (H1 P t) fun e => esz P e = some (1, 1) ∧ (match A0 σ x, A0 σ y with
   | .bor j m e' l, .d (.str st) => e' = e ∧ l.length + length st ≤ 140737488355328 ∧ K (put (put σ j (left m l)) d (.own m e (l ++ D5 st)))
   | .d (.raw u), .d (.str st) => b4W e st u σ d K
   | _, _ => False)
 | .builtin .min, [x, y], [t, _] => (match P.underlying t, A0 σ x, A0 σ y with
   | some (.int k), .d (.int k' p), .d (.int _ q) => k' = k ∧ K (put σ d (.d (.int k (if q < p then q else p))))
   | _, _, _ => False)
 | .builtin .max, [x, y], [t, _] => (match P.underlying t, A0 σ x, A0 σ y with
   | some (.int k), .d (.int k' p), .d (.int _ q) => k' = k ∧ K (put σ d (.d (.int k (if p < q then q else p))))
   | _, _, _ => False)
 | .builtin .clear, [x], [t] => A8 (H1 P t) fun e => (match A0 σ x with
   | .sub j lo => (match σ j with
     | .own true e' l => ety e' = e ∧ A8 (D4 P e) fun z => D2 P e = some (A9 z) ∧ K (put (put σ j (.own true e' (l.take lo ++ replicate (l.length - lo) z))) d (.tup []))
     | _ => False)
   | _ => False)
 | .value f, xs, _ => (match A0 σ f with
   | .d (.clo g caps) => (caps.all fun c => !c.isAgg) = true ∧
     if F (d + 2000000) then A8 (X4 σ xs) fun xa => b4O P g (xa ++ caps.map .d) σ d K
     else if F (d + 3000000) then (match xs with
       | x :: ys => A8 (L3 σ ys) fun xa => InK P g (A0 σ x) (xa ++ caps.map .d) σ d K
       | [] => False)
     else if F (d + 4000000) then (match xs with
       | x :: ys => A8 (L3 σ ys) fun xa => b2i P g (A0 σ x) (xa ++ caps.map .d) σ d K
       | [] => False)
     else if F (d + 5000000) then A8 (L3 σ xs) fun xa => a2T P g (xa ++ caps.map .d) σ d K
     else if F (d + 10000000) then A8 (a6U σ xs) fun xa => a9z P g (xa ++ caps.map .d) σ d (F d) K
     else if F (d + 12000000) then caps = [] ∧ (match xs with
       | [x, y, z] => A8 (L3 σ [y]) fun xa => c7w P g (A0 σ x) xa (A0 σ z) σ d (F d) K
       | _ => False)
     else (N4 σ xs).length ≤ 1 ∧ A8 (Y3 σ xs) fun xa => a9z P g (xa ++ caps.map .d) (eat σ (N4 σ xs)) d (F d) K
   | .d (.bnd g first) => if F (d + 5000000) then A8 (L3 σ xs) fun xa => b6w P g (first.map .d ++ xa) σ (some d) K else N4 σ xs = [] ∧ A8 (Y3 σ xs) fun xa => a9z P g (first.map .d ++ xa) σ d (F d) K
   | _ => False)
 | _, _, _ => False
def a4A (x : Operand) (ty : TypeId) (asg : Bool) (d : Nat) (K : St → Prop) (σ : St) : Prop :=
 match x with
 | .tmp t => (match σ t with
   | .own m e l => if asg then K (put (put σ t .undef) d (.own m e l)) else if F (d + 23000000) then K (put (put σ t .undef) d (.own m e l)) else if F (d + 21000000) then m = true ∧ c3L t e l σ d K else if F (d + 6000000) then m = true ∧ K (put (put σ t (.own false e l)) d (.bor t false e l)) else K (put σ d (.bor t m e l))
   | .tup l => K (put (put σ t .undef) d (.tup l))
   | _ => if F (d + 22000000) then UnK t σ d K else K (put σ d (A0 σ x)))
 | .const (.slice none 0 0) => (match H1 P ty with
   | some e => A8 (D2 P e) fun _ => K (put σ d (.own (F d) e []))
   | none => K (put σ d (A0 σ x)))
 | _ => K (put σ d (A0 σ x))
def a1M (t : TypeId) (x i : Operand) (d : Nat) (K : St → Prop) (σ : St) : Prop := match x with
 | .global g => (match a8J P g, A0 σ i with
   | some (.agg ds), .d (.int _ m) => b9C P t ds m fun q => A8 (ds[q]?) fun y => K (put σ d (.d (.ref y)))
   | _, _ => False)
 | x => match A0 σ x with
 | .adr j p => (match A0 σ i, Q6 (σ j) with
   | .d (.int _ m), some b => (match D.get p b with
     | some (.agg ds) => b9C P t ds m fun q => K (put σ d (.adr j (p ++ [q])))
     | _ => False)
   | _, _ => False)
 | _ => A8 (H1 P t) fun e => match A0 σ i with
 | .d (.int _ m) => 0 ≤ m ∧ (match A0 σ x with
   | .bor j true e' l => ety e' = e ∧ m.toNat < l.length ∧ K (put σ d (.eadr j m.toNat []))
   | .d (.raw u) => b4S e m.toNat u σ fun y => K (put σ d y)
   | .sub j lo => A8 (K1 (σ j)) fun q => ety q.1 = e ∧ lo + m.toNat < q.2.length ∧ K (put σ d (.eadr j (lo + m.toNat) []))
   | y => (match asD y with
     | some (.sl ds) => A8 (D2 P e) fun sz => A8 (ds[m.toNat]?) fun z => A9 z = sz ∧ K (put σ d (.d (.ref z)))
     | _ => False))
 | _ => False
def a1S (s : TypeId) (x : Operand) (f : Nat) (d : Nat) (K : St → Prop) (σ : St) : Prop :=
 match A0 σ x with
 | .d (.ref (.agg ds)) => A8 (ds[f]?) fun y => E5 P s f = some (C9 (ds.take f)) ∧ K (put σ d (.d (.ref y)))
 | .d (.raw u) => b2x P s f u σ fun y => K (put σ d y)
 | .adr j p => (match Q6 (σ j) with
   | some b => (match D.get p b with
     | some (.agg ds) => f < ds.length ∧ E5 P s f = some (C9 (ds.take f)) ∧ K (put σ d (.adr j (p ++ [f])))
     | _ => False)
   | _ => False)
 | .eadr j i p => (match K1 (σ j) with
   | some (_, l) => A8 (l[i]?) fun y => (match D.get p y with
     | some (.agg ds) => f < ds.length ∧ E5 P s f = some (C9 (ds.take f)) ∧ K (put σ d (.eadr j i (p ++ [f])))
     | _ => False)
   | _ => False)
 | _ => False
def a6o (t : TypeId) (x : Operand) (lo hi : Option Operand) (d : Nat) (K : St → Prop) (σ : St) : Prop :=
 match P.underlying t with
 | some .string => (match A0 σ x with
   | .d (.str s) => A8 (bnd σ lo 0) fun i => A8 (bnd σ hi s.length) fun j => i ≤ j ∧ j ≤ s.length ∧ K (put σ d (.d (.str ((s.drop i).take (j - i)))))
   | _ => False)
 | some (.slice e) => (match A0 σ x with
   | .bor j true e' l => ety e' = e ∧ A8 (D2 P e) fun _ => (match lo, hi with
     | none, some y => A8 (bnd σ (some y) 0) fun i => i ≤ l.length ∧ K (put (put σ j .undef) d (.own true e' (l.take i)))
     | some y, none => A8 (bnd σ (some y) 0) fun i => i ≤ l.length ∧ K (put σ d (.sub j i))
     | _, _ => False)
   | z => (match asD z with
     | some (.sl ds) => A8 (D2 P e) fun sz => A8 (bnd σ lo 0) fun i => A8 (bnd σ hi ds.length) fun j => i ≤ j ∧ j ≤ ds.length ∧ (∀ y ∈ ds, A9 y = sz) ∧ K (put σ d (.d (.sl ((ds.drop i).take (j - i)))))
     | _ => False))
 | _ => False
def a4H (t : TypeId) (x hi mx : Operand) (d : Nat) (K : St → Prop) (σ : St) : Prop :=
 match P.underlying t with
 | some (.slice e) => (match A0 σ x with
   | .d (.raw u) => A8 (D2 P e) fun _ => A8 (bnd σ (some hi) 0) fun i => A8 (bnd σ (some mx) 0) fun j => i = j ∧ b5O e i u σ d K
   | z => (match asD z with
     | some (.sl ds) => A8 (D2 P e) fun _ => A8 (bnd σ (some hi) 0) fun i => A8 (bnd σ (some mx) 0) fun j => i = j ∧ i ≤ ds.length ∧ K (put σ d (.full (ds.take i)))
     | _ => False))
 | _ => False
def a3s (s t : TypeId) (x : Operand) (d : Nat) (K : St → Prop) (σ : St) : Prop :=
 match P.underlying s, P.underlying t with
 | some (.slice e), some .string => P.underlying e = some (.int .u8) ∧ A8 (Q4 (A0 σ x)) fun l => A8 (K5 l) fun st => K (put σ d (.d (.str st)))
 | some .string, some .string => (match A0 σ x with
   | .d (.str st) => K (put σ d (.d (.str st)))
   | _ => False)
 | some .string, some (.slice e) => P.underlying e = some (.int .u8) ∧ D2 P e = some 1 ∧ (match A0 σ x with
   | .d (.str st) => st.length ≤ 9223372036854775807 ∧ K (put σ d (.own (F d) (e + 100000) (D5 st)))
   | _ => False)
 | some _, some (.int k') => (match A0 σ x with
   | .d (.int _ m) => InR k' m ∧ K (put σ d (.d (.int k' m)))
   | _ => False)
 | _, _ => False
def a3x (x : Operand) (i : Nat) (d : Nat) (K : St → Prop) (σ : St) : Prop :=
 match x with
 | .tmp t => (match σ t with
   | .tup l => (match l[i]? with
     | some (.d y) => K (put σ d (.d y))
     | some (.own m e k) => K (put (put σ t (.tup (l.map a5s))) d (.own (m && F d) e k))
     | _ => False)
   | _ => False)
 | _ => False
def a9y (x : Operand) (d : Nat) (K : St → Prop) (σ : St) : Prop :=
 match x with
 | .tmp t => (match σ t with
   | .iter st pos => (pos < st.length → K (put (put σ t (.iter st (pos + (Utf8.decode ⟨st.toArray⟩ pos).2))) d (.tup [.d (.bool true), .d (.int .i64 pos), .d (.int .i32 (Utf8.decode ⟨st.toArray⟩ pos).1)]))) ∧
       (¬ pos < st.length → K (put σ d (.tup [.d (.bool false)])))
   | _ => False)
 | _ => False
def a6x (x : Operand) (d : Nat) (K : St → Prop) (σ : St) : Prop :=
 match x with
 | .tmp t => (match σ t with
   | .mit u E seen => b9t t u E seen σ d K
   | _ => False)
 | _ => False
def a4G (x : Operand) (d : Nat) (K : St → Prop) (σ : St) : Prop :=
 match x with
 | .tmp t => (match σ t with
   | .mit u E seen => b9d u E seen σ d K
   | _ => False)
 | _ => False
def b2e (op : BinOp) (t : TypeId) (x : AV) (d : Nat) (K : St → Prop) (σ : St) : Prop :=
 A8 (H1 P t) fun _ => match asD x with
   | some (.sl l) => (l ≠ [] → K (put σ d (.d (.bool (b8l op))))) ∧ (l = [] → ∀ b, K (put σ d (.d (.bool b))))
   | _ => False
def b3t (P : Program) (s f : Nat) (x : AV) (C : AV → Prop) : Prop :=
 match x with
 | .d (.agg ds) => A8 (ds[f]?) fun y => A8 (a6s P s f) fun q => tyk P q.1 = some (y.isAgg, A9 y) ∧ q.2 = C9 (ds.take f) ∧ C (.d y)
 | _ => False
def M2 (op : Op) (ty : TypeId) (d : Nat) (K : St → Prop) (σ : St) : Prop :=
 match op with
 | .move x => a4A P F x ty false d K σ
 | .assign x => a4A P F x ty true d K σ
 | .pick c x y => (match A0 σ c with
   | .d (.bool b) => (b = true → K (put σ d (A0 σ x))) ∧ (b = false → K (put σ d (A0 σ y)))
   | _ => False)
 | .load t x => A8 (X6 P σ x) fun y => tyk P t = some (y.isAgg, A9 y) ∧ (if F (d + 13000000) then c7y y σ d K else K (put σ d (.d y)))
 | .nilCheck x => A8 (a1Z σ (A0 σ x)) fun _ => K (put σ d (A0 σ x))
 | .alloc e => if F (d + 1000000) then A8 (a2Y P true e) fun z => b3h P e z σ d K else A8 (D4 P e) fun z => K (put σ d (.box z))
 | .box t x => if F (d + 1000000) then A8 (asD (A0 σ x)) fun y => b8r t y σ d K else A8 (asD (A0 σ x)) fun y => K (put σ d (.box y))
 | .makeSlice t x y => A8 (H1 P t) fun e => A8 (D4 P e) fun z => A8 (esz P e) fun s => A9 z = s.1 ∧ (match A0 σ x, A0 σ y with
   | .d (.int .i64 p), .d (.int .i64 q) => p = q ∧ 0 ≤ p ∧ p * s.2 ≤ 140737488355328 ∧ p ≤ 140737488355328 ∧ K (put σ d (.own (F d) e (replicate p.toNat z)))
   | _, _ => False)
 | .build t ps => A8 (if F (d + 1000000) then a0U P true t else T7 P t) fun zs => A8 (O7 σ ps.toList) fun ys => a0r zs ys ∧ K (put σ d (.d (.agg (a4v zs ys))))
 | .buildSlice t len ps => A8 (H1 P t) fun e => A8 (esz P e) fun z => A8 (O7 σ ps.toList) fun ys => ys.map (·.1) = List.range len ∧ (∀ y ∈ ys.map (·.2), A9 y = z.1) ∧ len * z.1 ≤ 16777216 ∧
     K (put σ d (.own (F d) e (ys.map (·.2))))
 | .fieldAddr s x f => a1S P s x f d K σ
 | .indexAddr t x i => a1M P t x i d K σ
 | .index t x i => (match P.underlying t, A0 σ x, A0 σ i with
   | some .string, .d (.str s), .d (.int _ m) => 0 ≤ m ∧ A8 (s[m.toNat]?) fun c => K (put σ d (.d (.int .u8 c.toNat)))
   | _, _, _ => False)
 | .slice t x lo hi none => a6o P t x lo hi d K σ
 | .slice t x none (some hi) (some mx) => a4H P t x hi mx d K σ
 | .binOp op t x y _ => if b0E op y = true then b2e P op t (A0 σ x) d K σ else A8 (asD (A0 σ x)) fun dx => A8 (asD (A0 σ y)) fun dy => Y1 P t op dx dy fun r => K (put σ d (.d r))
 | .unOp .not _ x => (match A0 σ x with
   | .d (.bool b) => K (put σ d (.d (.bool !b)))
   | _ => False)
 | .unOp .neg _ x => (match A0 σ x with
   | .d (.int k m) => InR k (0 - m) ∧ K (put σ d (.d (.int k (0 - m))))
   | _ => False)
 | .convert s t x => a3s P F s t x d K σ
 | .extract x i => a3x F x i d K σ
 | .makeFunc (.func g) first caps => (match first.toList with
   | [] => a4z (fun σ' ds => K (put σ' d (.d (.clo g ds)))) caps.toList σ []
   | x :: xs => caps.toList = [] ∧ b0I (fun ds => K (put σ d (.d (.bnd g ds)))) σ (x :: xs) [])
 | .call c => a4w P F c d K σ
 | .range t x => (match A0 σ x with
   | .d (.str st) => P.underlying t = some .string ∧ K (put σ d (.iter st 0))
   | .d (.raw u) => b9W P t u σ d K
   | .d (.map u ks _ bs clk) => b5Z P t (K (put σ d (.mit u (ks.zip bs, clk) [])))
   | _ => False)
 | .next x true => a9y x d K σ
 | .next x false => a6x x d K σ
 | .entry x => a4G x d K σ
 | .makeMap _ none => b1B σ d K
 | .lookup t x i c => (match A0 σ x with
   | .d (.raw u) => A8 (asD (A0 σ i)) fun k => a7k P t u k c σ fun y => K (put σ d y)
   | .d (.map _ ks vs _ _) => A8 (asD (A0 σ i)) fun k => a6G P t ks vs k c fun y => K (put σ d y)
   | _ => False)
 | .field s x f => b3t P s f (A0 σ x) fun y => K (put σ d y)
 | _ => False
def d3s (j : Nat) (σ σ' : St) (K : St → Prop) : Prop := ∃ k lo, σ k = .sub j lo ∧ k ≠ j ∧ K (put σ' k (.sub j lo))
def b9r (P : Program) (t : TypeId) (v : Value) (u : D) (σ : St) (K : St → Prop) : Prop := ∃ j e b, σ j = .hb v e b ∧ A9 u = A9 b ∧ D2 P t = some (A9 u) ∧ K (put σ j (.hb v e u))
def a4K (t : TypeId) (x y : Operand) (K : St → Prop) (σ : St) : Prop :=
 match A0 σ x with
 | .adr j p => (match σ j with
   | .box b => A8 (D.get p b) fun z => A8 (asD (A0 σ y)) fun u => A9 u = A9 z ∧ D2 P t = some (A9 u) ∧ K (put σ j (.box (D.upd p b u)))
   | .hb n e b => A8 (D.get p b) fun z => A8 (asD (A0 σ y)) fun u => A9 u = A9 z ∧ D2 P t = some (A9 u) ∧ K (put σ j (.hb n e (D.upd p b u)))
   | _ => False)
 | .eadr j i p => (match σ j with
   | .own true e l => A8 (l[i]?) fun b => A8 (D.get p b) fun z => A8 (asD (A0 σ y)) fun u => A9 u = A9 z ∧ D2 P t = some (A9 u) ∧ (if F 11000000 then d3s j σ (put σ j (.own true e (l.set i (D.upd p b u)))) K else K (put σ j (.own true e (l.set i (D.upd p b u)))))
   | .hs n e l => A8 (l[i]?) fun b => A8 (D.get p b) fun z => A8 (asD (A0 σ y)) fun u => A9 u = A9 z ∧ D2 P t = some (A9 u) ∧ K (put σ j (.hs n e (l.set i (D.upd p b u))))
   | _ => False)
 | .d (.raw v) => A8 (asD (A0 σ y)) fun u => b9r P t v u σ K
 | _ => False
def a6v (c : Call) (K : St → Prop) (σ : St) : Prop :=
 match c.callee, c.args.toList, c.argTypes.toList with
 | .builtin .clear, [x], [t] => A8 (H1 P t) fun e => (match A0 σ x with
   | .sub j lo => (match σ j with
     | .own true e' l => ety e' = e ∧ A8 (D4 P e) fun z => D2 P e = some (A9 z) ∧ K (put σ j (.own true e' (l.take lo ++ replicate (l.length - lo) z)))
     | _ => False)
   | _ => False)
 | .builtin .delete, [x, i], [t, _] => (match A0 σ x with
   | .d (.raw u) => A8 (asD (A0 σ i)) fun k => b8D P t u k σ K
   | _ => False)
 | .value f, xs, _ => (match A0 σ f with
   | .d (.clo g caps) => (caps.all fun c => !c.isAgg) = true ∧ A8 (L3 σ xs) fun xa => b6w P g (xa ++ caps.map .d) σ none K
   | .d (.bnd g first) => A8 (L3 σ xs) fun xa => b6w P g (first.map .d ++ xa) σ none K
   | _ => False)
 | _, _, _ => False
def a7p (t : TypeId) (x i y : Operand) (K : St → Prop) (σ : St) : Prop :=
 match A0 σ x with
 | .d (.raw u) => A8 (asD (A0 σ i)) fun k => A8 (asD (A0 σ y)) fun z => b9O P t u k z σ K
 | _ => False
def vop (o : Oper) (K : St → Prop) (σ : St) : Prop :=
 match o.dst with
 | some d => M2 P F o.op o.type d K σ
 | none => (match o.op with
   | .store t x y => a4K P F t x y K σ
   | .call c => a6v P c K σ
   | .mapUpdate t x i y => a7p P t x i y K σ
   | .insert t x i y => a7p P t x i y K σ
   | _ => False)
def b2E (σ : St) (d : Option Nat) : St :=
 match d with
 | some d => put σ d (.tup [])
 | none => σ
def J5 (ops : Array Oper) : List Oper → (St → Prop) → St → Prop
 | [], K, σ => K σ
 | o :: rest, K, σ => match o.guard with
   | none => vop P F o (J5 ops rest K) σ
   | some (j, want) => A8 ((ops[j]?).bind (·.dst)) fun t => (match σ t with
     | .d (.bool b) => (b = want → vop P F o (J5 ops rest K) σ) ∧ (b ≠ want → J5 ops rest K (b2E σ o.dst))
     | .tup [] => J5 ops rest K (b2E σ o.dst)
     | _ => False)
def a2q (next : St → Prop) (Q : Exit → St → Prop) : Exit → St → Prop
 | .normal, σ => next σ
 | e, σ => Q e σ
def a1d (id : Nat) (Q : Exit → St → Prop) : Exit → St → Prop
 | .exit id', σ => if id' = id then Q .normal σ else Q (.exit id') σ
 | e, σ => Q e σ
end
variable {P : Program} {F : Nat → Bool} {w0 : World} {L0 : Nat → Nat → Prop} {row : Nat → Prop} {n : Nat} {K : St → Prop} {Q : Exit → Act → World → Prop}
 {w w' : World} {L L' : Nat → Nat → Prop} {O O' : Nat → Option Nat} {σ σ' : St} {a : Act} {o : Oper} {d : Nat} {v : Value} {tm : Nat → Value}
theorem b3o (σ : St) (d : Nat) (x y : AV) : put (put σ d x) d y = put σ d y := by
 have hk : ∀ z : AV, E0 d (E0 d z) = E0 d z := by
   intro z; cases z with
   | bor j m e l => by_cases h : j = d <;> cases m <;> simp [E0, h]
   | adr j p => by_cases h : j = d <;> simp [E0, h]
   | eadr j i p => by_cases h : j = d <;> simp [E0, h]
   | sub j i => by_cases h : j = d <;> simp [E0, h]
   | _ => rfl
 funext i
 simp only [put]; by_cases h : i = d
 · simp [h]
 · simp [h, hk]
theorem Rel.demote (h : Rel P w0 L0 row w L O σ tm) {t : Nat} {e : TypeId} {l : List D} (ht : σ t = .own true e l) (b : Bool) : ∃ L', Rel P w0 L0 row w L' O (put σ t (.own b e l)) tm := by
 have h1 := h.slots t; rw [ht] at h1; have h1' : RC P w L (O t) (.own true e l) (tm t) := h1; obtain ⟨L', h2, h3, h4, h5⟩ := h1'.demote b h.lok (fun g hg => (h.olt t g hg).1); refine ⟨L', ?_⟩; have hS : F4 w L w L' (E9 (O t)) := ⟨h5, fun _ _ _ => rfl, fun c q _ hne => h4 c q (fun e => hne e.symm)⟩; have := h.putOwn t (.own b e l) (tm t) (O t) (E9 (O t)) hS h.grown (Nat.le_refl _) h3 (fun g hg => (h.olt t g hg).2) (fun i g hi hO e => hi (h.inj i t g hO e))
   (fun g hg => ⟨(h.olt t g hg).1, (h.olt t g hg).2, fun i hi e => hi (h.inj i t g e hg)⟩) h2
 rwa [a4D tm t, a4D O t] at this
theorem c5F (hR : Rel P w0 L0 row w L O σ (B4 a)) {y : Operand} {C : List D → Prop} (h : a1Y (A0 σ y) σ C) : ∃ ds, a3y w L ds (a.eval y) ∧ C ds := by
 unfold a1Y at h; split at h
 · rename_i u hu
   obtain ⟨j, e, l, hj, hC⟩ := h; have h1 := H2 hR y; rw [hu] at h1; have h2 : RepV w L (.raw u) (a.eval y) := h1; have h4 := hR.slots j; rw [hj] at h4; have hV : D9 P w L (O j) true e l u := h4; exact ⟨l, by rw [h2.raw_inv]; exact hV.sliceAt, hC⟩
 · obtain ⟨ds, hds, hC⟩ := A4 h; exact ⟨ds, a4T hR hds, hC⟩
theorem b5k {x : Operand} {ty : TypeId} {asg : Bool} (ho : o.op = if asg then .assign x else .move x) (hd : o.dst = some d) (hlt : d < n) (hsz : a.tmps.size = n) (hdef : a.defers = []) (hR : Rel P w0 L0 row w L O σ (B4 a))
   (h : a4A P F x ty asg d K σ) : o.wp P a w (B6 P w0 L0 row n K) Q := by
 have ho' : o.op = .move x ∨ o.op = .assign x := by cases asg <;> simp at ho <;> simp [ho]
 unfold a4A at h; split at h
 · rename_i t
   split at h
   · rename_i m e l ht
     cases asg with
     | true => exact a9b hd hlt hsz hdef hR (ho'.symm) ht h
     | false =>
       simp only [Bool.false_eq_true, if_false] at h; split at h
       · exact a9b hd hlt hsz hdef hR (ho'.symm) ht h
       split at h
       · obtain ⟨rfl, j, hjt, hj, h⟩ := h; have h4 := hR.slots t; rw [ht] at h4; have hV : D9 P w L (O t) true e l (B4 a t) := h4; obtain ⟨A, c, hA⟩ := hV.shape; have hR1 := hR.putPure t (.d (.raw (B4 a t))) (B4 a t) (by rw [hA]; exact RepV.raw (by simp [Value.oneCell']) rfl); rw [J2] at hR1; have hR2 := hR1.putName j (.hs (B4 a t) e l) ⟨rfl, hV.self⟩ (fun g hg => by
           have hO := (hV.blk (g := g) hg).1; refine ⟨(hR.olt t g hO).1, (hR.olt t g hO).2, fun i hi e => ?_⟩; simp only [B0] at e; split at e
           · cases e
           · rename_i hit; exact hit (hR.inj i t g e hO))
         have h' := h A c; rw [← hA] at h'; refine a1g hd hlt hsz hdef hR2 ho' ?_; have : A0 (put (put σ t (.d (.raw (B4 a t)))) j (.hs (B4 a t) e l)) (.tmp t) = .d (.raw (B4 a t)) := by
           simp only [A0, put, if_neg hjt.symm, if_true, E0, rd]
         rw [this]; exact h'
       split at h
       · obtain ⟨rfl, h⟩ := h; obtain ⟨L', hR'⟩ := hR.demote ht false; exact a1g hd hlt hsz hdef hR' ho' (by simp only [A0, put, if_true, E0, rd]; exact h)
       · exact a1g hd hlt hsz hdef hR ho' (by simp only [A0, ht, rd]; exact h)
   · rename_i l ht
     exact c0R hd hlt hsz hdef hR (ho'.symm) ht h
   · split at h
     · obtain ⟨u, j, e, l, hjt, ht, hj, h⟩ := h; have h4 := hR.slots j; rw [hj] at h4; have hV : D9 P w L (O j) true e l u := h4; have h5 := hR.slots t; rw [ht] at h5; have h6 : RepV w L (.raw u) (B4 a t) := h5; have hu := h6.raw_inv; have hR1 := hR.forget j; have hR2 := hR1.putOwn t (.own true e l) (B4 a t) (O j) noB (F4.refl w L _) hR1.grown (Nat.le_refl _) hR1.lok (fun _ h => h.elim) (fun _ _ _ _ h => h)
         (fun g hg => ⟨(hR.olt j g hg).1, (hR.olt j g hg).2, fun i hi e => by
           simp only [B0] at e; split at e
           · cases e
           · rename_i hij; exact hij (hR.inj i j g e hg)⟩) (by
           have : D9 P w L (O j) true e l (B4 a t) := by rw [hu]; exact hV
           exact this)
       rw [J2] at hR2; refine a1g hd hlt hsz hdef hR2 ho' ?_; have : A0 (put (put σ j .undef) t (.own true e l)) (.tmp t) = .bor t true e l := by
         simp only [A0, put, if_true, E0, rd]
       rw [this]; exact h
     · exact a1g hd hlt hsz hdef hR ho' h
 · split at h
   · rename_i he
     obtain ⟨sz, hz, h⟩ := A4 h; exact c9p hd hlt hsz hdef hR ho'.symm hz (R9 he) (F d) h
   · exact a1g hd hlt hsz hdef hR ho' h
 · exact a1g hd hlt hsz hdef hR ho' h
theorem Rel.kill_undef (h : Rel P w0 L0 row w L O σ tm) {j : Nat} (hj : σ j = .undef) (t : Nat) : E0 j (σ t) = σ t := by
 have h1 := h.slots t; cases hx : σ t <;> rw [hx] at h1 <;> simp only [E0]
 case bor k m e l =>
   by_cases hk : k = j
   · subst hk; have := h1.1; rw [hj] at this; cases this
   · simp [hk]
 case adr k p =>
   by_cases hk : k = j
   · subst hk; obtain ⟨_, _, _, e, _⟩ := h1; rw [hj] at e; cases e
   · simp [hk]
 case eadr k i p =>
   by_cases hk : k = j
   · subst hk; obtain ⟨_, _, _, _, _, _, _, _, e, _⟩ := h1; rw [hj] at e; cases e
   · simp [hk]
 case sub k i =>
   by_cases hk : k = j
   · subst hk; obtain ⟨_, _, _, e, _⟩ := h1; rw [hj] at e; cases e
   · simp [hk]
theorem a7Z {α : Type} {xs : Array α} {x : α} (h : xs.toList = [x]) : xs = #[x] := by apply Array.ext'; simpa using h
theorem a4e {α : Type} {xs : Array α} {x y : α} (h : xs.toList = [x, y]) : xs = #[x, y] := by apply Array.ext'; simpa using h
theorem c3s {c : Call} (ho : o.op = .call c) (hd : o.dst = some d) (hlt : d < n) (hsz : a.tmps.size = n) (hdef : a.defers = []) (hR : Rel P w0 L0 row w L O σ (B4 a)) (h : a4w P F c d K σ) : o.wp P a w (B6 P w0 L0 row n K) Q := by
 obtain ⟨callee, args, ts⟩ := c; unfold a4w at h; simp only at h; split at h
 · rename_i x t ha ht
   obtain rfl := a7Z ha; obtain rfl := a7Z ht; split at h
   · rename_i e hu
     split at h
     · rename_i j lo hx
       obtain ⟨⟨e', l⟩, hj, h⟩ := A4 h; exact c4x hd hlt hsz hdef hR ho hu hx hj h
     · obtain ⟨l, hl, h⟩ := A4 h; exact c4Z hd hlt hsz hdef hR ho hu hl h
   · rename_i hu
     split at h
     · rename_i s hs
       exact c2a hd hlt hsz hdef hR ho hu hs h
     · exact h.elim
   · split at h
     · rename_i u hx
       obtain ⟨j, kt, vt, kt', m, E, _, hu, hj, h⟩ := h; exact c0Y hd hlt hsz hdef hR ho hu hx hj h
     · rename_i hx
       obtain ⟨⟨kt, vt, hu⟩, h⟩ := h; exact c0A hd hlt hsz hdef hR ho hu hx h
     · exact h.elim
   · exact h.elim
 · rename_i x i t t' ha ht
   obtain rfl := a4e ha; obtain rfl := a4e ht; split at h
   · rename_i u hx
     obtain ⟨k, hk, j, kt, vt, m, m2, E, hu, hj, hf, hp, h⟩ := A4 h; exact c2Q hd hlt hsz hdef hR ho hu hx hj hk hf hp h
   · exact h.elim
 · rename_i x y t t' ha ht
   obtain rfl := a4e ha; obtain rfl := a4e ht; by_cases htt : t' = t
   case neg =>
     rw [if_neg htt] at h; obtain ⟨hu, h⟩ := h; obtain ⟨e, he, hz, h⟩ := A4 h; split at h
     · rename_i j m e' l st hx hy
       obtain ⟨rfl, h1, h⟩ := h; exact c1k hd hlt hsz hdef hR ho hu (J3 he) (R9 he) hz hx hy h1 h
     · rename_i u st hx hy
       obtain ⟨j, l, hj, h1, h⟩ := h; rcases hj with hj | ⟨rfl, rfl, hju⟩
       · exact a9d hd hlt hsz hdef hR ho hu (J3 he) (R9 he) hz hx hj hy h1 h
       · obtain ⟨i0, z0, f1, f2, f3, f4, f5, f6⟩ := a0g (P := P) (e := e) hz; have hnew : RH P w L (.hs (.slice none 0 0) e []) := ⟨rfl, [], 1, by rw [X7 (R9 he)]; simp [f1, f3], by simp [A6], by simp, ⟨by simp, .inl ⟨rfl, rfl⟩⟩, by simp [Value.ownBlock]⟩; have hR1 := hR.putName j _ hnew (fun g hg => by simp [B7, Value.ownBlock] at hg); have hav : ∀ z, A0 σ z ≠ .undef → A0 (put σ j (.hs (.slice none 0 0) e [])) z = A0 σ z := by
           intro z hz; cases z with
           | tmp t =>
             by_cases htj : t = j
             · subst htj; exact absurd (by simp only [A0, hju, rd]) hz
             · simp only [A0, put, if_neg htj, hR.kill_undef hju]
           | _ => rfl
         have hj1 : put σ j (.hs (.slice none 0 0) e []) j = .hs (.slice none 0 0) e [] := (by simp [put, E0]); refine a9d hd hlt hsz hdef hR1 ho hu (J3 he) (R9 he) hz (by rw [hav x (by rw [hx]; simp)]; exact hx) hj1 (by rw [hav y (by rw [hy]; simp)]; exact hy) h1 (fun A c => ?_); rw [b3o]; exact h A c
     · exact h.elim
   subst htt; rw [if_pos rfl] at h; obtain ⟨e, he, h⟩ := A4 h; split at h
   · rename_i j m e' l hx
     obtain ⟨rfl, h⟩ := h; obtain ⟨z, hz, h⟩ := A4 h; obtain ⟨ds, hds, h1, h2, h3, h⟩ := c5F hR h; exact c3P hd hlt hsz hdef hR ho (J3 he) (R9 he) (by rw [hz]) hx hds h1 h2 h3 h
   · rename_i u hx
     obtain ⟨z, hz, h⟩ := A4 h; obtain ⟨ds, hds, j, l, hj, h1, h2, h3, h⟩ := A4 h; rcases hj with hj | ⟨rfl, rfl, hju⟩
     · exact b0q hd hlt hsz hdef hR ho (J3 he) (R9 he) (by rw [hz]) hx hj hds h1 h2 h3 h
     · obtain ⟨i0, z0, f1, f2, f3, f4, f5, f6⟩ := a0g (P := P) (e := e) (sz := z.1) (by_ := z.2) (by rw [hz]); have hnew : RH P w L (.hs (.slice none 0 0) e []) := ⟨rfl, [], z.1, by rw [X7 (R9 he)]; simp [f1, f3], by simp [A6], by simp, ⟨by simp, .inl ⟨rfl, rfl⟩⟩, by simp [Value.ownBlock]⟩; have hR1 := hR.putName j _ hnew (fun g hg => by simp [B7, Value.ownBlock] at hg); have hav : ∀ z, A0 σ z ≠ .undef → A0 (put σ j (.hs (.slice none 0 0) e [])) z = A0 σ z := by
         intro z hz; cases z with
         | tmp t =>
           by_cases htj : t = j
           · subst htj; exact absurd (by simp only [A0, hju, rd]) hz
           · simp only [A0, put, if_neg htj, hR.kill_undef hju]
         | _ => rfl
       have hj1 : put σ j (.hs (.slice none 0 0) e []) j = .hs (.slice none 0 0) e [] := (by simp [put, E0]); refine b0q hd hlt hsz hdef hR1 ho (J3 he) (R9 he) (by rw [hz]) (by rw [hav x (by rw [hx]; simp)]; exact hx) hj1 (by rw [hav y (by intro e; rw [e] at hds; simp [Q4] at hds)]; exact hds) h1 h2 h3 (fun A c => ?_); rw [b3o]; exact h A c
   · rename_i l hx
     obtain ⟨z, hz, h⟩ := A4 h; obtain ⟨ds, hds, h0, h1, h2, h3, h⟩ := A4 h; exact b6k hd hlt hsz hdef hR ho (J3 he) (R9 he) (by rw [hz]) hx hds h0 h1 h2 h3 h
   · exact h.elim
 · rename_i x y t t' ha ht
   obtain rfl := a4e ha; obtain rfl := a4e ht; split at h
   · rename_i k k' p k2 q hu hx hy
     obtain ⟨rfl, h⟩ := h; exact c5g hd hlt hsz hdef hR ho hx hy h
   · exact h.elim
 · rename_i x y t t' ha ht
   obtain rfl := a4e ha; obtain rfl := a4e ht; split at h
   · rename_i k k' p k2 q hu hx hy
     obtain ⟨rfl, h⟩ := h; exact d0i hd hlt hsz hdef hR ho hx hy h
   · exact h.elim
 · rename_i x t ha ht
   obtain rfl := a7Z ha; obtain rfl := a7Z ht; obtain ⟨e, he, h⟩ := A4 h; split at h
   · rename_i j lo hx
     split at h
     · rename_i e' l hj
       obtain ⟨h1, h⟩ := h; obtain ⟨z, hz, h2, h⟩ := A4 h; exact c6r hd hlt hsz hdef hR ho (J3 he) hx hj h1 hz h2 h
     · exact h.elim
   · exact h.elim
 · rename_i f
   split at h
   · rename_i g caps hf
     obtain ⟨h1, h⟩ := h; have h1' : ∀ c ∈ caps, c.isAgg = false := fun c hc => by have := all_eq_true.1 h1 c hc; simpa using this
     split at h
     · obtain ⟨xa, hxa, y, hy, hfn, h⟩ := A4 h; exact b1N hd hlt hsz hdef hR ho hf h1' hxa hy hfn h
     · split at h
       · split at h
         · rename_i x ys hxs
           obtain ⟨xa, hxa, h⟩ := A4 h; unfold InK at h; split at h
           · rename_i j e l hx
             obtain ⟨l', hfn, h⟩ := h; have h2 := H2 hR x; rw [hx] at h2; obtain ⟨h2, h3⟩ := h2; refine b7X hd hlt hsz hdef hR ho hxs hf h1' (j := j) (e := e) (l := l) (by rw [h2]; rfl) (by rw [h2]; exact h3) hxa hfn ?_; rw [h2]; exact h
           · rename_i u hx
             obtain ⟨j, e, l, l', hj, hfn, h⟩ := h; refine b7X hd hlt hsz hdef hR ho hxs hf h1' (j := j) (e := e) (l := l) (by rw [hj]; rfl) (by rw [hj]; exact (E6 hR hx).raw_inv) hxa hfn ?_; rw [hj]; exact h
           · exact h.elim
         · exact h.elim
       · split at h
         · split at h
           · rename_i x ys hxs
             obtain ⟨xa, hxa, h⟩ := A4 h; unfold b2i at h; split at h
             · rename_i u hx
               obtain ⟨j, e, l, e', l', hj, hfn, h⟩ := h; exact c4P hd hlt hsz hdef hR ho hxs hf h1' hx hj hxa hfn h
             · exact h.elim
           · exact h.elim
         · split at h
           · obtain ⟨xa, hxa, ks, b, Post, hks, hnd, hfn, h⟩ := A4 h; exact c5v hd hlt hsz hdef hR ho hf h1' hxa ks hks hnd b hfn h
           · split at h
             · obtain ⟨xa, hxa, r, hfn, h⟩ := A4 h; exact c0E hd hlt hsz hdef hR ho hf h1' hxa hfn (F d) h
             · split at h
               · obtain ⟨rfl, h⟩ := h; split at h
                 · rename_i x y z hxs
                   obtain ⟨xa, hxa, h⟩ := A4 h; unfold c7w at h; split at h
                   · rename_i j e l j2 e2 l2 hx hz
                     obtain ⟨hjj, r, hfn, h⟩ := h; exact c5o hd hlt hsz hdef hR ho (ys := [y]) (by simpa using hxs) hf hx hz hjj hxa hfn (F d) h
                   · exact h.elim
                 · exact h.elim
               · obtain ⟨h2, h⟩ := h; obtain ⟨xa, hxa, r, hfn, h⟩ := A4 h; exact b6z hd hlt hsz hdef hR ho hf h1' hxa h2 hfn (F d) h
   · rename_i g first hf
     split at h
     · obtain ⟨xa, hxa, ks, b, Post, hks, hnd, hfn, h⟩ := A4 h; exact b6M (fun d' hd' => by rw [hd] at hd'; cases hd'; exact hlt) hsz hdef hR ho hf hxa ks hks hnd b hfn (by rw [hd]; exact h)
     · obtain ⟨h2, h⟩ := h; obtain ⟨xa, hxa, r, hfn, h⟩ := A4 h; exact c1c hd hlt hsz hdef hR ho hf hxa h2 hfn (F d) h
   · exact h.elim
 · exact h.elim
theorem c5Y (hd : o.dst = some d) (hlt : d < n) (hsz : a.tmps.size = n) (hdef : a.defers = []) (hR : Rel P w0 L0 row w L O σ (B4 a)) (h : M2 P F o.op o.type d K σ) : o.wp P a w (B6 P w0 L0 row n K) Q := by
 unfold M2 at h; split at h
 · rename_i x ho; exact b5k (asg := false) (by simpa using ho) hd hlt hsz hdef hR h
 · rename_i x ho; exact b5k (asg := true) (by simpa using ho) hd hlt hsz hdef hR h
 · rename_i c x y ho
   split at h
   · rename_i b hc; exact c0r hd hlt hsz hdef hR ho hc h.1 h.2
   · exact h.elim
 · rename_i t x ho
   obtain ⟨y, hy, h1, h2⟩ := A4 h; split at h2
   · obtain ⟨ks, y', hks, hnd, hfz, h2⟩ := h2; exact c2Y hd hlt hsz hdef hR ho hy h1 ks hks hnd hfz h2
   · exact c0C hd hlt hsz hdef hR ho hy h1 h2
 · rename_i x ho
   obtain ⟨y, hy, h⟩ := A4 h; exact b1q hd hlt hsz hdef hR ho hy h
 · rename_i e ho
   split at h
   · obtain ⟨z, hz, j, nk, hnk, hj, h⟩ := A4 h; obtain ⟨O', hR'⟩ := Rel.nilN hR hnk; exact c3H hd hlt hsz hdef hR' ho hz hj h
   · obtain ⟨z, hz, h⟩ := A4 h; exact c5z hd hlt hsz hdef hR ho hz h
 · rename_i e x ho
   split at h
   · obtain ⟨y, hy, j, hj, h⟩ := A4 h; exact c7Q hd hlt hsz hdef hR ho hy hj h
   · obtain ⟨y, hy, h⟩ := A4 h; exact c9B hd hlt hsz hdef hR ho hy h
 · rename_i t x y ho
   obtain ⟨e, he, h⟩ := A4 h; obtain ⟨z, hz, h⟩ := A4 h; obtain ⟨s, hs, hw, h⟩ := A4 h; split at h
   · rename_i p q hx hy
     obtain ⟨rfl, h0, h1, h2, h⟩ := h; exact b6U hd hlt hsz hdef hR ho (J3 he) (R9 he) (sz := s.1) (by_ := s.2) hs hz hw hx hy h0 h1 h2 (F d) h
   · exact h.elim
 · rename_i t ps ho
   obtain ⟨zs, hz, h⟩ := A4 h; obtain ⟨ys, hy, h1, h2⟩ := A4 h; split at hz
   · exact a9T (N := true) hd hlt hsz hdef hR ho hz hy h1 h2
   · exact a9T (N := false) hd hlt hsz hdef hR ho hz hy h1 h2
 · rename_i t len ps ho
   obtain ⟨e, he, h⟩ := A4 h; obtain ⟨z, hz, h⟩ := A4 h; obtain ⟨ys, hy, h1, h2, h3, h4⟩ := A4 h; exact a8a hd hlt hsz hdef hR ho (J3 he) (R9 he) (by rw [hz]) hy h1 h2 h3 (F d) h4
 · rename_i s x f ho
   unfold a1S at h; split at h
   · rename_i ds hx
     obtain ⟨y, hy, h1, h2⟩ := A4 h; exact b1u hd hlt hsz hdef hR ho hx hy h1 h2
   · rename_i u hx
     obtain ⟨j, e1, ds, _, hj, h1, h2, h3⟩ := h; exact b2v hd hlt hsz hdef hR ho hx hj h1 h2 h3
   · rename_i j p hx
     split at h
     · rename_i b hj
       split at h
       · rename_i ds hp
         exact b1z hd hlt hsz hdef hR ho hx hj hp h.1 h.2.1 h.2.2
       · exact h.elim
     · exact h.elim
   · rename_i j i p hx
     split at h
     · rename_i e l hj
       obtain ⟨y, hy, h⟩ := A4 h; split at h
       · rename_i ds hp
         exact b0d hd hlt hsz hdef hR ho hx hj hy hp h.1 h.2.1 h.2.2
       · exact h.elim
     · exact h.elim
   · exact h.elim
 · rename_i t x i ho
   unfold a1M at h; split at h
   · rename_i g
     split at h
     · rename_i ds k m hg hi
       obtain ⟨n', e, sz, hu, hz, hl, hw, h0, hm, h⟩ := h; obtain ⟨y, hy, h⟩ := A4 h; exact c4a hd hlt hsz hdef hR ho hu (by simpa [D2] using hz) hg hl hw hi h0 hm hy h
     · exact h.elim
   split at h
   · rename_i j p hx
     split at h
     · rename_i k m b hi hj
       split at h
       · rename_i ds hp
         obtain ⟨n', e, sz, hu, hz, hl, hw, h0, hm, h⟩ := h; exact b9E hd hlt hsz hdef hR ho hu (by simpa [D2] using hz) hx hj hp hl hw hi h0 hm h
       · exact h.elim
     · exact h.elim
   obtain ⟨e, he, h⟩ := A4 h; split at h
   · rename_i k m hi
     obtain ⟨h0, h⟩ := h; split at h
     · rename_i j e' l hx
       obtain ⟨rfl, h1, h2⟩ := h; exact b0p hd hlt hsz hdef hR ho (J3 he) hx rfl hi h0 h1 h2
     · rename_i u hx
       obtain ⟨j, e', l, _, hj, h1, h2, h3⟩ := h; exact b1V hd hlt hsz hdef hR ho (J3 he) hx hj h1 hi h0 h2 h3
     · rename_i j lo hx
       obtain ⟨⟨e', l⟩, hj, h1, h2, h⟩ := A4 h; exact b1Y hd hlt hsz hdef hR ho (J3 he) hx hj h1 hi h0 h2 h
     · split at h
       · rename_i ds hx
         obtain ⟨sz, hz, h⟩ := A4 h; obtain ⟨z, hzz, h1, h2⟩ := A4 h; exact b2C hd hlt hsz hdef hR ho (J3 he) hz hx hi h0 hzz h1 h2
       · exact h.elim
   · exact h.elim
 · rename_i t x i ho
   split at h
   · rename_i s k m hu hx hi
     obtain ⟨h0, h⟩ := h; obtain ⟨c, hc, h⟩ := A4 h; exact b6p hd hlt hsz hdef hR ho hu hx hi h0 hc h
   · exact h.elim
 · rename_i t x lo hi ho
   unfold a6o at h; split at h
   · rename_i hu
     split at h
     · rename_i s hx
       obtain ⟨i, hi', h⟩ := A4 h; obtain ⟨j, hj, h1, h2, h3⟩ := A4 h; exact b6d hd hlt hsz hdef hR ho hu hx hi' hj h1 h2 h3
     · exact h.elim
   · rename_i e hu
     split at h
     · rename_i j e' l hx
       obtain ⟨h1, h⟩ := h; obtain ⟨sz, hz, h⟩ := A4 h; split at h
       · obtain ⟨i, hi', h2, h⟩ := A4 h; exact c8U hd hlt hsz hdef hR ho hu hz hx h1 hi' h2 h
       · obtain ⟨i, hi', h2, h⟩ := A4 h; exact d0f hd hlt hsz hdef hR ho hu hz hx h1 hi' h2 h
       · exact h.elim
     · split at h
       · rename_i ds hx
         obtain ⟨sz, hz, h⟩ := A4 h; obtain ⟨i, hi', h⟩ := A4 h; obtain ⟨j, hj, h1, h2, h3, h4⟩ := A4 h; exact b5L hd hlt hsz hdef hR ho hu hz hx hi' hj h1 h2 h3 h4
       · exact h.elim
   · exact h.elim
 · rename_i t x hi mx ho
   unfold a4H at h; split at h
   · rename_i e hu
     split at h
     · rename_i u hx
       obtain ⟨sz, hz, h⟩ := A4 h; obtain ⟨i, hi', h⟩ := A4 h; obtain ⟨j, hj, rfl, k, e', l, hk, h1, h2, h⟩ := A4 h; exact c3F hd hlt hsz hdef hR ho hu hz hx hk h1 hi' hj h2 h
     · split at h
       · rename_i ds hx
         obtain ⟨sz, hz, h⟩ := A4 h; obtain ⟨i, hi', h⟩ := A4 h; obtain ⟨j, hj, rfl, h2, h⟩ := A4 h; exact c0K hd hlt hsz hdef hR ho hu hz hx hi' hj h2 h
       · exact h.elim
   · exact h.elim
 · rename_i op t x y t' ho
   by_cases hq : b0E op y = true
   · rw [if_pos hq] at h; obtain ⟨e, he, h⟩ := A4 h; split at h
     · rename_i l hx
       exact c7C hd hlt hsz hdef hR ho hq (J3 he) hx h.1 h.2
     · exact h.elim
   rw [if_neg hq] at h; obtain ⟨dx, hx, h⟩ := A4 h; obtain ⟨dy, hy, h⟩ := A4 h; exact c5e hd hlt hsz hdef hR ho hx hy h
 · rename_i t x ho
   split at h
   · rename_i b hx; exact c5b hd hlt hsz hdef hR ho hx h
   · exact h.elim
 · rename_i t x ho
   split at h
   · rename_i k m hx; exact d0K hd hlt hsz hdef hR ho hx h.1 h.2
   · exact h.elim
 · rename_i s t x ho
   unfold a3s at h; split at h
   · rename_i e hs ht
     obtain ⟨h1, h⟩ := h; obtain ⟨l, hl, h⟩ := A4 h; obtain ⟨st, hst, h⟩ := A4 h; exact b7p hd hlt hsz hdef hR ho hs h1 ht hl (b1U hst) h
   · rename_i hs ht
     split at h
     · rename_i st hx; exact b4B hd hlt hsz hdef hR ho hs ht hx h
     · exact h.elim
   · rename_i e hs ht
     obtain ⟨h1, h2, h⟩ := h; split at h
     · rename_i st hx; exact c0q hd hlt hsz hdef hR ho hs ht h1 h2 hx h.1 (F d) h.2
     · exact h.elim
   · rename_i u k' hs ht
     split at h
     · rename_i k m hx; exact b4s hd hlt hsz hdef hR ho (by simp [hs]) ht hx h.1 h.2
     · exact h.elim
   · exact h.elim
 · rename_i x i ho
   unfold a3x at h; split at h
   · rename_i t
     split at h
     · rename_i l ht
       split at h
       · rename_i y hy; exact b4f hd hlt hsz hdef hR ho rfl ht hy h
       · rename_i m e k hy
         have h1 : o.wp P a w (B6 P w0 L0 row n fun σ' => σ' = put (put σ t (.tup (l.map a5s))) d (.own m e k)) Q := b6J hd hlt hsz hdef hR ho ht hy rfl; have hg : ∀ (a' : Act) (w' : World), B6 P w0 L0 row n (fun σ' => σ' = put (put σ t (.tup (l.map a5s))) d (.own m e k)) a' w' → B6 P w0 L0 row n K a' w' := by
           rintro a' w' ⟨L1, O1, σ1, hR1, g1, g2, rfl⟩; cases m with
           | false => exact ⟨L1, O1, _, hR1, g1, g2, by simpa using h⟩
           | true =>
             obtain ⟨L2, hR2⟩ := hR1.demote (t := d) (e := e) (l := k) (by simp [put, E0]) (F d); rw [b3o] at hR2; exact ⟨L2, O1, _, hR2, g1, g2, by simpa using h⟩
         unfold Oper.wp at h1 ⊢; generalize (execOp a.eval o).run P w = res at h1 ⊢; unfold Oper.upon at h1 ⊢; split <;> simp only at h1 ⊢
         · exact hg _ _ h1
         · exact hg _ _ h1
         · exact hg _ _ h1
         · refine h1.mono ?_; intro e' w'' hh; cases e' with
           | returned v => exact hg _ _ hh
           | panicked ch => exact hh
           | outgrown => exact hh
         · exact h1.mono fun v w'' hh => hg _ _ hh
         · exact h1
       · exact h.elim
     · exact h.elim
   · exact h.elim
 · rename_i g first caps ho
   split at h
   · rename_i h1
     have : first = #[] := by apply Array.ext'; simpa using h1
     subst this; exact b8w hd hlt hsz hdef hR ho h
   · rename_i x xs h1
     obtain ⟨h2, h⟩ := h; have : caps = #[] := by apply Array.ext'; simpa using h2
     subst this; rw [← h1] at h; exact c1T hd hlt hsz hdef hR ho h
 · rename_i c ho; exact c3s ho hd hlt hsz hdef hR h
 · rename_i t x ho
   split at h
   · rename_i st hx; exact c6q hd hlt hsz hdef hR ho h.1 hx h.2
   · rename_i u hx
     obtain ⟨j, kt, vt, m, E, hu, hj, h⟩ := h; exact c3G hd hlt hsz hdef hR ho hu hx hj h
   · rename_i u ks vs bs clk hx
     obtain ⟨⟨kt, vt, hu⟩, h⟩ := h; exact c4e hd hlt hsz hdef hR ho hu hx h
   · exact h.elim
 · rename_i x ho
   unfold a9y at h; split at h
   · split at h
     · rename_i st pos ht
       exact c7O hd hlt hsz hdef hR ho ht h.1 h.2
     · exact h.elim
   · exact h.elim
 · rename_i x ho
   unfold a6x at h; split at h
   · split at h
     · rename_i u E seen ht
       rcases h with ⟨j, kt, m, hj, h1, h0⟩ | ⟨j, ks, vs, bs, clk, hj, rfl, hf, h1, h0⟩
       · exact c6o hd hlt hsz hdef hR ho ht hj h1 h0
       · exact c6w hd hlt hsz hdef hR ho ht hj hf h1 h0
     · exact h.elim
   · exact h.elim
 · rename_i x ho
   unfold a4G at h; split at h
   · split at h
     · rename_i u E seen ht
       rcases h with ⟨j, kt, m, s2, k, v, hj, hs, hm, h⟩ | ⟨j, ks, vs, bs, clk, s2, k, v, hj, rfl, hf, hs, hm, h⟩
       · exact c4G hd hlt hsz hdef hR ho ht hj hs hm h
       · exact c3x hd hlt hsz hdef hR ho ht hj hf hs hm h
     · exact h.elim
   · exact h.elim
 · rename_i t ho
   obtain ⟨kt, j, hj, h⟩ := h; exact c0z hd hlt hsz hdef hR ho hj h
 · rename_i t x i c ho
   split at h
   · rename_i u hx
     obtain ⟨k, hk, ⟨j, kt, vt, z, m, E, _, hu, hj, hf, hz, h⟩ | ⟨rfl, kt, vt, z, hu, hf, hz, h⟩⟩ := A4 h
     · exact b5X hd hlt hsz hdef hR ho hu hx hj hk hf hz h
     · exact b3R hd hlt hsz hdef hR ho hu hx hk hf hz h
   · rename_i u ks vs bs clk hx
     obtain ⟨k, hk, kt, vt, z, hu, hf, hfs, hz, h⟩ := A4 h; exact b4a hd hlt hsz hdef hR ho hu hx hfs hk hf hz h
   · exact h.elim
 · rename_i s x f ho
   unfold b3t at h; split at h
   · rename_i ds hx
     obtain ⟨y, hy, h⟩ := A4 h; obtain ⟨q, hq, ht, hw, h⟩ := A4 h; exact c3R hd hlt hsz hdef hR ho hx hy hq ht hw h
   · exact h.elim
 · exact h.elim
theorem a4N (hlt : ∀ d, o.dst = some d → d < n) (hsz : a.tmps.size = n) (hdef : a.defers = []) (hR : Rel P w0 L0 row w L O σ (B4 a)) (h : vop P F o K σ) : o.wp P a w (B6 P w0 L0 row n K) Q := by
 unfold vop at h; split at h
 · rename_i d hd; exact c5Y hd (hlt d hd) hsz hdef hR h
 · rename_i hd
   split at h
   · rename_i t x y ho
     unfold a4K at h; split at h
     · rename_i j p hx
       split at h
       · rename_i b hj
         obtain ⟨z, hz, h⟩ := A4 h; obtain ⟨u, hu, h1, h2, h3⟩ := A4 h; exact b2k hd hsz hdef hR ho hx (b := b) (by rw [hj]; rfl) hz hu h1 h2 (by rw [hj]; exact h3)
       · rename_i nn b hj
         obtain ⟨z, hz, h⟩ := A4 h; obtain ⟨u, hu, h1, h2, h3⟩ := A4 h; exact b2k hd hsz hdef hR ho hx (b := b) (by rw [hj]; rfl) hz hu h1 h2 (by rw [hj]; exact h3)
       · exact h.elim
     · rename_i j i p hx
       split at h
       · rename_i e l hj
         obtain ⟨b, hb, h⟩ := A4 h; obtain ⟨z, hz, h⟩ := A4 h; obtain ⟨u, hu, h1, h2, h3⟩ := A4 h; split at h3
         · obtain ⟨k, lo, hk, hkj, h3⟩ := h3; have hj' : K1 (σ j) = some (e, l) := by rw [hj]; rfl
           exact b0l hd hsz hdef hR ho hx (e := e) (l := l) hj' hb hz hu h1 h2 (fun _ _ _ hr => hR.resub hk hkj hj' (by simp) hr) (by rw [hj]; exact h3)
         · exact b2B hd hsz hdef hR ho hx (e := e) (l := l) (by rw [hj]; rfl) hb hz hu h1 h2 (by rw [hj]; exact h3)
       · rename_i nn e l hj
         obtain ⟨b, hb, h⟩ := A4 h; obtain ⟨z, hz, h⟩ := A4 h; obtain ⟨u, hu, h1, h2, h3⟩ := A4 h; exact b2B hd hsz hdef hR ho hx (e := e) (l := l) (by rw [hj]; rfl) hb hz hu h1 h2 (by rw [hj]; exact h3)
       · exact h.elim
     · rename_i v hx
       obtain ⟨u, hu, h⟩ := A4 h; obtain ⟨j, e, b, hj, h1, h2, h3⟩ := h; exact b9q hd hsz hdef hR ho hx hj hu h1 h2 h3
     · exact h.elim
   · rename_i c ho
     obtain ⟨callee, args, ts⟩ := c; unfold a6v at h; simp only at h; split at h
     · rename_i x t ha ht
       obtain rfl := a7Z ha; obtain rfl := a7Z ht; obtain ⟨e, he, h⟩ := A4 h; split at h
       · rename_i j lo hx
         split at h
         · rename_i e' l hj
           obtain ⟨h1, h⟩ := h; obtain ⟨z, hz, h2, h⟩ := A4 h; exact c4M hsz hdef hR hd ho (J3 he) hx hj h1 hz h2 h
         · exact h.elim
       · exact h.elim
     · rename_i x i t t' ha ht
       obtain rfl := a4e ha; obtain rfl := a4e ht; split at h
       · rename_i u hx
         obtain ⟨k, hk, j, kt, vt, m, m2, E, hu, hj, hf, hp, h⟩ := A4 h; exact c1N hd hsz hdef hR ho hu hx hj hk hf hp h
       · exact h.elim
     · rename_i f
       split at h
       · rename_i g caps hf
         obtain ⟨h1, h⟩ := h; have h1' : ∀ c ∈ caps, c.isAgg = false := fun c hc => by have := all_eq_true.1 h1 c hc; simpa using this
         obtain ⟨xa, hxa, ks, b, Post, hks, hnd, hfn, h⟩ := A4 h; exact c4D hlt hsz hdef hR ho hf h1' hxa ks hks hnd b hfn (by rw [hd]; exact h)
       · rename_i g first hf
         obtain ⟨xa, hxa, ks, b, Post, hks, hnd, hfn, h⟩ := A4 h; exact b6M hlt hsz hdef hR ho hf hxa ks hks hnd b hfn (by rw [hd]; exact h)
       · exact h.elim
     · exact h.elim
   · rename_i t x i y ho
     unfold a7p at h; split at h
     · rename_i u hx
       obtain ⟨k, hk, h⟩ := A4 h; obtain ⟨z, hz, j, kt, vt, m, m2, E, hu, hj, hf, hp, h⟩ := A4 h; exact b0o hd hsz hdef hR (.inl ho) hu hx hj hk hf hz hp h
     · exact h.elim
   · rename_i t x i y ho
     unfold a7p at h; split at h
     · rename_i u hx
       obtain ⟨k, hk, h⟩ := A4 h; obtain ⟨z, hz, j, kt, vt, m, m2, E, hu, hj, hf, hp, h⟩ := A4 h; exact b0o hd hsz hdef hR (.inr ho) hu hx hj hk hf hz hp h
     · exact h.elim
   · exact h.elim
end Go.Vw
namespace Go.Vw
open Go.RowKit Go.Proofs
variable {P : Program} {F : Nat → Bool} {w0 : World} {L0 : Nat → Nat → Prop} {row : Nat → Prop} {n : Nat} {K : St → Prop} {Q : Exit → Act → World → Prop}
 {w w' : World} {L L' : Nat → Nat → Prop} {O O' : Nat → Option Nat} {σ σ' : St} {a : Act} {o : Oper} {d : Nat} {v : Value} {tm : Nat → Value}
theorem a6H {ops : Array Oper} {j t : Nat} {b : Bool} (hR : Rel P w0 L0 row w L O σ (B4 a)) (hj : (ops[j]?).bind (·.dst) = some t) (ht : σ t = .d (.bool b)) : yielded ops a.tmps j = some b := by
 have h1 := hR.slots t; rw [ht] at h1; have h2 : B4 a t = .bool b := RepV.bool_inv h1; have h3 : a.tmps[t]? = some (.bool b) := by
   simp only [B4, Array.getD_eq_getD_getElem?] at h2; cases hx : a.tmps[t]? with
   | none => rw [hx] at h2; simp [undef] at h2
   | some x => rw [hx] at h2; simp only [Option.getD_some] at h2; rw [h2]
 simp only [yielded, hj, Option.bind_some, h3]
theorem a5O {ops : Array Oper} {j t : Nat} (hR : Rel P w0 L0 row w L O σ (B4 a)) (hj : (ops[j]?).bind (·.dst) = some t) (ht : σ t = .tup []) : yielded ops a.tmps j = none := by
 have h1 := hR.slots t; rw [ht] at h1; obtain ⟨vs, h2, h4⟩ := h1; obtain rfl : vs = [] := h4; simp only [B4, Array.getD_eq_getD_getElem?] at h2; cases hx : a.tmps[t]? with
 | none => simp only [yielded, hj, Option.bind_some, hx]
 | some x => rw [hx] at h2; simp only [Option.getD_some] at h2; simp only [yielded, hj, Option.bind_some, hx, h2]
theorem a3p (hR : Rel P w0 L0 row w L O σ (B4 a)) (hlt : ∀ d, o.dst = some d → d < n) (hsz : a.tmps.size = n) (hdef : a.defers = []) (h : K (b2E σ o.dst)) : B6 P w0 L0 row n K (a.put o.dst undef) w := by
 cases hd : o.dst with
 | none => rw [hd] at h; exact ⟨L, O, σ, hR, hdef, hsz, h⟩
 | some d =>
   rw [hd] at h; refine ⟨L, B0 O d none, put σ d (.tup []), ?_, by simpa [Act.put] using hdef, by simpa [Act.put] using hsz, h⟩; rw [Z0 (by rw [hsz]; exact hlt d hd)]; exact hR.putPure d (.tup []) undef ⟨[], rfl, rfl⟩
theorem a6p {ops : Array Oper} : ∀ (l : List Oper) (a : Act) (w : World), (∀ o ∈ l, ∀ d, o.dst = some d → d < n) → B6 P w0 L0 row n (J5 P F ops l K) a w → (∀ a w, B6 P w0 L0 row n K a w → Q .normal a w) → wpList P ops Q l a w
 | [], a, w, _, h, hQ => hQ a w h
 | o :: l, a, w, hdst, h, hQ => by
   refine wpList_step (fun K' hK' => ?_); have hrest : ∀ a w, B6 P w0 L0 row n (J5 P F ops l K) a w → K' a w := fun a w hg => hK' a w (a6p l a w (fun o ho => hdst o (by simp [ho])) hg hQ)
   obtain ⟨L, O, σ, hR, hdef, hsz, hv⟩ := h; have hlt := hdst o (by simp); simp only [J5] at hv; have run : vop P F o (J5 P F ops l K) σ → o.wp P a w K' Q := fun hv => by
     have h1 : o.wp P a w (B6 P w0 L0 row n (J5 P F ops l K)) Q := a4N hlt hsz hdef hR hv; unfold Oper.wp at h1 ⊢; generalize (execOp a.eval o).run P w = res at h1 ⊢; unfold Oper.upon at h1 ⊢; split <;> simp only at h1 ⊢
     · exact hrest _ _ h1
     · exact hrest _ _ h1
     · exact hrest _ _ h1
     · refine h1.mono ?_; intro e' w'' hh; cases e' with
       | returned v => exact hrest _ _ hh
       | panicked ch => exact hh
       | outgrown => exact hh
     · exact h1.mono fun v w'' hh => hrest _ _ hh
     · exact h1
   cases hg : o.guard with
   | none =>
     rw [hg] at hv; simp only [Region.wanted, hg, if_true]; exact run hv
   | some g =>
     obtain ⟨j, want⟩ := g; rw [hg] at hv; obtain ⟨t, ht, hv⟩ := A4 hv; split at hv
     · rename_i b hb
       have hy := a6H hR ht hb; simp only [Region.wanted, hg, hy]; by_cases hbw : b = want
       · subst hbw; simp only [BEq.rfl, if_true]; exact run (hv.1 rfl)
       · have : (some b == some want) = false := (by simpa using hbw); simp only [this, Bool.false_eq_true, if_false]; exact hrest _ _ (a3p hR hlt hsz hdef (hv.2 hbw))
     · rename_i hb
       have hy := a5O hR ht hb; have : (none == some want) = false := rfl; simp only [Region.wanted, hg, hy, this, Bool.false_eq_true, if_false]; exact hrest _ _ (a3p hR hlt hsz hdef hv)
     · exact hv.elim
end Go.Vw
namespace Go.Vw
open Go.RowKit Go.Proofs
def b8C (P : Program) (g : FuncId) (args : List AV) (C : AV → Prop) : Prop := ∃ y, a7D y = true ∧ Ctr P g args (.d y) ∧ C (.d y)
def b4Q (P : Program) (g : FuncId) (args : List AV) (b : Bool) (C : AV → Prop) : Prop := ∃ r, Ctr P g args r ∧ C (O8 b r)
section
variable (P : Program) (F : Nat → Bool)
def a3d (c : Call) (d : Nat) (σ : St) (C : AV → Prop) : Prop :=
 match c.callee, c.args.toList, c.argTypes.toList with
 | .builtin .len, [x], [t] => (match P.underlying t with
   | some (.slice _) => A8 (a4t (A0 σ x)) fun l => C (.d (.int .i64 l))
   | some .string => (match A0 σ x with
     | .d (.str s) => C (.d (.int .i64 s.length))
     | _ => False)
   | some (.map _ _) => (match A0 σ x with
     | .d (.raw u) => b6e P t u σ C
     | .d (.map _ ks _ _ _) => b5Z P t (C (.d (.int .i64 (ks.length : Nat))))
     | _ => False)
   | _ => False)
 | .builtin .min, [x, y], [_, _] => (match A0 σ x, A0 σ y with
   | .d (.int k p), .d (.int _ q) => C (.d (.int k (if q < p then q else p)))
   | _, _ => False)
 | .value f, xs, _ => (match A0 σ f with
   | .d (.clo g caps) => (caps.all fun c => !c.isAgg) = true ∧
     if F (d + 2000000) then A8 (X4 σ xs) fun xa => b8C P g (xa ++ caps.map .d) C
     else N4 σ xs = [] ∧ A8 (Y3 σ xs) fun xa => b4Q P g (xa ++ caps.map .d) (F d) C
   | _ => False)
 | _, _, _ => False
def T4 (t : TypeId) (x i : Operand) (σ : St) (C : AV → Prop) : Prop :=
 A8 (H1 P t) fun e => match A0 σ i with
 | .d (.int _ m) => 0 ≤ m ∧ (match A0 σ x with
   | .bor j true e' l => ety e' = e ∧ m.toNat < l.length ∧ C (.eadr j m.toNat [])
   | .d (.raw u) => b4S e m.toNat u σ C
   | .sub j lo => A8 (K1 (σ j)) fun q => ety q.1 = e ∧ lo + m.toNat < q.2.length ∧ C (.eadr j (lo + m.toNat) [])
   | y => (match asD y with
     | some (.sl ds) => A8 (D2 P e) fun sz => A8 (ds[m.toNat]?) fun z => A9 z = sz ∧ C (.d (.ref z))
     | _ => False))
 | _ => False
def T3 (s : TypeId) (x : Operand) (f : Nat) (σ : St) (C : AV → Prop) : Prop :=
 match A0 σ x with
 | .d (.ref (.agg ds)) => A8 (ds[f]?) fun y => E5 P s f = some (C9 (ds.take f)) ∧ C (.d (.ref y))
 | .d (.raw u) => b2x P s f u σ C
 | .adr j p => (match Q6 (σ j) with
   | some b => (match D.get p b with
     | some (.agg ds) => f < ds.length ∧ E5 P s f = some (C9 (ds.take f)) ∧ C (.adr j (p ++ [f]))
     | _ => False)
   | _ => False)
 | .eadr j i p => (match K1 (σ j) with
   | some (_, l) => A8 (l[i]?) fun y => (match D.get p y with
     | some (.agg ds) => f < ds.length ∧ E5 P s f = some (C9 (ds.take f)) ∧ C (.eadr j i (p ++ [f]))
     | _ => False)
   | _ => False)
 | _ => False
def a2f (t : TypeId) (x : Operand) (lo hi : Option Operand) (σ : St) (C : AV → Prop) : Prop :=
 match P.underlying t with
 | some .string => (match A0 σ x with
   | .d (.str s) => A8 (bnd σ lo 0) fun i => A8 (bnd σ hi s.length) fun j => i ≤ j ∧ j ≤ s.length ∧ C (.d (.str ((s.drop i).take (j - i))))
   | _ => False)
 | some (.slice e) => (match asD (A0 σ x) with
   | some (.sl ds) => A8 (D2 P e) fun sz => A8 (bnd σ lo 0) fun i => A8 (bnd σ hi ds.length) fun j => i ≤ j ∧ j ≤ ds.length ∧ (∀ y ∈ ds, A9 y = sz) ∧ C (.d (.sl ((ds.drop i).take (j - i))))
   | _ => False)
 | _ => False
def a0v (s t : TypeId) (x : Operand) (σ : St) (C : AV → Prop) : Prop :=
 match P.underlying s, P.underlying t with
 | some .string, some .string => (match A0 σ x with
   | .d (.str st) => C (.d (.str st))
   | _ => False)
 | some _, some (.int k') => (match A0 σ x with
   | .d (.int _ m) => InR k' m ∧ C (.d (.int k' m))
   | _ => False)
 | _, _ => False
def b2F : List AV → Bool
 | [] => true
 | .d _ :: l => b2F l
 | _ => false
theorem b8a : ∀ {l : List AV}, b2F l = true → ∀ x ∈ l, ∃ d, x = .d d
 | [], _, x, hx => by simp at hx
 | y :: l, h, x, hx => by
   cases y <;> simp only [b2F] at h <;> try cases h
   rename_i d
   rcases mem_cons.1 hx with rfl | hx
   · exact ⟨d, rfl⟩
   · exact b8a h x hx
def X9 (asg : Bool) (x : Operand) (σ : St) (C : AV → Prop) : Prop :=
 match x with
 | .tmp t => (match σ t with
   | .own m e l => asg = false ∧ C (.bor t m e l)
   | .tup l => asg = false ∧ b2F l = true ∧ C (.tup l)
   | _ => C (A0 σ x))
 | .const (.slice none 0 0) => False
 | _ => C (A0 σ x)
def Y8 (x : Operand) (i : Nat) (σ : St) (C : AV → Prop) : Prop :=
 match x with
 | .tmp t => (match σ t with
   | .tup l => (match l[i]? with
     | some (.d y) => C (.d y)
     | _ => False)
   | _ => False)
 | _ => False
def D3 (op : Op) (d : Nat) (σ : St) (C : AV → Prop) : Prop :=
 match op with
 | .move x => X9 false x σ C
 | .assign x => X9 true x σ C
 | .pick c x y => (match A0 σ c with
   | .d (.bool b) => (b = true → C (A0 σ x)) ∧ (b = false → C (A0 σ y))
   | _ => False)
 | .load t x => A8 (X6 P σ x) fun y => tyk P t = some (y.isAgg, A9 y) ∧ C (.d y)
 | .nilCheck x => A8 (a1Z σ (A0 σ x)) fun _ => C (A0 σ x)
 | .build t ps => A8 (if F (d + 1000000) then a0U P true t else T7 P t) fun zs => A8 (O7 σ ps.toList) fun ys => a0r zs ys ∧ C (.d (.agg (a4v zs ys)))
 | .buildSlice t len ps => A8 (H1 P t) fun e => A8 (esz P e) fun z => A8 (O7 σ ps.toList) fun ys => ys.map (·.1) = List.range len ∧ (∀ y ∈ ys.map (·.2), A9 y = z.1) ∧ len * z.1 ≤ 16777216 ∧
     C (.own (F d) e (ys.map (·.2)))
 | .fieldAddr s x f => T3 P s x f σ C
 | .indexAddr t x i => T4 P t x i σ C
 | .index t x i => (match P.underlying t, A0 σ x, A0 σ i with
   | some .string, .d (.str s), .d (.int _ m) => 0 ≤ m ∧ A8 (s[m.toNat]?) fun c => C (.d (.int .u8 c.toNat))
   | _, _, _ => False)
 | .slice t x lo hi none => a2f P t x lo hi σ C
 | .binOp op t x y _ => A8 (asD (A0 σ x)) fun dx => A8 (asD (A0 σ y)) fun dy => Y1 P t op dx dy fun r => C (.d r)
 | .unOp .not _ x => (match A0 σ x with
   | .d (.bool b) => C (.d (.bool !b))
   | _ => False)
 | .convert s t x => a0v P s t x σ C
 | .extract x i => Y8 x i σ C
 | .call c => a3d P F c d σ C
 | .lookup t x i c => (match A0 σ x with
   | .d (.raw u) => A8 (asD (A0 σ i)) fun k => a7k P t u k c σ C
   | .d (.map _ ks vs _ _) => A8 (asD (A0 σ i)) fun k => a6G P t ks vs k c C
   | _ => False)
 | _ => False
end
variable {P : Program} {F : Nat → Bool} {w0 : World} {L0 : Nat → Nat → Prop} {row : Nat → Prop} {n : Nat} {K : St → Prop} {Q : Exit → Act → World → Prop}
 {w w' : World} {L L' : Nat → Nat → Prop} {O O' : Nat → Option Nat} {σ σ' : St} {a : Act} {o : Oper} {d : Nat} {v : Value} {tm : Nat → Value}
theorem F7 {α : Type} {x : Option α} {f g : α → Prop} (h : A8 x f) (hfg : ∀ y, f y → g y) : A8 x g := by
 obtain ⟨y, rfl, hy⟩ := A4 h; exact hfg y hy
theorem c3D {u : Option TypeDesc} {op : BinOp} {x y : D} {C C' : D → Prop} (h : G3 u op x y C) (hc : ∀ r, C r → C' r) : G3 u op x y C' := by
 unfold G3 at h ⊢; split at h
 · cases op <;> simp only at h ⊢ <;> first
     | exact (h : False).elim
     | exact ⟨h.1, hc _ h.2⟩
     | exact ⟨h.1, h.2.1, hc _ h.2.2⟩
     | exact ⟨h.1, h.2.1, h.2.2.1, hc _ h.2.2.2⟩
     | exact ⟨h.1, h.2.1, h.2.2.1, h.2.2.2.1, hc _ h.2.2.2.2⟩
     | exact ⟨h.1, h.2.1, h.2.2.1, h.2.2.2.1, h.2.2.2.2.1, hc _ h.2.2.2.2.2⟩
 · obtain ⟨h1, h⟩ := h; refine ⟨h1, ?_⟩; cases op <;> simp only at h ⊢ <;> first | exact hc _ h | exact (h : False).elim
 · obtain ⟨h1, h⟩ := h; refine ⟨h1, ?_⟩; cases op <;> simp only at h ⊢ <;> first | exact hc _ h | exact (h : False).elim
 · obtain ⟨h1, h⟩ := h; refine ⟨h1, ?_⟩; cases op <;> simp only at h ⊢ <;> first | exact hc _ h | exact (h : False).elim
 · obtain ⟨h1, h⟩ := h; refine ⟨h1, ?_⟩; cases op <;> simp only at h ⊢ <;> first | exact hc _ h | exact (h : False).elim
 · obtain ⟨h1, h⟩ := h; refine ⟨h1, ?_⟩; cases op <;> simp only at h ⊢ <;> first | exact hc _ h | exact (h : False).elim
 · cases op <;> simp only at h ⊢ <;> first
     | exact hc _ h
     | exact ⟨h.1, hc _ h.2⟩
 · obtain ⟨h1, h⟩ := h; refine ⟨h1, ?_⟩; cases op <;> simp only at h ⊢ <;> exact hc _ h
 · exact h.elim
theorem c3A {u : Option TypeDesc} {op : BinOp} {x y : D} {C : D → Prop} (h : G3 u op x y C) : ∃ r, G3 u op x y (fun q => q = r) ∧ C r := by
 unfold G3 at h ⊢; split at h
 · cases op <;> simp only at h ⊢ <;> first
     | exact (h : False).elim
     | exact ⟨_, ⟨h.1, rfl⟩, h.2⟩
     | exact ⟨_, ⟨h.1, h.2.1, rfl⟩, h.2.2⟩
     | exact ⟨_, ⟨h.1, h.2.1, h.2.2.1, rfl⟩, h.2.2.2⟩
     | exact ⟨_, ⟨h.1, h.2.1, h.2.2.1, h.2.2.2.1, rfl⟩, h.2.2.2.2⟩
     | exact ⟨_, ⟨h.1, h.2.1, h.2.2.1, h.2.2.2.1, h.2.2.2.2.1, rfl⟩, h.2.2.2.2.2⟩
 · obtain ⟨h1, h⟩ := h; cases op <;> simp only at h ⊢ <;> first | exact ⟨_, ⟨h1, rfl⟩, h⟩ | exact (h : False).elim
 · obtain ⟨h1, h⟩ := h; cases op <;> simp only at h ⊢ <;> first | exact ⟨_, ⟨h1, rfl⟩, h⟩ | exact (h : False).elim
 · obtain ⟨h1, h⟩ := h; cases op <;> simp only at h ⊢ <;> first | exact ⟨_, ⟨h1, rfl⟩, h⟩ | exact (h : False).elim
 · obtain ⟨h1, h⟩ := h; cases op <;> simp only at h ⊢ <;> first | exact ⟨_, ⟨h1, rfl⟩, h⟩ | exact (h : False).elim
 · obtain ⟨h1, h⟩ := h; cases op <;> simp only at h ⊢ <;> first | exact ⟨_, ⟨h1, rfl⟩, h⟩ | exact (h : False).elim
 · cases op <;> simp only at h ⊢ <;> first
     | exact ⟨_, rfl, h⟩
     | exact ⟨_, ⟨h.1, rfl⟩, h⟩
     | exact ⟨_, ⟨h.1, rfl⟩, h.2⟩
 · obtain ⟨h1, h⟩ := h; cases op <;> simp only at h ⊢ <;> exact ⟨_, ⟨h1, rfl⟩, h⟩
 · exact h.elim
theorem b5y {t : TypeId} {op : BinOp} {x y : D} {C C' : D → Prop} (h : Y1 P t op x y C) (hc : ∀ r, C r → C' r) : Y1 P t op x y C' := by
 unfold Y1 at h ⊢; split at h
 · refine ⟨h.1, h.2.1, ?_⟩; have h3 := h.2.2; cases op <;> simp only at h3 ⊢ <;> first | exact hc _ h3 | exact h3.elim
 · exact c3D h hc
theorem c2K {t : TypeId} {op : BinOp} {x y : D} {C : D → Prop} (h : Y1 P t op x y C) : ∃ r, Y1 P t op x y (fun q => q = r) ∧ C r := by
 unfold Y1 at h ⊢; split at h
 · obtain ⟨h1, h2, h3⟩ := h; cases op <;> simp only at h3 ⊢ <;> first | exact ⟨_, ⟨h1, h2, rfl⟩, h3⟩ | exact h3.elim
 · exact c3A h
theorem a0N {op : Op} {C : AV → Prop} (h : D3 P F op d σ C) : ∃ v, D3 P F op d σ (fun x => x = v) ∧ C v := by
 unfold D3 at h ⊢; split at h
 · unfold X9 at h ⊢; split at h
   · split at h
     · exact ⟨_, ⟨h.1, rfl⟩, h.2⟩
     · exact ⟨_, ⟨h.1, h.2.1, rfl⟩, h.2.2⟩
     · exact ⟨_, rfl, h⟩
   · exact h.elim
   · exact ⟨_, rfl, h⟩
 · unfold X9 at h ⊢; split at h
   · split at h
     · exact ⟨_, ⟨h.1, rfl⟩, h.2⟩
     · exact ⟨_, ⟨h.1, h.2.1, rfl⟩, h.2.2⟩
     · exact ⟨_, rfl, h⟩
   · exact h.elim
   · exact ⟨_, rfl, h⟩
 · split at h
   · rename_i b hb
     cases b with
     | true => exact ⟨_, ⟨fun _ => rfl, (by intro e; cases e)⟩, h.1 rfl⟩
     | false => exact ⟨_, ⟨(by intro e; cases e), fun _ => rfl⟩, h.2 rfl⟩
   · exact h.elim
 · obtain ⟨y, hy, h1, h2⟩ := A4 h; simp only [hy, I9]; exact ⟨_, ⟨h1, rfl⟩, h2⟩
 · obtain ⟨y, hy, h2⟩ := A4 h; simp only [hy, I9]; exact ⟨_, rfl, h2⟩
 · obtain ⟨y, hy, h⟩ := A4 h; obtain ⟨z, hz, h1, h2⟩ := A4 h; simp only [hy, hz, I9]; exact ⟨_, ⟨h1, rfl⟩, h2⟩
 · obtain ⟨y, hy, h⟩ := A4 h; obtain ⟨z, hz, h⟩ := A4 h; obtain ⟨u, hu, h1, h2, h3, h4⟩ := A4 h; simp only [hy, hz, hu, I9]; exact ⟨_, ⟨h1, h2, h3, rfl⟩, h4⟩
 · unfold T3 at h ⊢; split at h
   · obtain ⟨y, hy, h1, h2⟩ := A4 h; simp only [hy, I9]; exact ⟨_, ⟨h1, rfl⟩, h2⟩
   · obtain ⟨j, e1, ds, h0, h1, h2, h3, h4⟩ := h; exact ⟨_, ⟨j, e1, ds, h0, h1, h2, h3, rfl⟩, h4⟩
   · split at h
     · split at h
       · exact ⟨_, ⟨h.1, h.2.1, rfl⟩, h.2.2⟩
       · exact h.elim
     · exact h.elim
   · split at h
     · obtain ⟨y, hy, h⟩ := A4 h; simp only [hy, I9]; split at h
       · exact ⟨_, ⟨h.1, h.2.1, rfl⟩, h.2.2⟩
       · exact h.elim
     · exact h.elim
   · exact h.elim
 · unfold T4 at h ⊢; obtain ⟨e, he, h⟩ := A4 h; simp only [he, I9]; split at h
   · obtain ⟨h0, h⟩ := h; split at h
     · exact ⟨_, ⟨h0, h.1, h.2.1, rfl⟩, h.2.2⟩
     · obtain ⟨j, e', l, h1, h2, h3, h4, h5⟩ := h; exact ⟨_, ⟨h0, j, e', l, h1, h2, h3, h4, rfl⟩, h5⟩
     · obtain ⟨q, hq, h1, h2, h3⟩ := A4 h; simp only [hq, I9]; exact ⟨_, ⟨h0, h1, h2, rfl⟩, h3⟩
     · split at h
       · obtain ⟨y, hy, h⟩ := A4 h; obtain ⟨z, hz, h1, h2⟩ := A4 h; simp only [hy, hz, I9]; exact ⟨_, ⟨h0, h1, rfl⟩, h2⟩
       · exact h.elim
   · exact h.elim
 · split at h
   · obtain ⟨h0, h⟩ := h; obtain ⟨y, hy, h⟩ := A4 h; simp only [hy, I9]; exact ⟨_, ⟨h0, rfl⟩, h⟩
   · exact h.elim
 · unfold a2f at h ⊢; split at h
   · split at h
     · obtain ⟨y, hy, h⟩ := A4 h; obtain ⟨z, hz, h1, h2, h3⟩ := A4 h; simp only [hy, hz, I9]; exact ⟨_, ⟨h1, h2, rfl⟩, h3⟩
     · exact h.elim
   · split at h
     · obtain ⟨y, hy, h⟩ := A4 h; obtain ⟨z, hz, h⟩ := A4 h; obtain ⟨u, hu, h1, h2, h3, h4⟩ := A4 h; simp only [hy, hz, hu, I9]; exact ⟨_, ⟨h1, h2, h3, rfl⟩, h4⟩
     · exact h.elim
   · exact h.elim
 · obtain ⟨y, hy, h⟩ := A4 h; obtain ⟨z, hz, h⟩ := A4 h; obtain ⟨r, h1, h2⟩ := c2K h; simp only [hy, hz, I9]; exact ⟨.d r, b5y h1 (fun q hq => by rw [hq]), h2⟩
 · split at h
   · exact ⟨_, rfl, h⟩
   · exact h.elim
 · unfold a0v at h ⊢; split at h
   · split at h
     · exact ⟨_, rfl, h⟩
     · exact h.elim
   · split at h
     · exact ⟨_, ⟨h.1, rfl⟩, h.2⟩
     · exact h.elim
   · exact h.elim
 · unfold Y8 at h ⊢; split at h
   · split at h
     · split at h
       · exact ⟨_, rfl, h⟩
       · exact h.elim
     · exact h.elim
   · exact h.elim
 · unfold a3d at h ⊢; split at h
   · split at h
     · obtain ⟨y, hy, h⟩ := A4 h; simp only [hy, I9]; exact ⟨_, rfl, h⟩
     · split at h
       · exact ⟨_, rfl, h⟩
       · exact h.elim
     · split at h
       · obtain ⟨j, kt, vt, kt', m, E, g0, g1, g2, h⟩ := h; exact ⟨_, ⟨j, kt, vt, kt', m, E, g0, g1, g2, rfl⟩, h⟩
       · exact ⟨_, ⟨h.1, rfl⟩, h.2⟩
       · exact h.elim
     · exact h.elim
   · split at h
     · exact ⟨_, rfl, h⟩
     · exact h.elim
   · split at h
     · obtain ⟨h1, h⟩ := h; split at h
       · rename_i hF
         obtain ⟨y, hy, r, h2, hr, h⟩ := A4 h; refine ⟨.d r, ⟨h1, ?_⟩, h⟩; rw [if_pos hF, hy]; exact ⟨r, h2, hr, rfl⟩
       · rename_i hF
         obtain ⟨h2, h⟩ := h; obtain ⟨y, hy, r, hr, h⟩ := A4 h; refine ⟨O8 (F d) r, ⟨h1, ?_⟩, h⟩; rw [if_neg hF, hy]; exact ⟨h2, r, hr, rfl⟩
     · exact h.elim
   · exact h.elim
 · split at h
   · obtain ⟨k, hk, ⟨j, kt, vt, z, m, E, g0, g1, g2, g3, g4, h⟩ | ⟨g0, kt, vt, z, g1, g3, g4, h⟩⟩ := A4 h
     · refine ⟨_, ?_, h⟩; rw [hk]; exact .inl ⟨j, kt, vt, z, m, E, g0, g1, g2, g3, g4, rfl⟩
     · refine ⟨_, ?_, h⟩; rw [hk]; exact .inr ⟨g0, kt, vt, z, g1, g3, g4, rfl⟩
   · obtain ⟨k, hk, kt, vt, z, g1, g2, g3, g4, h⟩ := A4 h; refine ⟨_, ?_, h⟩; rw [hk]; exact ⟨kt, vt, z, g1, g2, g3, g4, rfl⟩
   · exact h.elim
 · exact h.elim
theorem a0h {op : Op} {C C' : AV → Prop} (h : D3 P F op d σ C) (hC : ∀ v, C v → C' v) : D3 P F op d σ C' := by
 unfold D3 at h ⊢; split at h
 · unfold X9 at h ⊢; split at h
   · split at h
     · exact ⟨h.1, hC _ h.2⟩
     · exact ⟨h.1, h.2.1, hC _ h.2.2⟩
     · exact hC _ h
   · exact h.elim
   · exact hC _ h
 · unfold X9 at h ⊢; split at h
   · split at h
     · exact ⟨h.1, hC _ h.2⟩
     · exact ⟨h.1, h.2.1, hC _ h.2.2⟩
     · exact hC _ h
   · exact h.elim
   · exact hC _ h
 · split at h
   · exact ⟨fun e => hC _ (h.1 e), fun e => hC _ (h.2 e)⟩
   · exact h.elim
 · exact F7 h fun y hy => ⟨hy.1, hC _ hy.2⟩
 · exact F7 h fun y hy => hC _ hy
 · exact F7 h fun y hy => F7 hy fun z hz => ⟨hz.1, hC _ hz.2⟩
 · exact F7 h fun y hy => F7 hy fun z hz => F7 hz fun u hu => ⟨hu.1, hu.2.1, hu.2.2.1, hC _ hu.2.2.2⟩
 · unfold T3 at h ⊢; split at h
   · exact F7 h fun y hy => ⟨hy.1, hC _ hy.2⟩
   · obtain ⟨j, e1, ds, h0, h1, h2, h3, h4⟩ := h; exact ⟨j, e1, ds, h0, h1, h2, h3, hC _ h4⟩
   · split at h
     · split at h
       · exact ⟨h.1, h.2.1, hC _ h.2.2⟩
       · exact h.elim
     · exact h.elim
   · split at h
     · refine F7 h fun y hy => ?_
       split at hy
       · exact ⟨hy.1, hy.2.1, hC _ hy.2.2⟩
       · exact hy.elim
     · exact h.elim
   · exact h.elim
 · unfold T4 at h ⊢; refine F7 h fun e h => ?_
   split at h
   · obtain ⟨h0, h⟩ := h; refine ⟨h0, ?_⟩; split at h
     · exact ⟨h.1, h.2.1, hC _ h.2.2⟩
     · obtain ⟨j, e', l, h1, h2, h3, h4, h5⟩ := h; exact ⟨j, e', l, h1, h2, h3, h4, hC _ h5⟩
     · exact F7 h fun q h => ⟨h.1, h.2.1, hC _ h.2.2⟩
     · split at h
       · exact F7 h fun y hy => F7 hy fun z hz => ⟨hz.1, hC _ hz.2⟩
       · exact h.elim
   · exact h.elim
 · split at h
   · exact ⟨h.1, F7 h.2 fun y hy => hC _ hy⟩
   · exact h.elim
 · unfold a2f at h ⊢; split at h
   · split at h
     · exact F7 h fun y hy => F7 hy fun z hz => ⟨hz.1, hz.2.1, hC _ hz.2.2⟩
     · exact h.elim
   · split at h
     · exact F7 h fun y hy => F7 hy fun z hz => F7 hz fun u hu => ⟨hu.1, hu.2.1, hu.2.2.1, hC _ hu.2.2.2⟩
     · exact h.elim
   · exact h.elim
 · exact F7 h fun y hy => F7 hy fun z hz => b5y hz fun r hr => hC _ hr
 · split at h
   · exact hC _ h
   · exact h.elim
 · unfold a0v at h ⊢; split at h
   · split at h
     · exact hC _ h
     · exact h.elim
   · split at h
     · exact ⟨h.1, hC _ h.2⟩
     · exact h.elim
   · exact h.elim
 · unfold Y8 at h ⊢; split at h
   · split at h
     · split at h
       · exact hC _ h
       · exact h.elim
     · exact h.elim
   · exact h.elim
 · unfold a3d at h ⊢; split at h
   · split at h
     · exact F7 h fun y hy => hC _ hy
     · split at h
       · exact hC _ h
       · exact h.elim
     · split at h
       · obtain ⟨j, kt, vt, kt', m, E, g0, g1, g2, h⟩ := h; exact ⟨j, kt, vt, kt', m, E, g0, g1, g2, hC _ h⟩
       · exact ⟨h.1, hC _ h.2⟩
       · exact h.elim
     · exact h.elim
   · split at h
     · exact hC _ h
     · exact h.elim
   · split at h
     · obtain ⟨h1, h⟩ := h; refine ⟨h1, ?_⟩; split at h
       · rename_i hF
         rw [if_pos hF]; exact F7 h fun y ⟨r, h2, hr, hc⟩ => ⟨r, h2, hr, hC _ hc⟩
       · rename_i hF
         rw [if_neg hF]; exact ⟨h.1, F7 h.2 fun y ⟨r, hr, hc⟩ => ⟨r, hr, hC _ hc⟩⟩
     · exact h.elim
   · exact h.elim
 · split at h
   · exact F7 h fun k h => h.imp (fun ⟨j, kt, vt, z, m, E, g0, g1, g2, g3, g4, h⟩ => ⟨j, kt, vt, z, m, E, g0, g1, g2, g3, g4, hC _ h⟩) (fun ⟨g0, kt, vt, z, g1, g3, g4, h⟩ => ⟨g0, kt, vt, z, g1, g3, g4, hC _ h⟩)
   · exact F7 h fun k ⟨kt, vt, z, g1, g2, g3, g4, h⟩ => ⟨kt, vt, z, g1, g2, g3, g4, hC _ h⟩
   · exact h.elim
 · exact h.elim
theorem RCs.noOg {og og' : Option Nat} : ∀ {xs : List AV} {vs : List Value}, (∀ x ∈ xs, ∃ d, x = .d d) → RCs P w L og xs vs → RCs P w L og' xs vs
 | [], _, _, h => h
 | x :: xs, vs, hx, h => by
   simp only [RCs] at h ⊢; obtain ⟨v, us, h1, h2, h3⟩ := h; obtain ⟨d, rfl⟩ := hx x (by simp); exact ⟨v, us, h1, h2, RCs.noOg (fun y hy => hx y (by simp [hy])) h3⟩
theorem c0i (hd : o.dst = some d) (hlt : d < n) (hsz : a.tmps.size = n) (hdef : a.defers = []) (hR : Rel P w0 L0 row w L O σ (B4 a)) {t : Nat} {l : List AV} (ho : o.op = .move (.tmp t)) (ht : σ t = .tup l) (hl : b2F l = true) (h : K (put σ d (.tup l))) :
   o.wp P a w (B6 P w0 L0 row n K) Q := by
 have h1 := hR.slots t; rw [ht] at h1; obtain ⟨vs, hv, hr⟩ := h1; refine C8 hd hlt hsz hdef hR (x := .tup l) (v := B4 a t) ?_ ⟨vs, hv, RCs.noOg (b8a hl) hr⟩ h; simp [execOp, ho]; rfl
theorem a3n (hd : o.dst = some d) (hlt : d < n) (hsz : a.tmps.size = n) (hdef : a.defers = []) (hR : Rel P w0 L0 row w L O σ (B4 a)) (h : D3 P F o.op d σ (fun x => K (put σ d x))) : o.wp P a w (B6 P w0 L0 row n K) Q := by
 unfold D3 at h; split at h
 · rename_i x ho
   unfold X9 at h; split at h
   · rename_i t
     split at h
     · rename_i m e l ht
       exact a1g hd hlt hsz hdef hR (.inl ho) (by simp only [A0, ht, rd]; exact h.2)
     · rename_i l ht
       exact c0i hd hlt hsz hdef hR ho ht h.2.1 h.2.2
     · exact a1g hd hlt hsz hdef hR (.inl ho) h
   · exact h.elim
   · exact a1g hd hlt hsz hdef hR (.inl ho) h
 · rename_i x ho
   unfold X9 at h; split at h
   · rename_i t
     split at h
     · exact absurd h.1 (by simp)
     · exact absurd h.1 (by simp)
     · exact a1g hd hlt hsz hdef hR (.inr ho) h
   · exact h.elim
   · exact a1g hd hlt hsz hdef hR (.inr ho) h
 · rename_i c x y ho
   split at h
   · rename_i b hc; exact c0r hd hlt hsz hdef hR ho hc h.1 h.2
   · exact h.elim
 · rename_i t x ho
   obtain ⟨y, hy, h1, h2⟩ := A4 h; exact c0C hd hlt hsz hdef hR ho hy h1 h2
 · rename_i x ho
   obtain ⟨y, hy, h⟩ := A4 h; exact b1q hd hlt hsz hdef hR ho hy h
 · rename_i t ps ho
   obtain ⟨zs, hz, h⟩ := A4 h; obtain ⟨ys, hy, h1, h2⟩ := A4 h; split at hz
   · exact a9T (N := true) hd hlt hsz hdef hR ho hz hy h1 h2
   · exact a9T (N := false) hd hlt hsz hdef hR ho hz hy h1 h2
 · rename_i t len ps ho
   obtain ⟨e, he, h⟩ := A4 h; obtain ⟨z, hz, h⟩ := A4 h; obtain ⟨ys, hy, h1, h2, h3, h4⟩ := A4 h; exact a8a hd hlt hsz hdef hR ho (J3 he) (R9 he) (by rw [hz]) hy h1 h2 h3 (F d) h4
 · rename_i s x f ho
   unfold T3 at h; split at h
   · rename_i ds hx
     obtain ⟨y, hy, h1, h2⟩ := A4 h; exact b1u hd hlt hsz hdef hR ho hx hy h1 h2
   · rename_i u hx
     obtain ⟨j, e1, ds, _, hj, h1, h2, h3⟩ := h; exact b2v hd hlt hsz hdef hR ho hx hj h1 h2 h3
   · rename_i j p hx
     split at h
     · rename_i b hj
       split at h
       · rename_i ds hp
         exact b1z hd hlt hsz hdef hR ho hx hj hp h.1 h.2.1 h.2.2
       · exact h.elim
     · exact h.elim
   · rename_i j i p hx
     split at h
     · rename_i e l hj
       obtain ⟨y, hy, h⟩ := A4 h; split at h
       · rename_i ds hp
         exact b0d hd hlt hsz hdef hR ho hx hj hy hp h.1 h.2.1 h.2.2
       · exact h.elim
     · exact h.elim
   · exact h.elim
 · rename_i t x i ho
   unfold T4 at h; obtain ⟨e, he, h⟩ := A4 h; split at h
   · rename_i k m hi
     obtain ⟨h0, h⟩ := h; split at h
     · rename_i j e' l hx
       obtain ⟨rfl, h1, h2⟩ := h; exact b0p hd hlt hsz hdef hR ho (J3 he) hx rfl hi h0 h1 h2
     · rename_i u hx
       obtain ⟨j, e', l, _, hj, h1, h2, h3⟩ := h; exact b1V hd hlt hsz hdef hR ho (J3 he) hx hj h1 hi h0 h2 h3
     · rename_i j lo hx
       obtain ⟨⟨e', l⟩, hj, h1, h2, h⟩ := A4 h; exact b1Y hd hlt hsz hdef hR ho (J3 he) hx hj h1 hi h0 h2 h
     · split at h
       · rename_i ds hx
         obtain ⟨sz, hz, h⟩ := A4 h; obtain ⟨z, hzz, h1, h2⟩ := A4 h; exact b2C hd hlt hsz hdef hR ho (J3 he) hz hx hi h0 hzz h1 h2
       · exact h.elim
   · exact h.elim
 · rename_i t x i ho
   split at h
   · rename_i s k m hu hx hi
     obtain ⟨h0, h⟩ := h; obtain ⟨c, hc, h⟩ := A4 h; exact b6p hd hlt hsz hdef hR ho hu hx hi h0 hc h
   · exact h.elim
 · rename_i t x lo hi ho
   unfold a2f at h; split at h
   · rename_i hu
     split at h
     · rename_i s hx
       obtain ⟨i, hi', h⟩ := A4 h; obtain ⟨j, hj, h1, h2, h3⟩ := A4 h; exact b6d hd hlt hsz hdef hR ho hu hx hi' hj h1 h2 h3
     · exact h.elim
   · rename_i e hu
     split at h
     · rename_i ds hx
       obtain ⟨sz, hz, h⟩ := A4 h; obtain ⟨i, hi', h⟩ := A4 h; obtain ⟨j, hj, h1, h2, h3, h4⟩ := A4 h; exact b5L hd hlt hsz hdef hR ho hu hz hx hi' hj h1 h2 h3 h4
     · exact h.elim
   · exact h.elim
 · rename_i op t x y t' ho
   obtain ⟨dx, hx, h⟩ := A4 h; obtain ⟨dy, hy, h⟩ := A4 h; exact c5e hd hlt hsz hdef hR ho hx hy h
 · rename_i t x ho
   split at h
   · rename_i b hx; exact c5b hd hlt hsz hdef hR ho hx h
   · exact h.elim
 · rename_i s t x ho
   unfold a0v at h; split at h
   · rename_i hs ht
     split at h
     · rename_i st hx; exact b4B hd hlt hsz hdef hR ho hs ht hx h
     · exact h.elim
   · rename_i u k' hs ht
     split at h
     · rename_i k m hx; exact b4s hd hlt hsz hdef hR ho (by simp [hs]) ht hx h.1 h.2
     · exact h.elim
   · exact h.elim
 · rename_i x i ho
   unfold Y8 at h; split at h
   · rename_i t
     split at h
     · rename_i l ht
       split at h
       · rename_i y hy; exact b4f hd hlt hsz hdef hR ho rfl ht hy h
       · exact h.elim
     · exact h.elim
   · exact h.elim
 · rename_i c ho
   obtain ⟨callee, args, ts⟩ := c; unfold a3d at h; simp only at h; split at h
   · rename_i x t ha ht
     obtain rfl := a7Z ha; obtain rfl := a7Z ht; split at h
     · rename_i e hu
       obtain ⟨l, hl, h⟩ := A4 h; exact c4Z hd hlt hsz hdef hR ho hu hl h
     · rename_i hu
       split at h
       · rename_i s hs
         exact c2a hd hlt hsz hdef hR ho hu hs h
       · exact h.elim
     · split at h
       · rename_i u hx
         obtain ⟨j, kt, vt, kt', m, E, _, hu, hj, h⟩ := h; exact c0Y hd hlt hsz hdef hR ho hu hx hj h
       · rename_i hx
         obtain ⟨⟨kt, vt, hu⟩, h⟩ := h; exact c0A hd hlt hsz hdef hR ho hu hx h
       · exact h.elim
     · exact h.elim
   · rename_i x y t t' ha ht
     obtain rfl := a4e ha; obtain rfl := a4e ht; split at h
     · rename_i k p k2 q hx hy
       exact c5g hd hlt hsz hdef hR ho hx hy h
     · exact h.elim
   · rename_i f
     split at h
     · rename_i g caps hf
       obtain ⟨h1, h⟩ := h; have h1' : ∀ c ∈ caps, c.isAgg = false := fun c hc => by have := all_eq_true.1 h1 c hc; simpa using this
       split at h
       · obtain ⟨xa, hxa, y, hy, hfn, h⟩ := A4 h; exact b1N hd hlt hsz hdef hR ho hf h1' hxa hy hfn h
       · obtain ⟨h2, h⟩ := h; obtain ⟨xa, hxa, r, hfn, h⟩ := A4 h; exact b6z hd hlt hsz hdef hR ho hf h1' hxa (by rw [h2]; simp) hfn (F d) (by rw [h2]; exact h)
     · exact h.elim
   · exact h.elim
 · rename_i t x i c ho
   split at h
   · rename_i u hx
     obtain ⟨k, hk, ⟨j, kt, vt, z, m, E, _, hu, hj, hf, hz, h⟩ | ⟨rfl, kt, vt, z, hu, hf, hz, h⟩⟩ := A4 h
     · exact b5X hd hlt hsz hdef hR ho hu hx hj hk hf hz h
     · exact b3R hd hlt hsz hdef hR ho hu hx hk hf hz h
   · rename_i u ks vs bs clk hx
     obtain ⟨k, hk, kt, vt, z, hu, hf, hfs, hz, h⟩ := A4 h; exact b4a hd hlt hsz hdef hR ho hu hx hfs hk hf hz h
   · exact h.elim
 · exact h.elim
def H5 : AV → Option Nat
 | .bor j _ _ _ => some j
 | .adr j _ => some j
 | .eadr j _ _ => some j
 | .sub j _ => some j
 | _ => none
def Agr (xs : List Operand) (σ σ' : St) : Prop := (∀ x ∈ xs, (∀ t, x = .tmp t → σ t = σ' t) ∧ ∀ j, H5 (A0 σ x) = some j → σ j = σ' j) ∧ ∀ j, 1000000 ≤ j → σ j = σ' j
theorem Agr.aval {xs : List Operand} (h : Agr xs σ σ') {x : Operand} (hx : x ∈ xs) : Vw.A0 σ x = Vw.A0 σ' x := by
 cases x with
 | tmp t => simp only [Vw.A0, (h.1 _ hx).1 t rfl]
 | const v => rfl
 | func f => rfl
 | global g => rfl
theorem Agr.deref {xs : List Operand} (h : Agr xs σ σ') {x : Operand} (hx : x ∈ xs) : Vw.W1 σ (Vw.A0 σ x) = Vw.W1 σ' (Vw.A0 σ' x) := by
 have h2 := (h.1 x hx).2; rw [← h.aval hx]; cases hv : Vw.A0 σ x <;> rw [hv] at h2
 case d z => cases z <;> rfl
 case adr j p => simp only [Vw.W1, h2 j rfl]
 case eadr j i p => simp only [Vw.W1, h2 j rfl]
 all_goals rfl
theorem Agr.bnd {xs : List Operand} (h : Agr xs σ σ') {x : Option Operand} (hx : ∀ y, x = some y → y ∈ xs) (k : Nat) : Vw.bnd σ x k = Vw.bnd σ' x k := by
 cases x with
 | none => rfl
 | some y => simp only [Vw.bnd, h.aval (hx y rfl)]
theorem Agr.parts {xs : List Operand} (h : Agr xs σ σ') : ∀ {ps : List (Nat × Operand)}, (∀ p ∈ ps, p.2 ∈ xs) → O7 σ ps = O7 σ' ps
 | [], _ => rfl
 | (i, x) :: ps, hp => by
   simp only [O7, h.aval (hp (i, x) (by simp)), h.parts (ps := ps) (fun p hq => hp p (mem_cons_of_mem _ hq))]
theorem Agr.args {xs : List Operand} (h : Agr xs σ σ') : ∀ {ys : List Operand}, (∀ y ∈ ys, y ∈ xs) → Y3 σ ys = Y3 σ' ys ∧ N4 σ ys = N4 σ' ys
 | [], _ => ⟨rfl, rfl⟩
 | y :: ys, hy => by
   have h1 := h.aval (hy y (by simp)); have h2 := h.args (ys := ys) (fun z hz => hy z (mem_cons_of_mem _ hz)); simp only [Y3, b2S, N4, h1, h2.1, h2.2, and_self]
theorem Agr.lends {xs : List Operand} (h : Agr xs σ σ') : ∀ {ys : List Operand}, (∀ y ∈ ys, y ∈ xs) → X4 σ ys = X4 σ' ys
 | [], _ => rfl
 | y :: ys, hy => by
   have h1 := h.aval (hy y (by simp)); have h2 := h.lends (ys := ys) (fun z hz => hy z (mem_cons_of_mem _ hz)); simp only [X4, b1Z, h1, h2]
theorem a8e {op : Op} {C : AV → Prop} (ha : Agr op.operands.toList σ σ') (h : D3 P F op d σ C) : D3 P F op d σ' C := by
 unfold D3 at h ⊢; split at h
 · rename_i x
   have hx := ha.aval (x := x) (by simp [Op.operands]); unfold X9 at h ⊢; split at h
   · rename_i t
     have ht := (ha.1 (.tmp t) (by simp [Op.operands])).1 t rfl; rw [← ht, ← hx]; exact h
   · exact h.elim
   · rw [← hx]; exact h
 · rename_i x
   have hx := ha.aval (x := x) (by simp [Op.operands]); unfold X9 at h ⊢; split at h
   · rename_i t
     have ht := (ha.1 (.tmp t) (by simp [Op.operands])).1 t rfl; rw [← ht, ← hx]; exact h
   · exact h.elim
   · rw [← hx]; exact h
 · rename_i c x y
   rw [← ha.aval (x := c) (by simp [Op.operands]), ← ha.aval (x := x) (by simp [Op.operands]), ← ha.aval (x := y) (by simp [Op.operands])]; exact h
 · rename_i t x
   have hx : X6 P σ x = X6 P σ' x := by
     have h1 := ha.deref (x := x) (by simp [Op.operands]); cases x with
     | global g => rfl
     | _ => exact h1
   rw [← hx]; exact h
 · rename_i x
   have h1 := ha.deref (x := x) (by simp [Op.operands]); have h2 := ha.aval (x := x) (by simp [Op.operands]); have h3 : a1Z σ (Vw.A0 σ x) = a1Z σ' (Vw.A0 σ' x) := by
     rw [← h2] at h1 ⊢; unfold a1Z; split
     · rfl
     · rw [h1]
   rw [← h2] at h3 ⊢; rw [← h3]; exact h
 · rename_i t ps
   rw [← ha.parts (ps := ps.toList) (fun p hp => by simp only [Op.operands, mem_map]; exact ⟨p, hp, rfl⟩)]; exact h
 · rename_i t len ps
   rw [← ha.parts (ps := ps.toList) (fun p hp => by simp only [Op.operands, mem_map]; exact ⟨p, hp, rfl⟩)]; exact h
 · rename_i s x f
   have hx := ha.aval (x := x) (by simp [Op.operands]); have hr := (ha.1 x (by simp [Op.operands])).2; unfold T3 at h ⊢; rw [← hx]; split at h
   · exact h
   · obtain ⟨j, e1, ds, h0, h1, h2⟩ := h; exact ⟨j, e1, ds, h0, by rw [← ha.2 j h0]; exact h1, h2⟩
   · rename_i j p hv; rw [hv] at hr; simp only [← hr j rfl]; exact h
   · rename_i j i p hv; rw [hv] at hr; simp only [← hr j rfl]; exact h
   · exact h.elim
 · rename_i t x i
   have hx := ha.aval (x := x) (by simp [Op.operands]); have hi := ha.aval (x := i) (by simp [Op.operands]); unfold T4 at h ⊢; rw [← hx, ← hi]; refine F7 h fun e h => ?_
   split at h
   · obtain ⟨h0, h⟩ := h; refine ⟨h0, ?_⟩; split at h
     · exact h
     · obtain ⟨j, e', l, h1, h2, h3⟩ := h; exact ⟨j, e', l, h1, by rw [← ha.2 j h1]; exact h2, h3⟩
     · rename_i j lo hv
       have hr := (ha.1 x (by simp [Op.operands])).2; rw [hv] at hr; simp only [← hr j rfl]; exact h
     · exact h
   · exact h.elim
 · rename_i t x i
   rw [← ha.aval (x := x) (by simp [Op.operands]), ← ha.aval (x := i) (by simp [Op.operands])]; exact h
 · rename_i t x lo hi
   have hx := ha.aval (x := x) (by simp [Op.operands]); have hl := fun k => ha.bnd (x := lo) (fun y hy => by subst hy; simp [Op.operands]) k
   have hh := fun k => ha.bnd (x := hi) (fun y hy => by subst hy; simp [Op.operands]) k
   unfold a2f at h ⊢; simp only [← hx, ← hl, ← hh]; exact h
 · rename_i op t x y t'
   rw [← ha.aval (x := x) (by simp [Op.operands]), ← ha.aval (x := y) (by simp [Op.operands])]; exact h
 · rename_i t x
   rw [← ha.aval (x := x) (by simp [Op.operands])]; exact h
 · rename_i s t x
   unfold a0v at h ⊢; rw [← ha.aval (x := x) (by simp [Op.operands])]; exact h
 · rename_i x i
   unfold Y8 at h ⊢; split at h
   · rename_i t
     have ht := (ha.1 (.tmp t) (by simp [Op.operands])).1 t rfl; rw [← ht]; exact h
   · exact h.elim
 · rename_i c
   unfold a3d at h ⊢; split at h
   · rename_i x t hc hx ht
     rw [← ha.aval (x := x) (by simp [Op.operands, Call.operands, hx])]; split at h
     · exact h
     · exact h
     · split at h
       · obtain ⟨j, kt, vt, kt', m, E, g0, g1, g2, h⟩ := h; exact ⟨j, kt, vt, kt', m, E, g0, g1, by rw [← ha.2 j g0]; exact g2, h⟩
       · exact h
       · exact h.elim
     · exact h.elim
   · rename_i x y t t' hc hx ht
     rw [← ha.aval (x := x) (by simp [Op.operands, Call.operands, hx]), ← ha.aval (x := y) (by simp [Op.operands, Call.operands, hx])]; exact h
   · rename_i f hc
     have hf := ha.aval (x := f) (by simp [Op.operands, Call.operands, hc]); have hxs := ha.args (ys := c.args.toList) (fun y hy => by simp only [Op.operands, Call.operands, Array.toList_append, mem_append]; exact .inr hy); have hls := ha.lends (ys := c.args.toList) (fun y hy => by simp only [Op.operands, Call.operands, Array.toList_append, mem_append]; exact .inr hy); rw [← hf, ← hxs.1, ← hxs.2, ← hls]; exact h
   · exact h.elim
 · rename_i t x i c
   rw [← ha.aval (x := x) (by simp [Op.operands]), ← ha.aval (x := i) (by simp [Op.operands])]; split at h
   · refine F7 h fun k h => h.imp (fun ⟨j, kt, vt, z, m, E, g0, g1, g2, h⟩ => ⟨j, kt, vt, z, m, E, g0, g1, by rw [← ha.2 j g0]; exact g2, h⟩) id
   · exact h
   · exact h.elim
 · exact h.elim
end Go.Vw