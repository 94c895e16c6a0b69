/-
  The abstract walk through a translated function, part 2 of 4: its data, its operations, and that it is sound, for every program. No conditions beyond those that each theorem states.
-/import Derived.Test.YtnknfnfinhagoaaGreatDoorWa
import Derived.Maps.RangeRun
import Derived.Deep.LoopGhost
import Derived.StillTail
open List
set_option linter.unusedSimpArgs false
set_option linter.unusedVariables false
namespace Go.Vw
open Go.RowKit Go.Proofs
def Ctr (P : Program) (f : FuncId) (args : List AV) (r : AV) : Prop :=
 Enters P f /\ ∀ (w : World) (L : Nat -> Nat -> Prop) (og : Option Nat) (vals : List Value), (∀ b q, L b q -> b < w.heap.size) -> GL P w L -> (∀ g, og = some g -> g < w.heap.size /\ ∀ q, ¬ L g q) -> RCs P w L og args vals ->
   Calls P f vals.toArray w fun e w' => ∃ v L' og', e = .returned v /\ F7 w w' (H1 og) /\ (∀ b q, L' b q -> b < w'.heap.size) /\ (∀ b q, b < w.heap.size -> ¬ H1 og b -> (L' b q ↔ L b q)) /\
     (∀ g, og' = some g -> g < w'.heap.size /\ (w.heap.size <= g \/ og = some g)) /\ RC P w' L' og' r v
variable {P : Program} {w0 : World} {L0 : Nat -> Nat -> Prop} {row : Nat -> Prop} {n : Nat} {K : St -> Prop} {Q : Exit -> Act -> World -> Prop}
 {w w' : World} {L L' : Nat -> Nat -> Prop} {O O' : Nat -> Option Nat} {σ σ' : St} {a : Act} {o : Oper} {d : Nat} {v : Value} {tm : Nat -> Value}
theorem Rel.freeze (h : Rel P w0 L0 row w L O σ tm) {j : Nat} {b : D} (hj : σ j = .box b) :
   ∃ L' O', Rel P w0 L0 row w L' O' (put σ j (.d (.ref b))) tm /\ Ext w L w L' /\ ∃ g, tm j = ptr g 0 /\ RepV w L' (.ref b) (ptr g 0) := by
 have h1 := h.slots j; rw [hj] at h1; obtain ⟨g, C, e, h2, h3, h4, h5, h6⟩ := h1; have hdom := h.olt j g h2; have hext : Ext w L w (R5 L g C.size) := fun b q hq => ⟨.inl hq, fun _ hv => hv⟩
 have hS : H4 w L w (R5 L g C.size) (H1 (some g)) := ⟨hext, fun _ _ _ => rfl, fun b q _ hne => ⟨fun hq => by
   rcases hq with hq | ⟨hq, _⟩
   . exact hq
   . exact absurd (by rw [hq]; rfl) hne, .inl⟩⟩
 have hrep : RepV w (R5 L g C.size) (.ref b) (ptr g 0) := by
   refine ⟨?_, rfl⟩; simp only [Rep, ptr, Value.cells]; refine ⟨g, 0, C.toList, rfl, Rep.mono hext _ _ h5, fun k u hk => ?_⟩; have hk' : C[k]? = some u := (by simpa using hk); refine ⟨by simpa [World.cell?, h4] using hk', .inl (.inr ⟨rfl, ?_⟩)⟩; have := (Array.getElem?_eq_some_iff.1 hk').1; omega
 refine ⟨R5 L g C.size, E4 O j none, ?_, hext, g, h3, hrep⟩; have := h.putOwn j (.d (.ref b)) (tm j) none (H1 (some g)) hS h.grown (Nat.le_refl _) (fun b q hq => by
   rcases hq with hq | ⟨rfl, _⟩
   . exact h.lok b q hq
   . exact hdom.1) (fun q hq => by obtain rfl : g = q := (by simpa [H1] using hq); exact hdom.2) (fun i q hi hO e => hi (h.inj i j q hO (by rw [h2]; exact e))) (by simp) (by rw [h3]; exact hrep)
 rwa [a5J tm j] at this
def a3N (C : St -> List D -> Prop) : List Operand -> St -> List D -> Prop
 | [], σ, ds => C σ ds
 | x :: xs, σ, ds => match A6 σ x with
   | .adr j [] => (match σ j with
     | .box b => a3N C xs (put σ j (.d (.ref b))) (ds ++ [.ref b])
     | _ => False)
   | y => (match asD y with
     | some z => z.isAgg = false /\ a3N C xs σ (ds ++ [z])
     | none => False)
theorem a9E {C : St -> List D -> Prop} : ∀ (xs : List Operand) {L : Nat -> Nat -> Prop} {O : Nat -> Option Nat} (σ : St) (ds : List D) (css : List (List Value)), a3N C xs σ ds -> Rel P w0 L0 row w L O σ (C6 a) -> A8 w L ds css ->
   ∃ L' O' σ' ds', Rel P w0 L0 row w L' O' σ' (C6 a) /\ C σ' ds' /\ A8 w L' ds' (css ++ xs.map fun x => [a.eval x])
 | [], L, O, σ, ds, css, h, hR, hr => ⟨L, O, σ, ds, hR, h, by simpa using hr⟩
 | x :: xs, L, O, σ, ds, css, h, hR, hr => by
   simp only [a3N] at h; have other : ∀ y, A6 σ x = y -> (match asD y with
     | some z => z.isAgg = false /\ a3N C xs σ (ds ++ [z])
     | none => False) -> ∃ L' O' σ' ds', Rel P w0 L0 row w L' O' σ' (C6 a) /\ C σ' ds' /\ A8 w L' ds' (css ++ (x :: xs).map fun x => [a.eval x]) := by
     intro y hy h; cases hz : asD y with
     | none => rw [hz] at h; exact h.elim
     | some z =>
       rw [hz] at h; have hx := N4 hR (x := x) (by rw [hy]; exact hz); have := a9E xs σ (ds ++ [z]) (css ++ [[a.eval x]]) h.2 hR (hr.append (.one (hx.cell h.1))); simpa using this
   split at h
   . rename_i j hj
     split at h
     . rename_i b hb
       obtain ⟨L1, O1, h1, h2, g, h3, h4⟩ := hR.freeze hb; have hx : a.eval x = C6 a j := by
         have := I7 hR x; rw [hj] at this; obtain ⟨b', g', off, e1, e2, e3, e4⟩ := this; rw [hb] at e1; obtain rfl : b = b' := by simpa [S5] using e1
         have e5 := hR.slots j; rw [hb] at e5; obtain ⟨g2, C2, e, e6, e7, _⟩ := e5; rw [e2] at e6; obtain rfl : g' = g2 := by simpa using e6
         simp only [D.off, Option.some.injEq] at e3; rw [e4, <- e3]; exact e7.symm
       have := a9E xs _ (ds ++ [.ref b]) (css ++ [[a.eval x]]) h h1 ((A8.mono h2 _ _ hr).append (.one (by rw [hx, h3]; exact h4.cell rfl))); simpa using this
     . exact h.elim
   . exact other _ rfl h
section
variable (hd : o.dst = some d) (hlt : d < n) (hsz : a.tmps.size = n) (hdef : a.defers = []) (hR : Rel P w0 L0 row w L O σ (C6 a))
include hd hlt hsz hdef hR
theorem b7O {g : FuncId} {caps : Array Operand} (ho : o.op = .makeFunc (.func g) #[] caps) (h : a3N (fun σ' ds => K (put σ' d (.d (.clo g ds)))) caps.toList σ []) : o.wp P a w (D4 P w0 L0 row n K) Q := by
 obtain ⟨L', O', σ', ds', h1, h2, h3⟩ := a9E (a := a) caps.toList σ [] [] h hR (by simp [A8]); refine E6 hd hlt hsz hdef h1 (x := .d (.clo g ds')) (v := .func (.func g) #[] (caps.map a.eval)) ?_ ?_ h2
 . simp [execOp, ho, Instr.makeFunc]
 . refine ⟨?_, rfl⟩; simp only [Rep, Value.cells]; refine ⟨_, h3, ?_⟩; have : ∀ (l : List Operand), (l.map fun x => [a.eval x]).flatten = l.map a.eval := by
     intro l
     induction l with
     | nil => rfl
     | cons x xs ih => simp [ih]
   rw [nil_append, this]; congr 2
   apply Array.ext'
   simp
end
def c5H (C : List D -> Prop) (σ : St) : List Operand -> List D -> Prop
 | [], ds => C ds
 | x :: xs, ds => match asD (A6 σ x) with
   | some z => c5H C σ xs (ds ++ [z])
   | none => False
section
variable (hd : o.dst = some d) (hlt : d < n) (hsz : a.tmps.size = n) (hdef : a.defers = []) (hR : Rel P w0 L0 row w L O σ (C6 a))
include hd hlt hsz hdef hR
end
def b8x (σ : St) (x : Operand) : Option AV :=
 match A6 σ x with
 | .bor _ true e l => some (.own true e l)
 | y => (asD y).map .d
def a2G (σ : St) : List Operand -> Option (List AV)
 | [] => some []
 | x :: xs => match b8x σ x, a2G σ xs with
   | some y, some ys => some (y :: ys)
   | _, _ => none
def T4 (σ : St) : List Operand -> List Nat
 | [] => []
 | x :: xs => match A6 σ x with
   | .bor j true _ _ => j :: T4 σ xs
   | _ => T4 σ xs
def eat (σ : St) : List Nat -> St
 | [] => σ
 | j :: js => eat (put σ j .undef) js
def a1K (b : Bool) : AV -> AV
 | .own true e l => .own b e l
 | x => x
theorem b6W (hR : Rel P w0 L0 row w L O σ (C6 a)) (og : Option Nat) : ∀ (xs : List Operand) (xa : List AV), a2G σ xs = some xa -> (∀ j ∈ T4 σ xs, (C6 a j).ownBlock = og) -> RCs P w L og xa (xs.map a.eval)
 | [], xa, h, _ => by simp only [a2G, Option.some.injEq] at h; subst h; simp [RCs]
 | x :: xs, xa, h, hj => by
   simp only [a2G] at h; split at h
   . rename_i y ys hy hys
     simp only [Option.some.injEq] at h; subst h; simp only [map_cons, RCs]; have hrest : ∀ j ∈ T4 σ xs, (C6 a j).ownBlock = og := by
       intro j hj'; refine hj j ?_; simp only [T4]; split
       . exact mem_cons_of_mem _ hj'
       . exact hj'
     refine ⟨_, _, rfl, ?_, b6W hR og xs ys hys hrest⟩; simp only [b8x] at hy; have h1 := I7 hR x; have other : ∀ z, A6 σ x = z -> (asD z).map AV.d = some y -> RC P w L og y (a.eval x) := by
       intro z hz h2; simp only [Option.map_eq_some_iff] at h2; obtain ⟨u, hu, rfl⟩ := h2; have := N4 hR (x := x) (by rw [hz]; exact hu); simpa only [RC] using this
     split at hy
     . rename_i j e l hx
       simp only [Option.some.injEq] at hy; subst hy; rw [hx] at h1; obtain ⟨h2, h3⟩ := h1; have h4 := hR.slots j; rw [h2] at h4; have hb := hj j (by simp [T4, hx]); obtain ⟨css, sz, g1, g2, g3, g4, g5⟩ : F0 P w L (O j) true e l (C6 a j) := h4; rw [h3]; exact ⟨css, sz, g1, g2, g3, g4, fun g hg => ⟨by rw [<- hb]; exact hg, (g5 g hg).2⟩⟩
     . exact other _ rfl hy
   . cases h
theorem RC.demote {og : Option Nat} {x : AV} {v : Value} (b : Bool) (hlok : ∀ b q, L b q -> b < w.heap.size) (hog : ∀ g, og = some g -> g < w.heap.size) (h : RC P w L og x v) :
   ∃ L', RC P w L' og (Vw.a1K b x) v /\ (∀ c q, L' c q -> c < w.heap.size) /\ (∀ c q, some c ≠ og -> (L' c q ↔ L c q)) /\ Ext w L w L' := by
 have same : ∃ L', RC P w L' og x v /\ (∀ c q, L' c q -> c < w.heap.size) /\ (∀ c q, some c ≠ og -> (L' c q ↔ L c q)) /\ Ext w L w L' := ⟨L, h, hlok, fun _ _ _ => Iff.rfl, fun _ _ h => ⟨h, fun _ hv => hv⟩⟩; cases x with
 | own m e l =>
   cases m with
   | false => exact same
   | true =>
     cases b with
     | true => exact same
     | false =>
       obtain ⟨css, sz, g1, g2, g3, g4, g5⟩ : F0 P w L og true e l v := h; cases hv : v.ownBlock with
       | none =>
         exact ⟨L, ⟨css, sz, g1, g2, g3, g4, fun g hg => by rw [hv] at hg; cases hg⟩, hlok, fun _ _ _ => Iff.rfl, fun _ _ h => ⟨h, fun _ hv => hv⟩⟩
       | some g =>
         have h5 := g5 g hv; have hext : Ext w L w (R5 L g (l.length * sz)) := fun _ _ hq => ⟨.inl hq, fun _ hv => hv⟩
         refine ⟨R5 L g (l.length * sz), ⟨css, sz, g1, A8.mono hext _ _ g2, g3, g4, fun g' hg' => ?_⟩, fun c q hq => ?_, fun c q hc => ⟨fun hq => ?_, .inl⟩, hext⟩
         . rw [hv] at hg'; obtain rfl : g = g' := by simpa using hg'
           refine ⟨h5.1, fun q => ?_⟩; have := h5.2 q; simp only [Bool.true_eq_false, false_and, iff_false] at this; simp [R5, this]
         . rcases hq with hq | ⟨rfl, _⟩
           . exact hlok c q hq
           . exact hog c h5.1
         . rcases hq with hq | ⟨rfl, _⟩
           . exact hq
           . exact absurd h5.1.symm hc
 | undef => exact same
 | d _ => exact same
 | nils => exact same
 | full _ => exact same
 | bor _ _ _ _ => exact same
 | box _ => exact same
 | adr _ _ => exact same
 | eadr _ _ _ => exact same
 | tup _ => exact same
 | iter _ _ => exact same
 | hs _ _ _ => exact same
 | hb _ _ _ => exact same
 | hm _ _ _ _ => exact same
 | mit _ _ _ => exact same
 | sub _ _ => exact same
theorem RC.toRA {og : Option Nat} {x : AV} {v : Value} (h : RC P w L og x v) (O : Nat -> Option Nat) (σ : St) (tm : Nat -> Value) (d : Nat) : RA P w L O σ tm og (F5 d x) v := by
 cases x with
 | bor _ _ _ _ => simp only [RC] at h
 | adr _ _ => simp only [RC] at h
 | eadr _ _ _ => simp only [RC] at h
 | iter _ _ => simp only [RC] at h
 | mit _ _ _ => simp only [RC] at h
 | hm _ _ _ _ => exact h
 | sub _ _ => simp only [RC] at h
 | box _ => exact h
 | hs _ _ _ => exact h
 | hb _ _ _ => exact h
 | undef => exact h
 | d _ => exact h
 | nils => exact h
 | full _ => exact h
 | own _ _ _ => exact h
 | tup _ => exact h
theorem a1g {caps : List D} {css : List (List Value)} (h : A8 w L caps css) (hc : ∀ c ∈ caps, c.isAgg = false) (og : Option Nat) : RCs P w L og (caps.map .d) css.flatten := by
 induction caps generalizing css with
 | nil => simp only [A8] at h; subst h; simp [RCs]
 | cons c cs ih =>
   simp only [A8] at h; obtain ⟨x, xs, rfl, h1, h2⟩ := h; obtain ⟨u, rfl, hu⟩ := b1M h1 (hc c (by simp)); simp only [map_cons, RCs, flatten_cons, singleton_append]; refine ⟨u, _, rfl, ?_, ih h2 (fun c hc' => hc c (by simp [hc']))⟩; simp only [RC]; exact RepV.of_cell h1 (hc c (by simp)) hu
theorem RCs.append {og : Option Nat} : ∀ {xs ys : List AV} {us vs : List Value}, RCs P w L og xs us -> RCs P w L og ys vs -> RCs P w L og (xs ++ ys) (us ++ vs)
 | [], _, _, _, h, k => by simp only [RCs] at h; subst h; simpa using k
 | x :: xs, _, _, _, h, k => by
   simp only [RCs] at h; obtain ⟨v, us, rfl, h1, h2⟩ := h; simp only [cons_append, RCs]; exact ⟨v, _, rfl, h1, h2.append k⟩
theorem a2k {g : FuncId} {caps : List D} {v : Value} (h : RepV w L (.clo g caps) v) : ∃ css, A8 w L caps css /\ v = .func (.func g) #[] css.flatten.toArray := by
 have h1 := h.cell rfl; simp only [Rep] at h1; obtain ⟨css, h2, h3⟩ := h1; exact ⟨css, h2, by simpa using h3⟩
section
variable (hd : o.dst = some d) (hlt : d < n) (hsz : a.tmps.size = n) (hdef : a.defers = []) (hR : Rel P w0 L0 row w L O σ (C6 a))
include hd hlt hsz hdef hR
theorem c0s {f : Operand} {args : Array Operand} {ts : Array TypeId} (ho : o.op = .call { callee := .value f, args, argTypes := ts }) {g : FuncId} {caps : List D} (hf : A6 σ f = .d (.clo g caps)) (hc : ∀ c ∈ caps, c.isAgg = false)
   {xa : List AV} (ha : a2G σ args.toList = some xa) (he : (T4 σ args.toList).length <= 1) {r : AV} (hfn : Ctr P g (xa ++ caps.map .d) r) (b : Bool) (h : K (put (eat σ (T4 σ args.toList)) d (a1K b r))) :
   o.wp P a w (D4 P w0 L0 row n K) Q := by
 obtain ⟨css, hcs, hfv⟩ := a2k (H3 hR hf); have hexec : (execOp a.eval o).run P w = .ok (.enter g (args.map a.eval ++ css.flatten.toArray)) w := by
   simp only [execOp, ho, resolve, hfv, Deferred.ofValue, Sem.run_bind, Sem.run_pure, Result.andThen_ok, invoke, Array.empty_append, hfn.1 _ w]
 have hvals : (args.map a.eval ++ css.flatten.toArray) = (args.toList.map a.eval ++ css.flatten).toArray := by
   apply Array.ext'; simp
 unfold Oper.wp; rw [hexec, Oper.upon_enter, hvals]; have eat_ok : ∃ og O1, (∀ j ∈ T4 σ args.toList, (C6 a j).ownBlock = og) /\ (∀ g, og = some g -> g < w.heap.size /\ (w0.heap.size <= g \/ row g) /\ (∀ q, ¬ L g q) /\ ∀ i, O1 i ≠ some g) /\
     Rel P w0 L0 row w L O1 (eat σ (T4 σ args.toList)) (C6 a) := by
   match hE : T4 σ args.toList, he with
   | [], _ => exact ⟨none, O, by simp, by simp, by simpa [eat] using hR⟩
   | [j], _ =>
     have h1 := hR.forget j; refine ⟨(C6 a j).ownBlock, E4 O j none, by simp, fun g hg => ?_, by simpa [eat] using h1⟩; have key : ∀ (xs : List Operand), j ∈ T4 σ xs -> ∃ e l, σ j = .own true e l := by
       intro xs
       induction xs with
       | nil => intro h; simp [T4] at h
       | cons x xs ih =>
         intro h; simp only [T4] at h; split at h
         . rename_i j' e l hx
           rcases mem_cons.1 h with h | h
           . subst h; have := I7 hR x; rw [hx] at this; exact ⟨e, l, this.1⟩
           . exact ih h
         . exact ih h
     obtain ⟨e, l, hj⟩ := key args.toList (by rw [hE]; simp); have h2 := hR.slots j; rw [hj] at h2; obtain ⟨css, sz, g1, g2, g3, g4, g5⟩ : F0 P w L (O j) true e l (C6 a j) := h2; have h3 := g5 g hg; refine ⟨(hR.olt j g h3.1).1, (hR.olt j g h3.1).2, fun q hq => by have := (h3.2 q).1 hq; simp at this, fun i hi => ?_⟩; simp only [E4] at hi; split at hi
     . cases hi
     . exact absurd (hR.inj i j g hi h3.1) (by assumption)
 obtain ⟨og, O1, hog, hogp, hR1⟩ := eat_ok; refine (hfn.2 w L og _ hR.lok hR.gl (fun g hg => ⟨(hogp g hg).1, (hogp g hg).2.2.1⟩) (RCs.append (b6W hR og args.toList xa ha hog) (a1g hcs hc og))).mono ?_; rintro e w' ⟨v, L', og', rfl, hgr, hlok', hold', hog', hrc⟩
 show D4 P w0 L0 row n K (a.put o.dst v) w'
 obtain ⟨L2, hrc2, hlok2, hold2, hext2⟩ := hrc.demote b hlok' (fun g hg => (hog' g hg).1); have hS : H4 w L w' L2 (H1 og) := by
   have hL : ∀ c q, c < w.heap.size -> ¬ H1 og c -> (L2 c q ↔ L c q) := fun c q hc hne => by
     refine (hold2 c q (fun e => ?_)).trans (hold' c q hc hne); rcases (hog' c e.symm).2 with h1 | h1
     . omega
     . exact hne h1
   refine ⟨fun c q hq => ?_, fun c hc hne => hgr.block c hc hne, hL⟩; have hc := hR.lok c q hq; have hne : ¬ H1 og c := fun e => (hogp c e).2.2.1 q hq
   refine ⟨(hL c q hc hne).2 hq, fun u hu => ?_⟩; rw [J4 (hgr.block c hc hne)]; exact hu
 refine ⟨L2, E4 O1 d og', put (eat σ (T4 σ args.toList)) d (Vw.a1K b r), ?_, ?_, ?_, h⟩
 . rw [hd, a1s (by omega)]; refine hR1.putOwn d (Vw.a1K b r) v og' (H1 og) hS (hR.grown.then hgr (fun g hg => (hogp g hg).2.1)) hgr.size hlok2 (fun g hg => (hogp g hg).2.1) (fun i g _ hi e => (hogp g e).2.2.2 i hi) (fun g hg => ?_) (RC.toRA hrc2 _ _ _ _); refine ⟨(hog' g hg).1, ?_, fun i _ hi => ?_⟩
   . rcases (hog' g hg).2 with h1 | h1
     . exact .inl (Nat.le_trans hR.grown.size h1)
     . exact (hogp g h1).2.1
   . rcases (hog' g hg).2 with h1 | h1
     . have := (hR1.olt i g hi).1; omega
     . exact (hogp g h1).2.2.2 i hi
 . rw [hd]; simpa [Act.put] using hdef
 . rw [hd]; simpa [Act.put] using hsz
end
section
variable (hd : o.dst = some d) (hlt : d < n) (hsz : a.tmps.size = n) (hdef : a.defers = []) (hR : Rel P w0 L0 row w L O σ (C6 a))
include hd hlt hsz hdef hR
end
end Go.Vw
namespace Go.Vw
open Go.RowKit Go.Proofs
variable {P : Program} {w0 : World} {L0 : Nat -> Nat -> Prop} {row : Nat -> Prop} {n : Nat} {K : St -> Prop} {Q : Exit -> Act -> World -> Prop}
 {w w' : World} {L L' : Nat -> Nat -> Prop} {O O' : Nat -> Option Nat} {σ σ' : St} {a : Act} {o : Oper} {d : Nat} {v : Value} {tm : Nat -> Value}
theorem b1z (z : Array Value) (k : Nat) : (Builtin.zeroCells z k).toList = (replicate k z.toList).flatten := by
 have h : ∀ k, (List.range (k * z.size)).map (fun i => z[i % z.size]!) = (replicate k z.toList).flatten := by
   intro k
   induction k with
   | zero => simp
   | succ k ih =>
     rw [Nat.succ_mul, range_add, map_append, ih, replicate_succ', flatten_append]; congr 1
     simp only [map_map, flatten_cons, flatten_nil, append_nil]; apply ext_getElem
     . simp
     . intro i h1 h2; simp only [length_map, length_range] at h1; have e : (k * z.size + i) % z.size = i := by rw [Nat.add_comm, Nat.add_mul_mod_self_right, Nat.mod_eq_of_lt h1]
       simp only [getElem_map, getElem_range, Function.comp_apply, e, Array.getElem_toList]; exact getElem!_pos z i h1
 simp only [Builtin.zeroCells, Array.toList_map, Array.toList_range]; exact h k
theorem F0.cut {og : Option Nat} {e : TypeId} {l : List D} {A : Option Addr} {k cap hi m : Nat} (h : F0 P w L og true e l (.slice A k cap)) (h1 : hi <= l.length) (h2 : hi <= m) (h3 : m <= cap) : F0 P w L og true e (l.take hi) (.slice A hi m) := by
 obtain ⟨css, sz, g1, g2, g3, g4, g5⟩ := h; have hlen : (l.take hi).length = hi := by simp; omega
 have hfl : (css.take hi).flatten.length = hi * sz := by
   rw [W4 (fun c hc => g3 c (mem_of_mem_take hc)), length_take, g2.count, Nat.min_eq_left h1]
 refine ⟨css.take hi, sz, g1, g2.take hi, fun c hc => g3 c (mem_of_mem_take hc), ⟨by rw [hlen, hfl], ?_⟩, fun g hg => ?_⟩
 . rw [hlen]; rcases g4.2 with ⟨hv, hn⟩ | ⟨g, cp, cur, hv, hh, hnc, hcm, hcs, htk⟩
   . simp only [Value.slice.injEq] at hv; obtain ⟨rfl, rfl, rfl⟩ := hv; obtain rfl : m = 0 := by omega
     obtain rfl : hi = 0 := by omega
     exact .inl ⟨rfl, rfl⟩
   . simp only [Value.slice.injEq] at hv; obtain ⟨rfl, rfl, rfl⟩ := hv; refine .inr ⟨g, m, cur, rfl, hh, h2, by omega, Nat.le_trans (Nat.mul_le_mul_right _ h3) hcs, ?_⟩; have e1 : cur.toList.take (hi * sz) = (cur.toList.take (l.length * sz)).take (hi * sz) := by
       rw [take_take, Nat.min_eq_left (Nat.mul_le_mul_right _ h1)]
     rw [e1, htk]; have e2 : css.flatten = (css.take hi).flatten ++ (css.drop hi).flatten := by rw [<- flatten_append, take_append_drop]
     rw [e2, <- hfl, take_left]
 . have := g5 g (by cases A <;> simp [Value.ownBlock] at hg ⊢; exact hg); exact ⟨this.1, fun q => by simpa using this.2 q⟩
theorem F0.shape2 {og : Option Nat} {m : Bool} {e : TypeId} {l : List D} {v : Value} (h : F0 P w L og m e l v) : ∃ A c, v = .slice A l.length c /\ l.length <= c /\ ∀ (k s : Nat), (if k = 0 then A else A.map (·.add (0 * s))) = A := by
 obtain ⟨css, sz, h1, h2, h3, h4, h5⟩ := h; rcases h4.2 with ⟨hv, hn⟩ | ⟨g, cap, cur, hv, _, hc, _⟩
 . exact ⟨none, 0, by rw [hv, hn], by omega, by simp⟩
 . exact ⟨_, _, hv, hc, fun k s => by simp [Addr.add_lit]⟩
section
variable (hd : o.dst = some d) (hlt : d < n) (hsz : a.tmps.size = n) (hdef : a.defers = []) (hR : Rel P w0 L0 row w L O σ (C6 a))
include hd hlt hsz hdef hR
theorem c7R {t e e' sz : Nat} {x hi : Operand} (ho : o.op = .slice t x none (some hi) none) (ht : P.underlying t = some (.slice e)) (hz : E5 P e = some sz) {j : Nat} {l : List D} (hx : A6 σ x = .bor j true e' l) (he : ety e' = e) {i : Nat}
   (hi' : bnd σ (some hi) 0 = some i) (h1 : i <= l.length) (h : K (put (put σ j .undef) d (.own true e' (l.take i)))) : o.wp P a w (D4 P w0 L0 row n K) Q := by
 subst he; have h2 := I7 hR x; rw [hx] at h2; obtain ⟨h2, h3⟩ := h2; have h4 := hR.slots j; rw [h2] at h4; have h4' : F0 P w L (O j) true e' l (C6 a j) := h4; obtain ⟨A, c, hv, hcap, hA⟩ := h4'.shape2; rw [hv] at h4'; have own := h4'.cut h1 (Nat.le_trans h1 hcap) (Nat.le_refl c); refine J3 hd hlt hsz hdef (v := .slice A i c) ?_ (hR.move j d .undef (.own true e' (l.take i)) (.slice A i c) (by simp [RA, RC]) own rfl (fun _ _ _ _ h => h)) h; have e1 : (Instr.sliceBounds true l.length c none ((some hi).map a.eval) none).run P w = .ok (0, i, c) w := by
   rcases a4L hR hi' with ⟨hc, _⟩ | ⟨y, k, hy, hz⟩
   . cases hc
   . simp only [Option.some.injEq] at hy; subst hy; have hi2 : (0 : Int) <= i /\ (i : Int) <= (c : Int) := (by omega); simp [Instr.sliceBounds, Instr.sliceBound, asIntOf, hz, hi2]; intro hh; omega
 simp only [execOp, ho, h3, hv, Instr.sliceAt, Instr.slice, Sem.run_bind, run_underlying ht, Result.andThen_ok, Option.map_none, e1, Sem.run_pure, J7 hz, hA, Nat.sub_zero]
omit hd hlt hsz hdef in
theorem b7U {t e e' ty : Nat} {x : Operand} (ht : P.underlying t = some (.slice e)) {j lo : Nat} {l : List D} (hx : A6 σ x = .sub j lo) (hj : σ j = .own true e' l) (he : ety e' = e)
   {z : D} (hz : E3 P e = some z) (hw : E5 P e = some (C0 z)) :
   ∃ w' O', (Builtin.clear_ #[t] ty #[a.eval x]).run P w = .ok (.tuple #[]) w' /\ Rel P w0 L0 row w' L O' (put σ j (.own true e' (l.take lo ++ replicate (l.length - lo) z))) (C6 a) := by
 subst he; have h1 := I7 hR x; rw [hx] at h1; obtain ⟨e2, l2, sz, h2, h3, h4, h5⟩ := h1; rw [hj] at h2; simp only [N8, Option.some.injEq, Prod.mk.injEq] at h2; obtain ⟨rfl, rfl⟩ := h2; have hval : Y9 (σ j) (C6 a j) = C6 a j := by rw [hj]; rfl
 rw [hval] at h5; have h6 := hR.slots j; rw [hj] at h6; obtain ⟨css, sz', g1, g2, g3, g4, g5⟩ : F0 P w L (O j) true e' l (C6 a j) := h6; obtain rfl : sz = sz' := by rw [h3] at g1; simpa using g1
 obtain rfl : sz = C0 z := by
   have : E5 P (ety e') = some sz := h3; rw [this] at hw; simpa using hw
 obtain ⟨zv, hzv, hzr, _⟩ := a4N hz w L; have zl : zv.cells.toList.length = C0 z := Rep.len _ _ hzr.1; have key : ∃ w', (Builtin.clear_ #[t] ty #[a.eval x]).run P w = .ok (.tuple #[]) w' /\ F0 P w' L (O j) true e' (l.take lo ++ replicate (l.length - lo) z) (C6 a j) /\ H4 w L w' L (H1 (O j)) /\ F7 w w' (H1 (O j)) /\ w'.heap.size = w.heap.size := by
   have same0 : lo = l.length -> F0 P w L (O j) true e' (l.take lo ++ replicate (l.length - lo) z) (C6 a j) := by
     rintro rfl; simp only [take_length, Nat.sub_self, replicate_zero, append_nil]; exact ⟨css, _, g1, g2, g3, g4, g5⟩
   rcases h5 with ⟨h5, h6⟩ | ⟨g, c, A, h5, h6, h7⟩
   . rw [h6]; have hl0 : l.length = 0 := by
       rcases g4.2 with ⟨_, hn⟩ | ⟨g, cp, cur, hv, _⟩
       . exact hn
       . rw [h5] at hv; cases hv
     exact ⟨w, by simp [Builtin.clear_, run_underlying ht], same0 (by omega), H4.refl _ _ _, F7.refl _ _, rfl⟩
   . rw [h6]; by_cases hlo : lo = l.length
     . refine ⟨w, ?_, same0 hlo, H4.refl _ _ _, F7.refl _ _, rfl⟩; subst hlo; simp [Builtin.clear_, run_underlying ht]
     . obtain rfl := h7 (by omega); have hO := g5 g (by rw [h5]; rfl); rcases g4.2 with ⟨hv, hn⟩ | ⟨g', cp, cur, hv, hh, hnc, hcm, hcs, htk⟩
       . omega
       . rw [h5] at hv; simp only [Value.slice.injEq, Option.some.injEq, Addr.mk.injEq, and_true, true_and] at hv; obtain ⟨rfl, rfl⟩ := hv; have hzc : (Builtin.zeroCells zv.cells (l.length - lo)).toList = (replicate (l.length - lo) zv.cells.toList).flatten := by
           exact b1z _ _
         have hzl : (Builtin.zeroCells zv.cells (l.length - lo)).toList.length = (l.length - lo) * C0 z := by
           rw [hzc, W4 (sz := C0 z) (fun c hc => by rw [(mem_replicate.1 hc).2]; exact zl), length_replicate]
         have hmul : lo * C0 z + (l.length - lo) * C0 z = l.length * C0 z := by rw [<- Nat.add_mul]; congr 1; omega
         have hle : l.length * C0 z <= cur.size := Nat.le_trans (Nat.mul_le_mul_right _ hnc) hcs; obtain ⟨w', C', f1, f2, f3, f4, f5⟩ := a1C (P := P) (off := lo * C0 z) (Builtin.zeroCells zv.cells (l.length - lo)).toList 0 w cur hh (by unfold mk; split <;> simp) (by rw [hzl]; omega) (by
           rw [hzc]; intro u hu; obtain ⟨c', hc', hu⟩ := mem_flatten.1 hu; rw [(mem_replicate.1 hc').2] at hu; exact Rep.one _ _ hzr.1 u hu)
         have hLg : ∀ q, ¬ L g q := fun q hq => by have := (hO.2 q).1 hq; simp at this
         have hS : H4 w L w' L (H1 (O j)) := by rw [hO.1]; exact H4.write f4 hLg hR.lok
         refine ⟨w', ?_, ?_, hS, by rw [hO.1]; exact .of f4 (K2 _ f1), f5⟩
         . have hn0 : ∃ k, l.length - lo = k + 1 := ⟨l.length - lo - 1, by omega⟩; obtain ⟨k, hk⟩ := hn0; rw [hk] at f1 ⊢; simp [Builtin.clear_, run_underlying ht, hzv, f1]
         . have hsplit : css.flatten = (css.take lo).flatten ++ (css.drop lo).flatten := by rw [<- flatten_append, take_append_drop]
           have htl : (css.take lo).flatten.length = lo * C0 z := by
             rw [W4 (fun c hc => g3 c (mem_of_mem_take hc)), length_take, g2.count, Nat.min_eq_left h4]
           have hnl : (l.take lo ++ replicate (l.length - lo) z).length = l.length := by simp; omega
           have hrz : ∀ k, A8 w' L (replicate k z) (replicate k zv.cells.toList) := by
             intro k
             induction k with
             | zero => simp [A8]
             | succ k ih => simp only [replicate_succ, A8]; exact ⟨_, _, rfl, Rep.mono hS.ext _ _ hzr.1, ih⟩
           refine ⟨css.take lo ++ replicate (l.length - lo) zv.cells.toList, C0 z, g1, (A8.mono hS.ext _ _ (g2.take lo)).append (hrz _), fun c' hc' => ?_, ⟨?_, .inr ⟨g, c, C', ?_, ?_, by rw [hnl]; exact hnc, hcm, ?_, ?_⟩⟩, fun q hq => ?_⟩
           . rcases mem_append.1 hc' with hc' | hc'
             . exact g3 c' (mem_of_mem_take hc')
             . rw [(mem_replicate.1 hc').2]; exact zl
           . rw [hnl, flatten_append, length_append, htl, <- hzc, hzl, hmul]
           . rw [hnl]; exact h5
           . have : C'.size = cur.size := by
               rw [<- Array.length_toList, f3]; simp only [length_append, length_take, length_drop, Array.length_toList, hzl]; omega
             rw [this]; exact f2
           . have : C'.size = cur.size := by
               rw [<- Array.length_toList, f3]; simp only [length_append, length_take, length_drop, Array.length_toList, hzl]; omega
             rw [this]; exact hcs
           . rw [hnl, f3, flatten_append, <- hzc, Nat.add_zero]; have e1 : cur.toList.take (lo * C0 z) = (css.take lo).flatten := by
               have : cur.toList.take (lo * C0 z) = (cur.toList.take (l.length * C0 z)).take (lo * C0 z) := by rw [take_take, Nat.min_eq_left (by omega)]
               rw [this, htk, hsplit, <- htl, take_left]
             rw [e1]; have e2 : ((css.take lo).flatten ++ (Builtin.zeroCells zv.cells (l.length - lo)).toList).length = l.length * C0 z := by rw [length_append, htl, hzl, hmul]
             rw [<- e2, take_left]
           . have := g5 q hq; exact ⟨this.1, fun p => by simpa using this.2 p⟩
 obtain ⟨w', hrun, hown, hS, hG, hsz'⟩ := key; have hj1 := hR.putOwn j (.own true e' (l.take lo ++ replicate (l.length - lo) z)) (C6 a j) (O j) (H1 (O j)) hS (hR.grown.then hG (fun g hg => (hR.olt j g hg).2)) (by omega) (fun b q hq => by rw [hsz']; exact hR.lok b q hq)
   (fun g hg => (hR.olt j g hg).2) (fun i g hi hO e => hi (hR.inj i j g hO e)) (fun g hg => ⟨by rw [hsz']; exact (hR.olt j g hg).1, (hR.olt j g hg).2, fun i hi e => hi (hR.inj i j g e hg)⟩) hown
 rw [O0] at hj1; exact ⟨w', _, hrun, hj1⟩
omit hd hlt in
theorem c2E (hd : o.dst = none) {t e e' : Nat} {x : Operand} (ho : o.op = .call { callee := .builtin .clear, args := #[x], argTypes := #[t] }) (ht : P.underlying t = some (.slice e)) {j lo : Nat} {l : List D} (hx : A6 σ x = .sub j lo) (hj : σ j = .own true e' l) (he : ety e' = e)
   {z : D} (hz : E3 P e = some z) (hw : E5 P e = some (C0 z)) (h : K (put σ j (.own true e' (l.take lo ++ replicate (l.length - lo) z)))) : o.wp P a w (D4 P w0 L0 row n K) Q := by
 obtain ⟨w', O', hrun, hj1⟩ := b7U (ty := o.type) hR ht hx hj he hz hw; unfold Oper.wp; have : (execOp a.eval o).run P w = .ok (.value (.tuple #[])) w' := by
   simp only [execOp, ho, resolve, invoke, builtin, Sem.run_bind, Sem.run_pure, Result.andThen_ok, map_toArray, map_cons, map_nil, hrun]
 rw [this]; simp only [Oper.upon, hd, Act.put]; exact ⟨L, O', _, hj1, hdef, hsz, h⟩
end
theorem F0.self {og : Option Nat} {m : Bool} {e : TypeId} {l : List D} {v : Value} (h : F0 P w L og m e l v) : F0 P w L v.ownBlock m e l v := by
 obtain ⟨css, sz, h1, h2, h3, h4, h5⟩ := h; exact ⟨css, sz, h1, h2, h3, h4, fun g hg => ⟨hg, (h5 g hg).2⟩⟩
theorem F0.lift {og og' : Option Nat} {m : Bool} {e : TypeId} {l : List D} {v : Value} (h : F0 P w L og m e l v) (hg : ∀ g, v.ownBlock = some g -> og' = some g) : F0 P w L og' m e l v := by
 obtain ⟨css, sz, h1, h2, h3, h4, h5⟩ := h; exact ⟨css, sz, h1, h2, h3, h4, fun g hv => ⟨hg g hv, (h5 g hv).2⟩⟩
theorem F0.blk {og : Option Nat} {e : TypeId} {l : List D} {v : Value} (h : F0 P w L og true e l v) {g : Nat} (hg : v.ownBlock = some g) : og = some g /\ ∀ q, ¬ L g q := by
 obtain ⟨css, sz, h1, h2, h3, h4, h5⟩ := h; exact ⟨(h5 g hg).1, fun q hq => by have := ((h5 g hg).2 q).1 hq; simp at this⟩
def a5Z (P : Program) (f : FuncId) (e : TypeId) (l : List D) (rest : List AV) (l' : List D) : Prop :=
 Enters P f /\ ∀ (w : World) (L : Nat -> Nat -> Prop) (og : Option Nat) (v : Value) (vals : List Value), (∀ b q, L b q -> b < w.heap.size) -> GL P w L -> F0 P w L og true e l v -> RCs P w L none rest vals ->
   Calls P f (v :: vals).toArray w fun x w' => ∃ L', x = .returned (.tuple #[]) /\ F7 w w' (H1 og) /\ (∀ b q, L' b q -> b < w'.heap.size) /\ (∀ b q, b < w.heap.size -> ¬ H1 og b -> (L' b q ↔ L b q)) /\ F0 P w' L' og true e l' v
def a3M : D -> Bool
 | .bool _ => true
 | .int _ _ => true
 | .str _ => true
 | .nilp => true
 | .raw _ => true
 | _ => false
theorem a9s {d : D} (hf : a3M d = true) {v : Value} (h : RepV w L d v) : RepV w' L' d v := by
 refine ⟨?_, h.2⟩; have := h.1; cases d <;> simp [a3M] at hf <;> simpa only [Rep] using this
def b3N (σ : St) (x : Operand) : Option AV :=
 match A6 σ x with
 | .bor _ true _ l => some (.d (.sl l))
 | y => (asD y).map .d
def a1u (σ : St) : List Operand -> Option (List AV)
 | [] => some []
 | x :: xs => match b3N σ x, a1u σ xs with
   | some y, some ys => some (y :: ys)
   | _, _ => none
def W5 (σ : St) : List Operand -> Option (List AV)
 | [] => some []
 | x :: xs => match asD (A6 σ x), W5 σ xs with
   | some y, some ys => some (.d y :: ys)
   | _, _ => none
theorem a4u (hR : Rel P w0 L0 row w L O σ (C6 a)) : ∀ (xs : List Operand) (xa : List AV), W5 σ xs = some xa -> RCs P w L none xa (xs.map a.eval)
 | [], xa, h => by simp only [W5, Option.some.injEq] at h; subst h; simp [RCs]
 | x :: xs, xa, h => by
   simp only [W5] at h; split at h
   . rename_i y ys hy hys
     simp only [Option.some.injEq] at h; subst h; simp only [map_cons, RCs]; exact ⟨_, _, rfl, by simpa only [RC] using N4 hR hy, a4u hR xs ys hys⟩
   . cases h
def c5T (σ : St) (x : Operand) : Option AV := match x with
 | .const (.slice none 0 0) => some (.d (.raw (.slice none 0 0)))
 | x => match asD (A6 σ x) with
   | some y => some (.d y)
   | none => none
def c4f (σ : St) : List Operand -> Option (List AV)
 | [] => some []
 | x :: xs => match c5T σ x, c4f σ xs with
   | some y, some ys => some (y :: ys)
   | _, _ => none
section
variable (hd : o.dst = some d) (hlt : d < n) (hsz : a.tmps.size = n) (hdef : a.defers = []) (hR : Rel P w0 L0 row w L O σ (C6 a))
include hd hlt hsz hdef hR
end
section
variable (hd : o.dst = some d) (hlt : d < n) (hsz : a.tmps.size = n) (hdef : a.defers = []) (hR : Rel P w0 L0 row w L O σ (C6 a))
include hd hlt hsz hdef hR
end
theorem F0.lend {og : Option Nat} {e : TypeId} {l : List D} {v : Value} (h : F0 P w L og true e l v) (hx : Ext w L w L') (hl : ∀ g, v.ownBlock = some g -> ∀ q, L' g q) : RepV w L' (.sl l) v := by
 obtain ⟨css, sz, h1, h2, h3, h4, h5⟩ := h; rcases h4.2 with ⟨hv, hn⟩ | ⟨g, cap, cur, hv, hh, hnc, hcm, hsz, ht⟩
 . subst hv; have hl : l = [] := eq_nil_of_length_eq_zero hn; subst hl; exact a5E
 . subst hv; refine ⟨?_, rfl⟩; simp only [Rep]; refine ⟨some ⟨g, 0, none⟩, cap, css, sz, rfl, A8.mono hx _ _ h2, h3, hnc, fun _ => ⟨g, 0, rfl, fun k u hk => ?_⟩⟩; have hk1 := hk; rw [<- ht, getElem?_take] at hk1; split at hk1
   . refine ⟨?_, hl g rfl _⟩; simp only [World.cell?, hh]; simpa using hk1
   . cases hk1
def a9x (σ : St) (tm : Nat -> Value) (b : Nat) : Prop := ∃ j e l, σ j = .own true e l /\ (tm j).ownBlock = some b
theorem b5j (hR : Rel P w0 L0 row w L O σ (C6 a)) (hx : Ext w L w L') (hl : ∀ b, a9x σ (C6 a) b -> ∀ q, L' b q) : ∀ (xs : List Operand) (xa : List AV), a1u σ xs = some xa -> RCs P w L' none xa (xs.map a.eval)
 | [], xa, h => by simp only [a1u, Option.some.injEq] at h; subst h; simp [RCs]
 | x :: xs, xa, h => by
   simp only [a1u] at h; split at h
   . rename_i y ys hy hys
     simp only [Option.some.injEq] at h; subst h; simp only [map_cons, RCs]; refine ⟨_, _, rfl, ?_, b5j hR hx hl xs ys hys⟩; simp only [b3N] at hy; have h1 := I7 hR x; have other : ∀ z, A6 σ x = z -> (asD z).map AV.d = some y -> RC P w L' none y (a.eval x) := by
       intro z hz h2; simp only [Option.map_eq_some_iff] at h2; obtain ⟨u, hu, rfl⟩ := h2; have := N4 hR (x := x) (by rw [hz]; exact hu); simpa only [RC] using this.mono hx
     split at hy
     . rename_i j e l hxv
       simp only [Option.some.injEq] at hy; subst hy; rw [hxv] at h1; obtain ⟨h2, h3⟩ := h1; have h4 := hR.slots j; rw [h2] at h4; have h4' : F0 P w L (O j) true e l (C6 a j) := h4; rw [h3]; simp only [RC]; exact h4'.lend hx (fun g hg => hl g ⟨j, e, l, h2, hg⟩)
     . exact other _ rfl hy
   . cases h
section
variable (hd : o.dst = some d) (hlt : d < n) (hsz : a.tmps.size = n) (hdef : a.defers = []) (hR : Rel P w0 L0 row w L O σ (C6 a))
include hd hlt hsz hdef hR
theorem b0H {f : Operand} {args : Array Operand} {ts : Array TypeId} (ho : o.op = .call { callee := .value f, args, argTypes := ts }) {g : FuncId} {caps : List D} (hf : A6 σ f = .d (.clo g caps)) (hc : ∀ c ∈ caps, c.isAgg = false)
   {xa : List AV} (ha : a1u σ args.toList = some xa) {y : D} (hy : a3M y = true) (hfn : Ctr P g (xa ++ caps.map .d) (.d y)) (h : K (put σ d (.d y))) :
   o.wp P a w (D4 P w0 L0 row n K) Q := by
 obtain ⟨css, hcs, hfv⟩ := a2k (H3 hR hf); have hexec : (execOp a.eval o).run P w = .ok (.enter g (args.map a.eval ++ css.flatten.toArray)) w := by
   simp only [execOp, ho, resolve, hfv, Deferred.ofValue, Sem.run_bind, Sem.run_pure, Result.andThen_ok, invoke, Array.empty_append, hfn.1 _ w]
 have hvals : (args.map a.eval ++ css.flatten.toArray) = (args.toList.map a.eval ++ css.flatten).toArray := by
   apply Array.ext'; simp
 unfold Oper.wp; rw [hexec, Oper.upon_enter, hvals]; have hlent : ∀ b, a9x σ (C6 a) b -> b < w.heap.size /\ ∀ q, ¬ L b q := by
   rintro b ⟨j, e, l, hj, hb⟩; have h4 := hR.slots j; rw [hj] at h4; obtain ⟨_, _, _, _, _, _, g5⟩ : F0 P w L (O j) true e l (C6 a j) := h4; have h5 := g5 b hb; exact ⟨(hR.olt j b h5.1).1, fun q hq => by have := (h5.2 q).1 hq; simp at this⟩
 have hext : Ext w L w (fun b q => L b q \/ a9x σ (C6 a) b) := fun b q hq => ⟨.inl hq, fun _ hv => hv⟩
 refine (hfn.2 w (fun b q => L b q \/ a9x σ (C6 a) b) none _ (fun b q hq => hq.elim (hR.lok b q) (fun h => (hlent b h).1)) (hR.gl.mono hext) (by simp) (RCs.append (b5j hR hext (fun b hb q => .inr hb) args.toList xa ha) (a1g (A8.mono hext _ _ hcs) hc none))).mono ?_; rintro e w' ⟨v, L', og', rfl, hgr, hlok', hold', hog', hrc⟩
 show D4 P w0 L0 row n K (a.put o.dst v) w'
 have hgr' : F7 w w' noB := hgr.sub (fun b hb => by simp [H1] at hb); have hL : ∀ b q, b < w.heap.size -> ((L' b q /\ ¬ a9x σ (C6 a) b) ↔ L b q) := by
   intro b q hb; have := hold' b q hb (by simp [H1]); rw [this]; constructor
   . rintro ⟨h1 | h1, h2⟩
     . exact h1
     . exact absurd h1 h2
   . intro h1; exact ⟨.inl h1, fun h2 => (hlent b h2).2 q h1⟩
 have hS : H4 w L w' (fun b q => L' b q /\ ¬ a9x σ (C6 a) b) noB := by
   refine ⟨fun b q hq => ?_, fun b hb hne => hgr'.block b hb hne, fun b q hb _ => hL b q hb⟩; have hb := hR.lok b q hq; refine ⟨(hL b q hb).2 hq, fun u hu => ?_⟩; rw [J4 (hgr'.block b hb id)]; exact hu
 have hrv : RepV w' L' y v := hrc; refine ⟨fun b q => L' b q /\ ¬ a9x σ (C6 a) b, E4 O d none, put σ d (.d y), ?_, ?_, ?_, h⟩
 . rw [hd, a1s (by omega)]; exact hR.putOwn d (.d y) v none noB hS (hR.grown.then hgr' (fun _ h => h.elim)) hgr.size (fun b q hq => hlok' b q hq.1) (fun _ h => h.elim) (fun _ _ _ _ h => h) (by simp) (by simpa only [F5, RA, RC] using a9s hy hrv)
 . rw [hd]; simpa [Act.put] using hdef
 . rw [hd]; simpa [Act.put] using hsz
theorem b7f {f x : Operand} {xs : List Operand} {args : Array Operand} {ts : Array TypeId} (ho : o.op = .call { callee := .value f, args, argTypes := ts }) (hargs : args.toList = x :: xs) {g : FuncId} {caps : List D} (hf : A6 σ f = .d (.clo g caps)) (hc : ∀ c ∈ caps, c.isAgg = false)
   {j : Nat} {e : TypeId} {l l' : List D} (hj : N8 (σ j) = some (e, l)) (hx : a.eval x = Y9 (σ j) (C6 a j)) {xa : List AV} (ha : W5 σ xs = some xa) (hfn : a5Z P g e l (xa ++ caps.map .d) l') (h : K (put (put σ j (a1Q e l' (σ j))) d (.tup []))) :
   o.wp P a w (D4 P w0 L0 row n K) Q := by
 obtain ⟨css, hcs, hfv⟩ := a2k (H3 hR hf); have hexec : (execOp a.eval o).run P w = .ok (.enter g (args.map a.eval ++ css.flatten.toArray)) w := by
   simp only [execOp, ho, resolve, hfv, Deferred.ofValue, Sem.run_bind, Sem.run_pure, Result.andThen_ok, invoke, Array.empty_append, hfn.1 _ w]
 have hvals : (args.map a.eval ++ css.flatten.toArray) = (a.eval x :: (xs.map a.eval ++ css.flatten)).toArray := by
   apply Array.ext'; simp [hargs]
 unfold Oper.wp; rw [hexec, Oper.upon_enter, hvals, hx]; have hV := hR.owned hj; generalize hVe : Y9 (σ j) (C6 a j) = V at hV; refine (hfn.2 w L V.ownBlock _ _ hR.lok hR.gl hV.self (RCs.append (a4u hR xs xa ha) (a1g hcs hc none))).mono ?_; rintro e' w' ⟨L', rfl, hgr, hlok', hold', hown⟩
 show D4 P w0 L0 row n K (a.put o.dst (.tuple #[])) w'
 have hO : ∀ b, H1 V.ownBlock b -> O j = some b := fun b hb => (hV.blk hb).1
 have hext : H4 w L w' L' (H1 V.ownBlock) := by
   refine ⟨fun b q hq => ?_, fun b hb hne => hgr.block b hb hne, fun b q hb hne => hold' b q hb hne⟩; have hb := hR.lok b q hq; have hbj : ¬ H1 V.ownBlock b := fun hb => (hV.blk hb).2 q hq
   refine ⟨(hold' b q hb hbj).2 hq, fun u hu => ?_⟩; rw [J4 (hgr.block b hb hbj)]; exact hu
 have hj1 := hR.putOwn j (a1Q e l' (σ j)) (C6 a j) (O j) (H1 V.ownBlock) hext (hR.grown.then hgr (fun b hb => (hR.olt j b (hO b hb)).2)) hgr.size hlok' (fun b hb => (hR.olt j b (hO b hb)).2) (fun i b hi hi2 e => hi (hR.inj i j b hi2 (hO b e)))
   (fun b hb => ⟨Nat.lt_of_lt_of_le (hR.olt j b hb).1 hgr.size, (hR.olt j b hb).2, fun i hi e => hi (hR.inj i j b e hb)⟩) (b2l hj (by rw [hVe]; exact hown.lift (fun g hg => by simpa [E4] using hO g hg)) j)
 rw [O0] at hj1; refine ⟨L', E4 (E4 O j (O j)) d none, put (put σ j (a1Q e l' (σ j))) d (.tup []), ?_, ?_, ?_, h⟩
 . rw [hd, a1s (by omega)]; exact hj1.putPure d (.tup []) (.tuple #[]) ⟨[], rfl, rfl⟩
 . rw [hd]; simpa [Act.put] using hdef
 . rw [hd]; simpa [Act.put] using hsz
theorem c2O {f x : Operand} {xs : List Operand} {args : Array Operand} {ts : Array TypeId} (ho : o.op = .call { callee := .value f, args, argTypes := ts }) (hargs : args.toList = x :: xs) {g : FuncId} {caps : List D} (hf : A6 σ f = .d (.clo g caps)) (hc : ∀ c ∈ caps, c.isAgg = false)
   {j : Nat} {e e' : TypeId} {l l' : List D} {u : Value} (hx : A6 σ x = .d (.raw u)) (hj : σ j = .hs u e l) {xa : List AV} (ha : W5 σ xs = some xa) (hfn : Ctr P g (.own true e l :: (xa ++ caps.map .d)) (.own true e' l'))
   (h : ∀ A c, K (put (put σ j (.hs (.slice A l'.length c) e' l')) d (.d (.raw (.slice A l'.length c))))) :
   o.wp P a w (D4 P w0 L0 row n K) Q := by
 obtain ⟨css, hcs, hfv⟩ := a2k (H3 hR hf); have hexec : (execOp a.eval o).run P w = .ok (.enter g (args.map a.eval ++ css.flatten.toArray)) w := by
   simp only [execOp, ho, resolve, hfv, Deferred.ofValue, Sem.run_bind, Sem.run_pure, Result.andThen_ok, invoke, Array.empty_append, hfn.1 _ w]
 have hvals : (args.map a.eval ++ css.flatten.toArray) = (a.eval x :: (xs.map a.eval ++ css.flatten)).toArray := by
   apply Array.ext'; simp [hargs]
 unfold Oper.wp; rw [hexec, Oper.upon_enter, hvals, (H3 hR hx).raw_inv]; have h4 := hR.slots j; rw [hj] at h4; have hV : F0 P w L (O j) true e l u := h4; have hO : ∀ b, u.ownBlock = some b -> O j = some b := fun b hb => (hV.blk hb).1
 have hrest := RCs.append (a4u hR xs xa ha) (a1g hcs hc none); have hargs' : RCs P w L u.ownBlock (.own true e l :: (xa ++ caps.map .d)) (u :: (xs.map a.eval ++ css.flatten)) := by
   simp only [RCs]; refine ⟨_, _, rfl, by simpa only [RC] using hV.self, ?_⟩; have lift : ∀ (xs : List AV) (vs : List Value), (∀ x ∈ xs, ∃ y, x = .d y) -> RCs P w L none xs vs -> RCs P w L u.ownBlock xs vs := by
     intro xs
     induction xs with
     | nil => intro vs _ h; simpa [RCs] using h
     | cons x xs ih =>
       intro vs hx h; simp only [RCs] at h ⊢; obtain ⟨v, us, rfl, h1, h2⟩ := h; obtain ⟨y, rfl⟩ := hx x (by simp); exact ⟨v, us, rfl, by simpa only [RC] using h1, ih us (fun z hz => hx z (by simp [hz])) h2⟩
   refine lift _ _ (fun z hz => ?_) hrest; rcases mem_append.1 hz with hz | hz
   . have pl : ∀ (xs : List Operand) (xa : List AV), W5 σ xs = some xa -> ∀ z ∈ xa, ∃ y, z = .d y := by
       intro xs
       induction xs with
       | nil => intro xa h z hz; simp only [W5, Option.some.injEq] at h; subst h; simp at hz
       | cons x xs ih =>
         intro xa h z hz; simp only [W5] at h; split at h
         . rename_i y ys hy hys
           simp only [Option.some.injEq] at h; subst h; rcases mem_cons.1 hz with hz | hz
           . exact ⟨y, hz⟩
           . exact ih ys hys z hz
         . cases h
     exact pl _ _ ha z hz
   . obtain ⟨y, _, rfl⟩ := mem_map.1 hz; exact ⟨y, rfl⟩
 refine (hfn.2 w L u.ownBlock _ hR.lok hR.gl (fun b hb => ⟨(hR.olt j b (hO b hb)).1, (hV.blk hb).2⟩) hargs').mono ?_; rintro e1 w' ⟨v, L', og', rfl, hgr, hlok', hold', hog', hrc⟩
 show D4 P w0 L0 row n K (a.put o.dst v) w'
 have hrc' : F0 P w' L' og' true e' l' v := hrc; have hext : H4 w L w' L' (H1 u.ownBlock) := by
   refine ⟨fun b q hq => ?_, fun b hb hne => hgr.block b hb hne, fun b q hb hne => hold' b q hb hne⟩; have hb := hR.lok b q hq; have hbj : ¬ H1 u.ownBlock b := fun hb => (hV.blk hb).2 q hq
   refine ⟨(hold' b q hb hbj).2 hq, fun u hu => ?_⟩; rw [J4 (hgr.block b hb hbj)]; exact hu
 have hj1 := hR.putOwn j (.hs v e' l') (C6 a j) og' (H1 u.ownBlock) hext (hR.grown.then hgr (fun b hb => (hR.olt j b (hO b hb)).2)) hgr.size hlok' (fun b hb => (hR.olt j b (hO b hb)).2) (fun i b hi hi2 e => hi (hR.inj i j b hi2 (hO b e)))
   (fun b hb => by
     refine ⟨(hog' b hb).1, ?_, fun i hi e => ?_⟩
     . rcases (hog' b hb).2 with h9 | h9
       . exact .inl (Nat.le_trans hR.grown.size h9)
       . exact (hR.olt j b (hO b h9)).2
     . rcases (hog' b hb).2 with h9 | h9
       . have := (hR.olt i b e).1; omega
       . exact hi (hR.inj i j b e (hO b h9))) hrc'
 rw [O0] at hj1; obtain ⟨A, c, rfl⟩ := hrc'.shape; refine ⟨L', E4 (E4 O j og') d none, _, ?_, ?_, ?_, h A c⟩
 . rw [hd, a1s (by omega)]; exact hj1.putPure d (.d (.raw _)) _ (RepV.raw (by simp [Value.oneCell']) rfl)
 . rw [hd]; simpa [Act.put] using hdef
 . rw [hd]; simpa [Act.put] using hsz
end
def C9 : AV -> Option Nat
 | .hs u _ _ => u.ownBlock
 | .hb (.pointer (some ad)) _ _ => some ad.block
 | .hm (.map (some g)) _ _ _ => some g
 | _ => none
def isH : AV -> Bool
 | .hs _ _ _ => true
 | .hb _ _ _ => true
 | .hm _ _ _ _ => true
 | _ => false
def RH (P : Program) (w : World) (L : Nat -> Nat -> Prop) (x : AV) : Prop := isH x = true /\ RC P w L (C9 x) x undef
def J6 : List (Option Nat) -> Prop
 | [] => True
 | x :: xs => (∀ g, x = some g -> some g ∉ xs) /\ J6 xs
def G1 (P : Program) (f : FuncId) (args hs : List AV) (Post : AV -> List AV -> Prop) : Prop :=
 Enters P f /\ ∀ (w : World) (L : Nat -> Nat -> Prop) (vals : List Value), (∀ b q, L b q -> b < w.heap.size) -> GL P w L -> RCs P w L none args vals -> (∀ x ∈ hs, RH P w L x) -> J6 (hs.map C9) ->
   Calls P f vals.toArray w fun e w' => ∃ v L' og r hs', e = .returned v /\ F7 w w' (fun b => some b ∈ hs.map C9) /\ (∀ b q, L' b q -> b < w'.heap.size) /\ (∀ b q, b < w.heap.size -> some b ∉ hs.map C9 -> (L' b q ↔ L b q)) /\
     (∀ g, some g ∈ og :: hs'.map C9 -> g < w'.heap.size /\ (w.heap.size <= g \/ some g ∈ hs.map C9)) /\ J6 (og :: hs'.map C9) /\ RC P w' L' og r v /\ (∀ x ∈ hs', RH P w' L' x) /\ Post r hs'
def E7 (σ : St) : List Nat -> Nat -> List AV -> St
 | _, _, [] => σ
 | k :: ks, b, x :: xs => E7 (put σ k x) ks b xs
 | [], b, x :: xs => E7 (put σ b x) [] (b + 1) xs
theorem RH.step {touch : Nat -> Prop} {x : AV} (hs : H4 w L w' L' touch) (hog : ∀ g, C9 x = some g -> g < w.heap.size /\ ¬ touch g) (h : RH P w L x) : RH P w' L' x := ⟨h.1, h.2.step hs hog⟩
theorem Rel.putName (h : Rel P w0 L0 row w L O σ tm) (k : Nat) (x : AV) (hx : RH P w L x) (hb : ∀ g, C9 x = some g -> g < w.heap.size /\ (w0.heap.size <= g \/ row g) /\ ∀ i, i ≠ k -> O i ≠ some g) : Rel P w0 L0 row w L (E4 O k (C9 x)) (put σ k x) tm := by
 have := h.putOwn k x (tm k) (C9 x) noB (H4.refl w L _) h.grown (Nat.le_refl _) h.lok (fun _ h => h.elim) (fun _ _ _ _ h => h) hb (by
   obtain ⟨h1, h2⟩ := hx; cases x <;> simp [isH] at h1 <;> exact h2)
 rwa [O0] at this
theorem Rel.putNames : ∀ (xs : List AV) (ks : List Nat) (b : Nat) {O : Nat -> Option Nat} {σ : St}, Rel P w0 L0 row w L O σ tm -> (∀ x ∈ xs, RH P w L x) -> J6 (xs.map C9) ->
   (∀ g, some g ∈ xs.map C9 -> g < w.heap.size /\ (w0.heap.size <= g \/ row g) /\ ∀ i, O i ≠ some g) -> ∃ O', Rel P w0 L0 row w L O' (E7 σ ks b xs) tm
 | [], ks, b, O, σ, h, _, _, _ => ⟨O, by cases ks <;> exact h⟩
 | x :: xs, k :: ks, b, O, σ, h, hx, ha, hb => by
   have h1 := h.putName k x (hx x (by simp)) (fun g hg => by have := hb g (by simp [hg]); exact ⟨this.1, this.2.1, fun i _ => this.2.2 i⟩); refine Rel.putNames xs ks b h1 (fun y hy => hx y (by simp [hy])) ha.2 (fun g hg => ?_); have := hb g (by simp only [map_cons, mem_cons]; exact .inr hg); refine ⟨this.1, this.2.1, fun i hi => ?_⟩; simp only [E4] at hi; split at hi
   . exact ha.1 g hi hg
   . exact this.2.2 i hi
 | x :: xs, [], b, O, σ, h, hx, ha, hb => by
   have h1 := h.putName b x (hx x (by simp)) (fun g hg => by have := hb g (by simp [hg]); exact ⟨this.1, this.2.1, fun i _ => this.2.2 i⟩); refine Rel.putNames xs [] (b + 1) h1 (fun y hy => hx y (by simp [hy])) ha.2 (fun g hg => ?_); have := hb g (by simp only [map_cons, mem_cons]; exact .inr hg); refine ⟨this.1, this.2.1, fun i hi => ?_⟩; simp only [E4] at hi; split at hi
   . exact ha.1 g hi hg
   . exact this.2.2 i hi
theorem RC.self {og : Option Nat} {x : AV} (hx : isH x = true) {v : Value} (h : RC P w L og x v) : RH P w L x /\ ∀ g, C9 x = some g -> og = some g := by
 cases x <;> simp [isH] at hx
 case hs u e l =>
   have h' : F0 P w L og true e l u := h; exact ⟨⟨rfl, h'.self⟩, fun g hg => (h'.blk hg).1⟩
 case hb u e y =>
   obtain ⟨g, C, h1, h2, h3⟩ : Y4 w L og e y u := h; subst h2; exact ⟨⟨rfl, ⟨g, C, rfl, rfl, h3⟩⟩, fun g' hg' => by simp only [C9, ptr] at hg'; rw [<- hg']; exact h1⟩
 case hm u kt m E =>
   obtain ⟨g, m', es, clk, h1, h2, h3⟩ : a2a P w L og kt m E u := h; subst h2; exact ⟨⟨rfl, ⟨g, m', es, clk, rfl, rfl, h3⟩⟩, fun g' hg' => by simp only [C9] at hg'; rw [<- hg']; exact h1⟩
def D8 (σ : St) : List Nat -> St
 | [] => σ
 | k :: ks => D8 (put σ k .undef) ks
theorem Rel.takeH : ∀ (ks : List Nat) {O : Nat -> Option Nat} {σ : St}, Rel P w0 L0 row w L O σ tm -> (∀ k ∈ ks, isH (σ k) = true) -> ks.Nodup ->
   (∀ x ∈ ks.map σ, RH P w L x) /\ J6 ((ks.map σ).map C9) /\ ∃ O', Rel P w0 L0 row w L O' (Vw.D8 σ ks) tm /\ (∀ i g, O' i = some g -> O i = some g) /\
     ∀ g, some g ∈ (ks.map σ).map C9 -> (w0.heap.size <= g \/ row g) /\ g < w.heap.size /\ (∀ q, ¬ L g q) /\ (∀ i, O' i ≠ some g) /\ ∃ k ∈ ks, O k = some g
 | [], O, σ, h, _, _ => ⟨by simp, trivial, O, h, fun _ _ h => h, by simp⟩
 | k :: ks, O, σ, h, hH, hn => by
   have hk := hH k (by simp); have hs := h.slots k; have hrc : RC P w L (O k) (σ k) (tm k) := by
     cases hx : σ k <;> rw [hx] at hs hk <;> simp [isH] at hk <;> exact hs
   obtain ⟨r1, r2⟩ := hrc.self hk; have h1 := h.forget k; rw [nodup_cons] at hn; have hsame : ∀ i ∈ ks, put σ k .undef i = σ i := fun i hi => by
     have hne : i ≠ k := fun e => hn.1 (e ▸ hi)
     have hHi := hH i (by simp [hi]); simp only [put, if_neg hne]; cases hx : σ i <;> rw [hx] at hHi <;> simp [isH] at hHi <;> rfl
   have hmap : ks.map (put σ k .undef) = ks.map σ := map_congr_left hsame; obtain ⟨q1, q2, O', q3, q4, q5⟩ := Rel.takeH ks h1 (fun i hi => by rw [hsame i hi]; exact hH i (by simp [hi])) hn.2; rw [hmap] at q1 q2 q5; have q4' : ∀ i g, O' i = some g -> O i = some g /\ i ≠ k := fun i g hi => by
     have := q4 i g hi; simp only [E4] at this; split at this
     . cases this
     . exact ⟨this, by assumption⟩
   have hLk : ∀ g, C9 (σ k) = some g -> ∀ q, ¬ L g q := by
     intro g hg; cases hx : σ k <;> rw [hx] at hk hg hrc <;> simp [isH] at hk
     case hs u e l => exact ((show F0 P w L (O k) true e l u from hrc).blk hg).2
     case hb u e y =>
       obtain ⟨g', C, e1, e2, e3, e4, e5⟩ : Y4 w L (O k) e y u := hrc; subst e2; simp only [C9, ptr, Option.some.injEq] at hg; subst hg; exact e5
     case hm u kt m E =>
       obtain ⟨g', m', es, clk, e1, e2, e3, e4, e5⟩ : a2a P w L (O k) kt m E u := hrc; subst e2; simp only [C9, Option.some.injEq] at hg; subst hg; exact e4
   refine ⟨?_, ⟨?_, q2⟩, O', q3, fun i g hi => (q4' i g hi).1, ?_⟩
   . intro x hx; simp only [map_cons, mem_cons] at hx; rcases hx with rfl | hx
     . exact r1
     . exact q1 x hx
   . intro g hg hm; obtain ⟨_, _, _, _, k', hk', hO'⟩ := q5 g hm; simp only [E4] at hO'; split at hO'
     . cases hO'
     . rename_i hne
       exact hne (h.inj k' k g hO' (r2 g hg))
   . intro g hg; simp only [map_cons, mem_cons] at hg; rcases hg with hg | hg
     . have e1 := r2 g hg.symm; exact ⟨(h.olt k g e1).2, (h.olt k g e1).1, hLk g hg.symm, fun i hi => (q4' i g hi).2 (h.inj i k g (q4' i g hi).1 e1), k, by simp, e1⟩
     . obtain ⟨e1, e2, e3, e4, k', hk', e5⟩ := q5 g hg; simp only [E4] at e5; split at e5
       . cases e5
       . exact ⟨e1, e2, e3, e4, k', by simp [hk'], e5⟩
section
variable (hd : o.dst = some d) (hlt : d < n) (hsz : a.tmps.size = n) (hdef : a.defers = []) (hR : Rel P w0 L0 row w L O σ (C6 a))
include hd hlt hsz hdef hR
theorem c5l {f : Operand} {args : Array Operand} {ts : Array TypeId} (ho : o.op = .call { callee := .value f, args, argTypes := ts }) {g : FuncId} {caps : List D} (hf : A6 σ f = .d (.clo g caps)) (hc : ∀ c ∈ caps, c.isAgg = false)
   {xa : List AV} (ha : W5 σ args.toList = some xa) (ks : List Nat) (hks : ∀ k ∈ ks, isH (σ k) = true) (hnd : ks.Nodup) (b : Nat) {Post : AV -> List AV -> Prop} (hfn : G1 P g (xa ++ caps.map .d) (ks.map σ) Post)
   (h : ∀ r hs', Post r hs' -> K (E7 (put (D8 σ ks) d r) ks b hs')) :
   o.wp P a w (D4 P w0 L0 row n K) Q := by
 obtain ⟨css, hcs, hfv⟩ := a2k (H3 hR hf); have hexec : (execOp a.eval o).run P w = .ok (.enter g (args.map a.eval ++ css.flatten.toArray)) w := by
   simp only [execOp, ho, resolve, hfv, Deferred.ofValue, Sem.run_bind, Sem.run_pure, Result.andThen_ok, invoke, Array.empty_append, hfn.1 _ w]
 have hvals : (args.map a.eval ++ css.flatten.toArray) = (args.toList.map a.eval ++ css.flatten).toArray := by
   apply Array.ext'; simp
 unfold Oper.wp; rw [hexec, Oper.upon_enter, hvals]; obtain ⟨t1, t2, O1, t3, t4, t5⟩ := hR.takeH ks hks hnd; refine (hfn.2 w L _ hR.lok hR.gl (RCs.append (a4u hR _ xa ha) (a1g hcs hc none)) t1 t2).mono ?_; rintro e w' ⟨v, L', og, r, hs', rfl, hgr, hlok', hold', hog', hap, hrc, hrh, hpost⟩
 show D4 P w0 L0 row n K (a.put o.dst v) w'
 have hS : H4 w L w' L' (fun b => some b ∈ (ks.map σ).map C9) := by
   refine ⟨fun b q hq => ?_, fun b hb hne => hgr.block b hb hne, fun b q hb hne => hold' b q hb hne⟩; have hb := hR.lok b q hq; have hbj : some b ∉ (ks.map σ).map C9 := fun hb => (t5 b hb).2.2.1 q hq
   refine ⟨(hold' b q hb hbj).2 hq, fun u hu => ?_⟩; rw [J4 (hgr.block b hb hbj)]; exact hu
 have hfresh : ∀ g, some g ∈ og :: hs'.map C9 -> g < w'.heap.size /\ (w0.heap.size <= g \/ row g) /\ ∀ i, O1 i ≠ some g := fun g hg => by
   have := hog' g hg; refine ⟨this.1, ?_, fun i hi => ?_⟩
   . rcases this.2 with h9 | h9
     . exact .inl (Nat.le_trans hR.grown.size h9)
     . exact (t5 g h9).1
   . rcases this.2 with h9 | h9
     . have := (t3.olt i g hi).1; omega
     . exact (t5 g h9).2.2.2.1 i hi
 have h1 := t3.putOwn d r v og _ hS (hR.grown.then hgr (fun b hb => (t5 b hb).1)) hgr.size hlok' (fun b hb => (t5 b hb).1) (fun i b _ hi hb => (t5 b hb).2.2.2.1 i hi) (fun g hg => by
   have := hfresh g (by simp [hg]); exact ⟨this.1, this.2.1, fun i _ => this.2.2 i⟩) (RC.toRA hrc _ _ _ _)
 obtain ⟨O2, h2⟩ := Rel.putNames hs' ks b h1 hrh hap.2 (fun g hg => by
   have := hfresh g (by simp only [mem_cons]; exact .inr hg); refine ⟨this.1, this.2.1, fun i hi => ?_⟩; simp only [E4] at hi; split at hi
   . exact hap.1 g hi hg
   . exact this.2.2 i hi)
 refine ⟨L', O2, _, ?_, ?_, ?_, h r hs' hpost⟩
 . rw [hd, a1s (by omega)]; exact h2
 . rw [hd]; simpa [Act.put] using hdef
 . rw [hd]; simpa [Act.put] using hsz
end
mutual
inductive Fz (hs : List AV) : D -> D -> Prop
 | same (d : D) : Fz hs d d
 | sl {u : Value} {e : TypeId} {l : List D} : AV.hs u e l ∈ hs -> Fz hs (.raw u) (.sl l)
 | nil : Fz hs (.raw (.slice none 0 0)) (.sl [])
 | agg {ds ds' : List D} : FzL hs ds ds' -> Fz hs (.agg ds) (.agg ds')
inductive FzL (hs : List AV) : List D -> List D -> Prop
 | nil : FzL hs [] []
 | cons {d d' : D} {ds ds' : List D} : Fz hs d d' -> FzL hs ds ds' -> FzL hs (d :: ds) (d' :: ds')
end
theorem FzL.len {hs : List AV} : ∀ {ds ds' : List D}, FzL hs ds ds' -> ds.length = ds'.length
 | _, _, .nil => rfl
 | _, _, .cons _ h => by simp [h.len]
def a5c (P : Program) (L : Nat -> Nat -> Prop) (hs : List AV) : Nat -> Nat -> Prop := fun b o => L b o \/ ∃ u e l sz, AV.hs u e l ∈ hs /\ u.ownBlock = some b /\ (P.info? (ety e)).map (·.size) = some sz /\ o < l.length * sz
theorem a3s (hs : List AV) : Ext w L w (a5c P L hs) := fun _ _ h => ⟨.inl h, fun _ h => h⟩
theorem b1Z : ∀ {hs : List AV}, J6 (hs.map C9) -> ∀ {x y : AV}, x ∈ hs -> y ∈ hs -> ∀ {g : Nat}, C9 x = some g -> C9 y = some g -> x = y
 | [], _, x, _, hx, _, _, _, _ => by simp at hx
 | z :: hs, h, x, y, hx, hy, g, h1, h2 => by
   rcases mem_cons.1 hx with rfl | hx2
   . rcases mem_cons.1 hy with rfl | hy2
     . rfl
     . exact absurd (mem_map.2 ⟨y, hy2, h2⟩) (h.1 g h1)
   . rcases mem_cons.1 hy with rfl | hy2
     . exact absurd (mem_map.2 ⟨x, hx2, h1⟩) (h.1 g h2)
     . exact b1Z h.2 hx2 hy2 h1 h2
theorem c2f {hs : List AV} (hr : ∀ x ∈ hs, RH P w L x) (ha : J6 (hs.map C9)) {u : Value} {e : TypeId} {l : List D} (hm : AV.hs u e l ∈ hs) : RepV w (a5c P L hs) (.sl l) u := by
 obtain ⟨css, sz, h1, h2, h3, h4, h5⟩ : F0 P w L u.ownBlock true e l u := (hr _ hm).2; refine F0.at_ (P := P) (og := u.ownBlock) (e := e) ⟨css, sz, h1, A8.mono (a3s hs) _ _ h2, h3, h4, fun g hg => ⟨hg, fun o => ⟨fun hL => ⟨rfl, ?_⟩, fun h => ?_⟩⟩⟩
 . rcases hL with hL | ⟨u', e', l', sz', hm', hb', hs', ho'⟩
   . exact absurd (((h5 g hg).2 o).1 hL).1 (by simp)
   . have := b1Z ha hm hm' (g := g) hg hb'; simp only [AV.hs.injEq] at this; obtain ⟨rfl, rfl, rfl⟩ := this; rw [h1] at hs'; simp only [Option.some.injEq] at hs'; subst hs'; exact ho'
 . exact .inr ⟨u, e, l, sz, hm, hg, h1, h.2⟩
mutual
theorem Rep.fz {hs : List AV} (hr : ∀ x ∈ hs, RH P w L x) (ha : J6 (hs.map C9)) : ∀ {d d' : D} {cs : List Value}, Fz hs d d' -> Rep w L d cs -> Rep w (a5c P L hs) d' cs
 | _, _, _, .same d, h => Rep.mono (a3s hs) _ _ h
 | _, _, _, .sl hm, h => by
   simp only [Rep] at h; obtain ⟨rfl, h2, h3⟩ := h; exact (c2f hr ha hm).cell rfl
 | _, _, _, .nil, h => by
   simp only [Rep] at h; obtain ⟨rfl, _, _⟩ := h; exact a5E.cell rfl
 | _, _, _, .agg hL, h => by
   simp only [Rep] at h ⊢; obtain ⟨css, h1, h2⟩ := h; exact ⟨css, A8.fz hr ha hL h1, h2⟩
theorem A8.fz {hs : List AV} (hr : ∀ x ∈ hs, RH P w L x) (ha : J6 (hs.map C9)) : ∀ {ds ds' : List D} {css : List (List Value)}, FzL hs ds ds' -> A8 w L ds css -> A8 w (a5c P L hs) ds' css
 | _, _, _, .nil, h => h
 | _, _, _, .cons h1 h2, h => by
   simp only [A8] at h ⊢; obtain ⟨c, cs, e, h3, h4⟩ := h; exact ⟨c, cs, e, Rep.fz hr ha h1 h3, A8.fz hr ha h2 h4⟩
end
section
variable (hd : o.dst = some d) (hlt : d < n) (hsz : a.tmps.size = n) (hdef : a.defers = []) (hR : Rel P w0 L0 row w L O σ (C6 a))
include hd hlt hsz hdef hR
end
end Go.Vw
namespace Go.Vw
open Go.RowKit Go.Proofs
def M6 (m : List (D × D)) (k : D) : Option D := (m.find? fun p => I4 p.1 k).map (·.2)
def S1 (m : List (D × D)) (k v : D) : List (D × D) := if m.any (fun p => I4 p.1 k) then m.map (fun p => if I4 p.1 k then (p.1, v) else p) else m ++ [(k, v)]
variable {P : Program} {w0 : World} {L0 : Nat -> Nat -> Prop} {row : Nat -> Prop} {n : Nat} {K : St -> Prop} {Q : Exit -> Act -> World -> Prop}
 {w w' : World} {L L' : Nat -> Nat -> Prop} {O O' : Nat -> Option Nat} {σ σ' : St} {a : Act} {o : Oper} {d : Nat} {v : Value} {tm : Nat -> Value}
theorem a8e {x y : D} (h : Y8 x y = true) : x = y := by
 unfold Y8 at h; split at h <;> simp_all
theorem b1b : ∀ {x y : List D}, a0y x y = true -> x = y
 | [], [], _ => rfl
 | x :: xs, y :: ys, h => by
   simp only [a0y, Bool.and_eq_true] at h; rw [a8e h.1, b1b h.2]
 | [], _ :: _, h => by simp [a0y] at h
 | _ :: _, [], h => by simp [a0y] at h
theorem a7E : ∀ {x y : List D}, U6 x y = true -> x = y
 | [], [], _ => rfl
 | x :: xs, y :: ys, h => by
   unfold U6 at h; split at h
   . rename_i e _; cases e
   . rename_i a xs' b ys' e1 e2
     simp only [List.cons.injEq] at e1 e2; obtain ⟨rfl, rfl⟩ := e1; obtain ⟨rfl, rfl⟩ := e2; simp only [Bool.and_eq_true] at h; rw [b1b h.1, a7E h.2]
   . rename_i x' xs' y' ys' _ e1 e2
     simp only [List.cons.injEq] at e1 e2; obtain ⟨rfl, rfl⟩ := e1; obtain ⟨rfl, rfl⟩ := e2; simp only [Bool.and_eq_true] at h; rw [a8e h.1, a7E h.2]
   . cases h
 | [], _ :: _, h => by simp [U6] at h
 | _ :: _, [], h => by simp [U6] at h
theorem a1k {x y : D} (h : I4 x y = true) : x = y := by
 unfold I4 at h; split at h
 . rw [a7E h]
 . exact a8e h
theorem a8x {u : Option TypeDesc} {x y : D} (hx : Q5 u x = true) (hy : Q5 u y = true) : a0F u x y = true := by
 unfold Q5 at hx; split at hx
 . cases y <;> simp_all [Q5, a0F]
 . cases y <;> simp_all [Q5, a0F]
 . cases y <;> simp_all [Q5, a0F]
 . cases hx
theorem a9K {u : Option TypeDesc} {x y : D} (h : a0F u x y = true) : J9 [x] [y] = Y8 x y := by
 unfold a0F at h; split at h
 . simp [J9, Y8]
 . simp [J9, Y8]
 . simp_all [J9, Y8]
 . cases h
theorem a3p {f : Field} {fs : List Field} {off : Nat} {x : D} {xs : List D} (h : U1 P (f :: fs) off (x :: xs) = true) :
   f.name ≠ "_" /\ f.offset = off /\ ((Q5 (P.underlying f.type) x = true /\ U1 P fs (off + 1) xs = true /\ ∀ a, x ≠ .agg a) \/
     ∃ a, x = .agg a /\ a0W (P.underlying f.type) = true /\ P.stoodInHeld f.type = false /\ E5 P f.type = some (D6 a) /\ T7 P (P.fieldsOf f.type).toList 0 a = true /\ U1 P fs (off + D6 a) xs = true) := by
 unfold U1 at h; split at h
 . rename_i e1 e2; cases e1
 . rename_i f' fs' off' a xs' e1 e2
   simp only [List.cons.injEq] at e1 e2; obtain ⟨rfl, rfl⟩ := e1; obtain ⟨rfl, rfl⟩ := e2; simp only [Bool.and_eq_true, decide_eq_true_eq, Bool.not_eq_true'] at h; obtain ⟨⟨⟨h1, h2⟩, ⟨⟨h3, h4⟩, h5⟩, h7⟩, h8⟩ := h; exact ⟨h1, h2, .inr ⟨a, rfl, h3, h4, h5, h7, h8⟩⟩
 . rename_i f' fs' off' x' xs' hn e1 e2
   simp only [List.cons.injEq] at e1 e2; obtain ⟨rfl, rfl⟩ := e1; obtain ⟨rfl, rfl⟩ := e2; simp only [Bool.and_eq_true, decide_eq_true_eq] at h; exact ⟨h.1.1.1, h.1.1.2, .inl ⟨h.1.2, h.2, fun a e => hn a (by rw [e])⟩⟩
 . cases h
theorem b3m : ∀ {fs : List Field} {off : Nat} {xs ys : List D}, T7 P fs off xs = true -> T7 P fs off ys = true -> Z7 P fs off xs ys = true /\ J9 xs ys = a0y xs ys
 | [], _, [], [], _, _ => by simp [Z7, a0y]
 | f :: fs, off, x :: xs, y :: ys, hx, hy => by
   simp only [T7, Bool.and_eq_true, decide_eq_true_eq] at hx hy; have h1 := a8x hx.1.2 hy.1.2; have h2 := b3m hx.2 hy.2; refine ⟨by simp [Z7, hx.1.1.1, hx.1.1.2, h1, h2.1], ?_⟩; rw [a7s h1, a9K h1, h2.2]; rfl
 | [], _, [], _ :: _, _, h => by simp [T7] at h
 | [], _, _ :: _, _, h, _ => by simp [T7] at h
 | _ :: _, _, [], _, h, _ => by simp [T7] at h
 | _ :: _, _, _ :: _, [], _, h => by simp [T7] at h
theorem a9N : ∀ {fs : List Field} {off : Nat} {xs ys : List D}, U1 P fs off xs = true -> U1 P fs off ys = true -> P7 P fs off xs ys = true /\ O5 xs ys = U6 xs ys
 | [], _, [], [], _, _ => by simp [P7, O5, U6]
 | f :: fs, off, x :: xs, y :: ys, hx, hy => by
   obtain ⟨h1, h2, h3⟩ := a3p hx; obtain ⟨_, _, k3⟩ := a3p hy; have nope : ∀ {z : D}, Q5 (P.underlying f.type) z = true -> a0W (P.underlying f.type) = true -> False := fun {z} p q => by
     unfold a0W at q; unfold Q5 at p; split at p <;> simp_all
   rcases h3 with ⟨h3, h4, hna⟩ | ⟨a, rfl, h3, h5, h6, h8, h4⟩
   . rcases k3 with ⟨k3, k4, _⟩ | ⟨a, rfl, k3, _⟩
     . have e1 := a8x h3 k3; have e2 := a9N h4 k4; refine ⟨?_, ?_⟩
       . cases x <;> first
           | exact absurd rfl (hna _)
           | simp [P7, h1, h2, e1, e2.1]
       . rw [a9i e1, a9K e1, e2.2, U6.eq_3 _ _ _ _ (fun a b ex _ => hna a ex)]
     . exact (nope h3 k3).elim
   . rcases k3 with ⟨k3, k4, _⟩ | ⟨a', rfl, k3, k5, k6, k8, k4⟩
     . exact (nope k3 h3).elim
     . have hw : D6 a' = D6 a := by rw [h6] at k6; exact (Option.some.inj k6).symm
       have e1 := b3m h8 k8; rw [hw] at k4; have e2 := a9N h4 k4; refine ⟨?_, ?_⟩
       . simp [P7, h1, h2, h3, h5, h6, hw, e1.1, e2.1]
       . simp [O5, U6, e1.2, e2.2]
 | [], _, [], _ :: _, _, h => by simp [U1] at h
 | [], _, _ :: _, _, h, _ => by simp [U1] at h
 | _ :: _, _, [], _, h, _ => by simp [U1] at h
 | _ :: _, _, _ :: _, [], _, h => by simp [U1] at h
theorem Q9 {kt : TypeId} {k : D} (h : F4 P kt k = true) : (Q5 (P.underlying kt) k = true /\ k.isAgg = false) \/ ∃ xs, k = .agg xs /\ a1A P kt = true /\ U1 P (P.fieldsOf kt).toList 0 xs = true := by
 cases k with
 | agg xs => simp only [F4, Bool.and_eq_true] at h; exact .inr ⟨xs, rfl, h.1, h.2⟩
 | _ => exact .inl ⟨h, rfl⟩
theorem a4C {t : TypeId} (h1 : a1A P t = true) : P.underlying t = some (.struct (P.fieldsOf t)) /\ P.stoodInHeld t = false := by
 simp only [a1A, Bool.and_eq_true, Bool.not_eq_true'] at h1; exact ⟨a5M h1.1.1, h1.1.2⟩
theorem a4J {t : TypeId} {x : D} (h : Q5 (P.underlying t) x = true) (hs : a1A P t = true) : False := by
 rw [(a4C hs).1] at h; simp [Q5] at h
theorem a8b {kt : TypeId} {x y : D} {vx vy : Value} (hx : F4 P kt x = true) (hy : F4 P kt y = true) (rx : RepV w L x vx) (ry : RepV w L y vy) : (Op.equal kt vx vy).run P w = .ok (I4 x y) w := by
 rcases Q9 hx with ⟨h1, h2⟩ | ⟨xs, rfl, h1, h2⟩
 . rcases Q9 hy with ⟨k1, k2⟩ | ⟨ys, rfl, k1, k2⟩
   . have h3 := a8x h1 k1; obtain ⟨a, b, e1, e2, _, e3⟩ := a9v h3 (rx.cell h2) (ry.cell k2); cases e1; cases e2
     have := e3 9999; rw [a9K h3] at this; rw [show Op.equal kt vx vy = Op.equalIn (9999 + 1) kt vx vy from rfl, this]; cases x <;> first | rfl | (simp [D.isAgg] at h2)
   . exact (a4J h1 k1).elim
 . rcases Q9 hy with ⟨k1, k2⟩ | ⟨ys, rfl, k1, k2⟩
   . exact (a4J k1 h1).elim
   . obtain ⟨A, rfl⟩ : ∃ A, vx = .agg A := by have := rx.2; cases vx <;> simp [K7, D.isAgg] at this; exact ⟨_, rfl⟩
     obtain ⟨B, rfl⟩ : ∃ B, vy = .agg B := by have := ry.2; cases vy <;> simp [K7, D.isAgg] at this; exact ⟨_, rfl⟩
     have h9 := rx.1; simp only [Rep] at h9; obtain ⟨cx, r1, r2⟩ := h9; have r2 : A.toList = cx.flatten := r2; have h10 := ry.1; simp only [Rep] at h10; obtain ⟨cy, r3, r4⟩ := h10; have r4 : B.toList = cy.flatten := r4; obtain ⟨hu, hst⟩ := a4C h1; have h3 := a9N h2 k2; rw [show Op.equal kt (.agg A) (.agg B) = Op.equalIn (9999 + 1) kt (.agg A) (.agg B) from rfl, run_equalIn_struct w 9999 kt A B hu hst, a3f 9997 A B _ 0 xs ys cx cy h3.1 r1 r3 (by simpa using r2) (by simpa using r4), h3.2]; rfl
theorem a6B {u : Option TypeDesc} {x : D} (h : Q5 u x = true) : Y8 x x = true := by
 unfold Q5 at h; split at h <;> simp_all [Y8]
theorem a8c : ∀ {fs : List Field} {off : Nat} {xs : List D}, T7 P fs off xs = true -> a0y xs xs = true
 | [], _, [], _ => rfl
 | f :: fs, off, x :: xs, h => by
   simp only [T7, Bool.and_eq_true] at h; simp [a0y, a6B h.1.2, a8c h.2]
 | [], _, _ :: _, h => by simp [T7] at h
 | _ :: _, _, [], h => by simp [T7] at h
theorem a5u : ∀ {fs : List Field} {off : Nat} {xs : List D}, U1 P fs off xs = true -> U6 xs xs = true
 | [], _, [], _ => rfl
 | f :: fs, off, x :: xs, h => by
   obtain ⟨_, _, h3⟩ := a3p h; rcases h3 with ⟨h3, h4, hna⟩ | ⟨a, rfl, h3, h5, h6, h8, h4⟩
   . rw [U6.eq_3 _ _ _ _ (fun a b ex _ => hna a ex), a6B h3, a5u h4]; rfl
   . simp [U6, a8c h8, a5u h4]
 | [], _, _ :: _, h => by simp [U1] at h
 | _ :: _, _, [], h => by simp [U1] at h
theorem a2K {kt : TypeId} {k : D} (h : F4 P kt k = true) : I4 k k = true := by
 rcases Q9 h with ⟨h1, h2⟩ | ⟨xs, rfl, h1, h2⟩
 . have := a6B h1; cases k <;> first | exact this | (simp [D.isAgg] at h2)
 . exact a5u h2
theorem b6N {kt : TypeId} {k k' : D} {v v' : Value} (h : F4 P kt k = true) (h' : F4 P kt k' = true) (hr : RepV w L k v) (hr' : RepV w L k' v') (e : v = v') : k = k' := by
 subst e; have h1 := a8b h h' hr hr'; rw [a8b h h hr hr, a2K h] at h1; simp only [Result.ok.injEq] at h1; exact a1k h1.1.symm
theorem a6v {u : Option TypeDesc} {x : D} {c c' : List Value} (h : Q5 u x = true) (hr : Rep w L x c) (hr' : Rep w L x c') : c = c' := by
 unfold Q5 at h; split at h
 . simp only [Rep] at hr hr'; rw [hr, hr']
 . simp only [Rep] at hr hr'; rw [hr, hr']
 . simp only [Rep] at hr hr'; rw [hr, hr']
 . cases h
theorem a9f : ∀ {fs : List Field} {off : Nat} {xs : List D} {c c' : List (List Value)}, T7 P fs off xs = true -> A8 w L xs c -> A8 w L xs c' -> c = c'
 | [], _, [], c, c', _, h, h' => by simp only [A8] at h h'; rw [h, h']
 | f :: fs, off, x :: xs, c, c', hk, h, h' => by
   simp only [T7, Bool.and_eq_true] at hk; simp only [A8] at h h'; obtain ⟨a, as', rfl, h1, h2⟩ := h; obtain ⟨b, bs, rfl, k1, k2⟩ := h'; rw [a6v hk.1.2 h1 k1, a9f hk.2 h2 k2]
 | [], _, _ :: _, _, _, h, _, _ => by simp [T7] at h
 | _ :: _, _, [], _, _, h, _, _ => by simp [T7] at h
theorem a6n : ∀ {fs : List Field} {off : Nat} {xs : List D} {c c' : List (List Value)}, U1 P fs off xs = true -> A8 w L xs c -> A8 w L xs c' -> c = c'
 | [], _, [], c, c', _, h, h' => by simp only [A8] at h h'; rw [h, h']
 | f :: fs, off, x :: xs, c, c', hk, h, h' => by
   simp only [A8] at h h'; obtain ⟨a, as', rfl, h1, h2⟩ := h; obtain ⟨b, bs, rfl, k1, k2⟩ := h'; obtain ⟨_, _, h3⟩ := a3p hk; rcases h3 with ⟨h3, h4, _⟩ | ⟨a', rfl, h3, h5, h6, h8, h4⟩
   . rw [a6v h3 h1 k1, a6n h4 h2 k2]
   . simp only [Rep] at h1 k1; obtain ⟨d1, q1, rfl⟩ := h1; obtain ⟨d2, q2, rfl⟩ := k1; rw [a9f h8 q1 q2, a6n h4 h2 k2]
 | [], _, _ :: _, _, _, h, _, _ => by simp [U1] at h
 | _ :: _, _, [], _, _, h, _, _ => by simp [U1] at h
theorem b5x {kt : TypeId} {k : D} {v v' : Value} (h : F4 P kt k = true) (hr : RepV w L k v) (hr' : RepV w L k v') : v = v' := by
 rcases Q9 h with ⟨h1, h2⟩ | ⟨xs, rfl, h1, h2⟩
 . simpa using a6v h1 (hr.cell h2) (hr'.cell h2)
 . obtain ⟨A, rfl⟩ : ∃ A, v = .agg A := by have := hr.2; cases v <;> simp [K7, D.isAgg] at this; exact ⟨_, rfl⟩
   obtain ⟨B, rfl⟩ : ∃ B, v' = .agg B := by have := hr'.2; cases v' <;> simp [K7, D.isAgg] at this; exact ⟨_, rfl⟩
   have h9 := hr.1; have h10 := hr'.1; simp only [Rep] at h9 h10; obtain ⟨cx, r1, r2⟩ := h9; obtain ⟨cy, r3, r4⟩ := h10; have e := a6n h2 r1 r3; have : A.toList = B.toList := by rw [show A.toList = cx.flatten from r2, show B.toList = cy.flatten from r4, e]
   rw [Array.ext' this]
theorem a3I {t : TypeId} {x : D} {c : List Value} (h : Q5 (P.underlying t) x = true) (hr : Rep w L x c) : ∃ v, c = [v] /\ (isAgg t).run P w = .ok false w /\ (∀ em n, (Instr.checkKey em (n + 1) t v).run P w = .ok () w) /\ ∀ m, Instr.sameBits m v v = true := by
 cases hu : P.underlying t with
 | none => rw [hu] at h; simp [Q5] at h
 | some dd =>
   rw [hu] at h; cases x <;> cases dd <;> simp [Q5] at h <;> simp only [Rep] at hr
   . exact ⟨_, hr, by simp [isAgg, run_underlying hu], fun em n => MapKept.run_checkKey hu (by trivial) em n, fun m => by cases m <;> simp [Instr.sameBits]⟩
   . exact ⟨_, hr, by simp [isAgg, run_underlying hu], fun em n => MapKept.run_checkKey hu (show MapKept.IsKey (.int _) (.int _ _) from h.symm) em n, fun m => by cases m <;> simp [Instr.sameBits]⟩
   . exact ⟨_, hr, by simp [isAgg, run_underlying hu], fun em n => MapKept.run_checkKey hu (by trivial) em n, fun m => by cases m <;> simp [Instr.sameBits] <;> exact (MapKept.bytes_beq _ _).2 rfl⟩
theorem c1k {A : Array Value} : ∀ {fs : List Field} {off : Nat} {xs : List D} {css : List (List Value)}, T7 P fs off xs = true -> A8 w L xs css -> A.toList.drop off = css.flatten ->
   (∀ f ∈ fs, f.name ≠ "_" /\ ∃ v, (part f.type A f.offset).run P w = .ok v w /\ ∀ em n, (Instr.checkKey em (n + 1) f.type v).run P w = .ok () w) /\ ∀ v ∈ css.flatten, ∀ m, Instr.sameBits m v v = true
 | [], _, [], css, _, h, _ => by simp only [A8] at h; subst h; simp
 | f :: fs, off, x :: xs, css, hk, h, hA => by
   simp only [T7, Bool.and_eq_true, decide_eq_true_eq] at hk; simp only [A8] at h; obtain ⟨c, cs, rfl, h1, h2⟩ := h; obtain ⟨v, rfl, e1, e2, e3⟩ := a3I hk.1.2 h1; have ga : A[f.offset]? = some v := by
     have := congrArg (fun l => l[0]?) hA; simp only [getElem?_drop, Nat.add_zero, flatten_cons, cons_append, getElem?_cons_zero] at this; rw [hk.1.1.2]; simpa using this
   have dA : A.toList.drop (off + 1) = cs.flatten := by
     rw [<- drop_drop, hA]; simp
   obtain ⟨i1, i2⟩ := c1k hk.2 h2 dA; refine ⟨fun g hg => ?_, fun u hu => ?_⟩
   . rcases mem_cons.1 hg with rfl | hg
     . exact ⟨hk.1.1.1, v, by simp [part, e1, ga], e2⟩
     . exact i1 g hg
   . rcases mem_cons.1 (show u ∈ v :: cs.flatten by simpa using hu) with rfl | hu
     . exact e3
     . exact i2 u hu
 | [], _, _ :: _, _, h, _, _ => by simp [T7] at h
 | _ :: _, _, [], _, h, _, _ => by simp [T7] at h
theorem b3l {fs : List Field} {A : Array Value} {em : Bool} {n : Nat} (h : ∀ f ∈ fs, f.name ≠ "_" /\ ∃ v, (part f.type A f.offset).run P w = .ok v w /\ (Instr.checkKey em n f.type v).run P w = .ok () w) {t : TypeId} (ht : P.underlying t = some (.struct fs.toArray)) :
   (Instr.checkKey em (n + 1) t (.agg A)).run P w = .ok () w := by
 rw [Instr.checkKey]; simp only [Sem.run_bind, run_underlying ht, Result.andThen_ok]; rw [<- Array.forIn_toList]; simp only [toList_toArray]; clear ht
 induction fs with
 | nil => simp
 | cons f fs ih =>
   obtain ⟨hn, v, p1, p2⟩ := h f (by simp); simp only [forIn_cons, Sem.run_bind, hn, ne_eq, not_false_eq_true, if_true, Result.andThen_ok, p1, p2, Sem.run_pure]; exact ih (fun g hg => h g (by simp [hg]))
theorem b0p {A : Array Value} : ∀ {fs : List Field} {off : Nat} {xs : List D} {css : List (List Value)}, U1 P fs off xs = true -> A8 w L xs css -> A.toList.drop off = css.flatten ->
   (∀ f ∈ fs, f.name ≠ "_" /\ ∃ v, (part f.type A f.offset).run P w = .ok v w /\ ∀ em n, (Instr.checkKey em (n + 2) f.type v).run P w = .ok () w) /\ ∀ v ∈ css.flatten, ∀ m, Instr.sameBits m v v = true
 | [], _, [], css, _, h, _ => by simp only [A8] at h; subst h; simp
 | f :: fs, off, x :: xs, css, hk, h, hA => by
   obtain ⟨k1, k2, k3⟩ := a3p hk; simp only [A8] at h; obtain ⟨c, cs, rfl, h1, h2⟩ := h; rcases k3 with ⟨h3, h4, _⟩ | ⟨a, rfl, h3, h5, h6, h8, h4⟩
   . obtain ⟨v, rfl, e1, e2, e3⟩ := a3I h3 h1; have ga : A[f.offset]? = some v := by
       have := congrArg (fun l => l[0]?) hA; simp only [getElem?_drop, Nat.add_zero, flatten_cons, cons_append, getElem?_cons_zero] at this; rw [k2]; simpa using this
     have dA : A.toList.drop (off + 1) = cs.flatten := by
       rw [<- drop_drop, hA]; simp
     obtain ⟨i1, i2⟩ := b0p h4 h2 dA; refine ⟨fun g hg => ?_, fun u hu => ?_⟩
     . rcases mem_cons.1 hg with rfl | hg
       . exact ⟨k1, v, by simp [part, e1, ga], fun em n => e2 em (n + 1)⟩
       . exact i1 g hg
     . rcases mem_cons.1 (show u ∈ v :: cs.flatten by simpa using hu) with rfl | hu
       . exact e3
       . exact i2 u hu
   . have hu := a5M h3; have hag : (isAgg f.type).run P w = .ok true w := (by simp [isAgg, run_underlying hu]); have hsz := J7 h6 w; have l1 : c.length = D6 a := Rep.len _ _ h1; have tA : (A.extract f.offset (f.offset + D6 a)).toList = c := by
       rw [Array.toList_extract, extract_eq_take_drop, k2, hA, flatten_cons, Nat.add_sub_cancel_left, <- l1, take_left]
     have pa : (part f.type A f.offset).run P w = .ok (.agg (A.extract f.offset (f.offset + D6 a))) w := (by simp [part, hag, hsz]); have dA : A.toList.drop (off + D6 a) = cs.flatten := by
       rw [<- drop_drop, hA, flatten_cons, <- l1, drop_left]
     simp only [Rep] at h1; obtain ⟨d1, r1, r2⟩ := h1; obtain ⟨j1, j2⟩ := c1k (A := A.extract f.offset (f.offset + D6 a)) h8 r1 (by rw [drop_zero, tA, r2]); obtain ⟨i1, i2⟩ := b0p h4 h2 dA; refine ⟨fun g hg => ?_, fun u hu => ?_⟩
     . rcases mem_cons.1 hg with rfl | hg
       . refine ⟨k1, _, pa, fun em n => b3l (fs := (P.fieldsOf g.type).toList) (fun q hq => ?_) (by simpa using hu)⟩; obtain ⟨q1, v, q2, q3⟩ := j1 q hq; exact ⟨q1, v, q2, q3 em n⟩
       . exact i1 g hg
     . rcases mem_append.1 (show u ∈ c ++ cs.flatten by simpa using hu) with hu | hu
       . exact j2 u (by rw [<- r2]; exact hu)
       . exact i2 u hu
 | [], _, _ :: _, _, h, _, _ => by simp [U1] at h
 | _ :: _, _, [], _, h, _, _ => by simp [U1] at h
theorem X9 {kt : TypeId} {k : D} {v : Value} (h : F4 P kt k = true) (hr : RepV w L k v) (em : Bool) : (Instr.checkKey em 10000 kt v).run P w = .ok () w := by
 rcases Q9 h with ⟨h1, h2⟩ | ⟨xs, rfl, h1, h2⟩
 . obtain ⟨u, e1, _, e2, _⟩ := a3I h1 (hr.cell h2); cases e1
   exact e2 em 9999
 . obtain ⟨A, rfl⟩ : ∃ A, v = .agg A := by have := hr.2; cases v <;> simp [K7, D.isAgg] at this; exact ⟨_, rfl⟩
   have h9 := hr.1; simp only [Rep] at h9; obtain ⟨cx, r1, r2⟩ := h9; obtain ⟨j1, _⟩ := b0p (A := A) h2 r1 (by rw [drop_zero]; exact r2); refine b3l (n := 9999) (fs := (P.fieldsOf kt).toList) (fun q hq => ?_) (by simpa using (a4C h1).1); obtain ⟨q1, v, q2, q3⟩ := j1 q hq; exact ⟨q1, v, q2, q3 em 9997⟩
theorem b9m {kt : TypeId} {k : D} {v : Value} (h : F4 P kt k = true) (hr : RepV w L k v) : (Instr.keyThatStays v v).run P w = .ok v w := by
 have : Instr.sameBits 10000 v v = true := by
   rcases Q9 h with ⟨h1, h2⟩ | ⟨xs, rfl, h1, h2⟩
   . obtain ⟨u, e1, _, _, e3⟩ := a3I h1 (hr.cell h2); cases e1
     exact e3 _
   . obtain ⟨A, rfl⟩ : ∃ A, v = .agg A := by have := hr.2; cases v <;> simp [K7, D.isAgg] at this; exact ⟨_, rfl⟩
     have h9 := hr.1; simp only [Rep] at h9; obtain ⟨cx, r1, r2⟩ := h9; obtain ⟨_, j2⟩ := b0p (A := A) h2 r1 (by rw [drop_zero]; exact r2); have r2' : A.toList = cx.flatten := r2
     show Instr.sameBits (9999 + 1) (.agg A) (.agg A) = true
     simp only [Instr.sameBits, beq_self_eq_true, Bool.true_and, all_eq_true]; rintro ⟨p, q⟩ hp; obtain ⟨i, hi, e⟩ := getElem_of_mem hp; rw [getElem_zip] at e; cases e
     exact j2 _ (by rw [<- r2']; exact getElem_mem _) 9999
 simp [Instr.keyThatStays, this]
theorem M5.len : ∀ {m : List (D × D)} {es : List MapEntry}, M5 w L m es -> es.length = m.length
 | [], _, h => by simp only [M5] at h; subst h; rfl
 | p :: m, _, h => by
   obtain ⟨e, es', rfl, _, _, h4⟩ := h; simp [h4.len]
theorem M5.get : ∀ {m : List (D × D)} {es : List MapEntry} {i : Nat} {e : MapEntry}, M5 w L m es -> es[i]? = some e -> ∃ p, m[i]? = some p /\ RepV w L p.1 e.key /\ RepV w L p.2 e.val
 | [], _, i, e, h, hi => by simp only [M5] at h; subst h; simp at hi
 | p :: m, _, 0, e, h, hi => by
   obtain ⟨e', es', rfl, h2, h3, h4⟩ := h; simp only [getElem?_cons_zero, Option.some.injEq] at hi; subst hi; exact ⟨p, rfl, h2, h3⟩
 | p :: m, _, i + 1, e, h, hi => by
   obtain ⟨e', es', rfl, h2, h3, h4⟩ := h; simp only [getElem?_cons_succ] at hi; simpa using h4.get hi
theorem M5.at_ : ∀ {m : List (D × D)} {es : List MapEntry} {i : Nat} {p : D × D}, M5 w L m es -> m[i]? = some p -> ∃ e, es[i]? = some e /\ RepV w L p.1 e.key /\ RepV w L p.2 e.val
 | [], _, i, e, h, hi => by simp at hi
 | p :: m, _, 0, e, h, hi => by
   obtain ⟨e', es', rfl, h2, h3, h4⟩ := h; simp only [getElem?_cons_zero, Option.some.injEq] at hi; subst hi; exact ⟨e', rfl, h2, h3⟩
 | p :: m, _, i + 1, e, h, hi => by
   obtain ⟨e', es', rfl, h2, h3, h4⟩ := h; simp only [getElem?_cons_succ] at hi; simpa using h4.at_ hi
theorem M5.append : ∀ {m m2 : List (D × D)} {es es2 : List MapEntry}, M5 w L m es -> M5 w L m2 es2 -> M5 w L (m ++ m2) (es ++ es2)
 | [], _, _, _, h, h2 => by simp only [M5] at h; subst h; simpa using h2
 | p :: m, _, _, _, h, h2 => by
   obtain ⟨e', es', rfl, g2, g3, g4⟩ := h; exact ⟨e', _, rfl, g2, g3, g4.append h2⟩
theorem M5.set : ∀ {m : List (D × D)} {es : List MapEntry} {i : Nat} {p : D × D} {e : MapEntry}, M5 w L m es -> RepV w L p.1 e.key -> RepV w L p.2 e.val -> M5 w L (m.set i p) (es.set i e)
 | [], _, _, _, _, h, _, _ => by simp only [M5] at h; subst h; simp [M5]
 | q :: m, _, 0, _, e, h, h1, h2 => by
   obtain ⟨e', es', rfl, g2, g3, g4⟩ := h; exact ⟨e, es', rfl, h1, h2, g4⟩
 | q :: m, _, i + 1, _, e, h, h1, h2 => by
   obtain ⟨e', es', rfl, g2, g3, g4⟩ := h; exact ⟨e', _, rfl, g2, g3, g4.set h1 h2⟩
theorem b4M {kt : TypeId} {k : D} (hk : F4 P kt k = true) (hr : RepV w L k v) : ∀ {m : List (D × D)} {es : List MapEntry} (i : Nat), M5 w L m es -> (∀ p ∈ m, F4 P kt p.1 = true) ->
   ((Instr.findAsking kt v es i).run P w = .ok none w /\ ∀ p ∈ m, p.1 ≠ k) \/ ∃ (j : Nat) (e : MapEntry) (x : D), (Instr.findAsking kt v es i).run P w = .ok (some (i + j, e.val)) w /\ es[j]? = some e /\ e.key = v /\ m[j]? = some (k, x) /\ RepV w L x e.val
 | [], _, i, h, _ => by simp only [M5] at h; subst h; exact .inl ⟨by simp [Instr.findAsking], by simp⟩
 | p :: m, _, i, h, hf => by
   obtain ⟨e, es, rfl, h1, h2, h3⟩ := h; have hq := a8b hk (hf p (by simp)) hr h1; cases hb : I4 k p.1 with
   | true =>
     rw [hb] at hq; have e1 := a1k hb; obtain ⟨p1, p2⟩ := p; cases e1
     exact .inr ⟨0, e, p2, by simp [Instr.findAsking, hq], rfl, b5x hk h1 hr, rfl, h2⟩
   | false =>
     rw [hb] at hq; have hne : p.1 ≠ k := fun e => by rw [e, a2K hk] at hb; cases hb
     rcases b4M hk hr (i + 1) h3 (fun q hq => hf q (by simp [hq])) with ⟨f1, f2⟩ | ⟨j, e', x, f1, f2, f3, f4, f5⟩
     . exact .inl ⟨by simp [Instr.findAsking, hq, f1], fun q hq => by
         rcases mem_cons.1 hq with rfl | hq
         . exact hne
         . exact f2 q hq⟩
     . exact .inr ⟨j + 1, e', x, by simp [Instr.findAsking, hq, f1, Nat.add_assoc, Nat.add_comm 1 j], by simpa using f2, f3, by simpa using f4, f5⟩
theorem M5.find {m : List (D × D)} {es : List MapEntry} {kt : TypeId} {k : D} (h : M5 w L m es) (hf : ∀ p ∈ m, F4 P kt p.1 = true) (hk : F4 P kt k = true) (hr : RepV w L k v) :
   ((Instr.findKey kt v es).run P w = .ok none w /\ ∀ p ∈ m, p.1 ≠ k) \/ ∃ (j : Nat) (e : MapEntry) (x : D), (Instr.findKey kt v es).run P w = .ok (some (j, e.val)) w /\ es[j]? = some e /\ e.key = v /\ m[j]? = some (k, x) /\ RepV w L x e.val := by
 rcases Q9 hk with ⟨h1, h2⟩ | ⟨xs, rfl, h1, h2⟩
 . cases hu : P.underlying kt with
   | none => rw [hu] at h1; simp [Q5] at h1
   | some dd =>
     have hik : ∀ {x : D} {u : Value}, F4 P kt x = true -> RepV w L x u -> MapKept.IsKey dd u := fun {x u} hx hx2 => by
       rcases Q9 hx with ⟨k1, k2⟩ | ⟨ys, rfl, k1, k2⟩
       . rw [hu] at k1; cases x <;> cases dd <;> simp [Q5] at k1
         . rw [hx2.bool_inv]; trivial
         . rw [hx2.int_inv]; exact k1.symm
         . rw [hx2.str_inv]; trivial
       . exact (a4J h1 k1).elim
     have hks : ∀ e ∈ es, MapKept.IsKey dd e.key := fun e he => by
       obtain ⟨i, hi⟩ := getElem?_of_mem he; obtain ⟨p, hp, g1, _⟩ := h.get hi; exact hik (hf p (mem_of_getElem? hp)) g1
     rcases MapKept.findNow_spec (hik hk hr) es 0 hks with ⟨f1, f2⟩ | ⟨j, e, f1, f2, f3⟩
     . refine .inl ⟨MapKept.run_findKey hu f1, fun p hp e => ?_⟩; obtain ⟨i, hi⟩ := getElem?_of_mem hp; obtain ⟨e1, he, g1, _⟩ := h.at_ hi; subst e; exact f2 e1 (mem_of_getElem? he) (b5x hk g1 hr)
     . obtain ⟨p, hp, g1, g2⟩ := h.get f2; refine .inr ⟨j, e, p.2, by simpa using MapKept.run_findKey hu f1, f2, f3, ?_, g2⟩; have := b6N (hf p (mem_of_getElem? hp)) hk g1 hr f3; rw [hp, <- this]
 . rw [run_findKey_eq w (by rw [(a4C h1).1])]; simpa using b4M hk hr 0 h hf
theorem a4V {m : List (D × D)} {k : D} (h : ∀ p ∈ m, p.1 ≠ k) : M6 m k = none := by
 have : m.find? (fun p => I4 p.1 k) = none := by
   rw [find?_eq_none]; intro p hp e; exact h p hp (a1k e)
 simp [M6, this]
theorem a6H {kt : TypeId} {m : List (D × D)} {k x : D} (hn : (m.map (·.1)).Nodup) (hk : F4 P kt k = true) (h : (k, x) ∈ m) : M6 m k = some x := by
 induction m with
 | nil => simp at h
 | cons p m ih =>
   rw [map_cons, nodup_cons] at hn; rcases mem_cons.1 h with rfl | h
   . simp [M6, a2K hk]
   . have hne : I4 p.1 k = false := by
       cases he : I4 p.1 k with
       | false => rfl
       | true => exact absurd (a1k he ▸ mem_map.2 ⟨_, h, rfl⟩) hn.1
     have := ih hn.2 h; simp only [M6, find?_cons, hne] at this ⊢; exact this
theorem b6D {kt : TypeId} {k x y : D} (hk : F4 P kt k = true) : ∀ {m : List (D × D)} {j : Nat}, (m.map (·.1)).Nodup -> m[j]? = some (k, x) -> m.map (fun p => if I4 p.1 k then (p.1, y) else p) = m.set j (k, y)
 | [], j, _, h => by simp at h
 | p :: m, 0, hn, h => by
   simp only [getElem?_cons_zero, Option.some.injEq] at h; subst h; rw [map_cons, nodup_cons] at hn; have : m.map (fun p => if I4 p.1 k then (p.1, y) else p) = m := by
     refine (map_congr_left (fun q hq => ?_)).trans (map_id m); cases he : I4 q.1 k with
     | false => rfl
     | true => exact absurd (a1k he ▸ mem_map.2 ⟨q, hq, rfl⟩) hn.1
   simp [a2K hk, this]
 | p :: m, j + 1, hn, h => by
   simp only [getElem?_cons_succ] at h; rw [map_cons, nodup_cons] at hn; have hne : I4 p.1 k = false := by
     cases he : I4 p.1 k with
     | false => rfl
     | true => exact absurd (a1k he ▸ mem_map.2 ⟨_, mem_of_getElem? h, rfl⟩) hn.1
   simp [hne, b6D hk hn.2 h]
theorem b7o {kt : TypeId} {m : List (D × D)} {k x : D} (hk : F4 P kt k = true) (h : (k, x) ∈ m) : m.any (fun p => I4 p.1 k) = true := any_eq_true.2 ⟨_, h, a2K hk⟩
theorem b9s {m : List (D × D)} {k : D} (h : ∀ p ∈ m, p.1 ≠ k) : m.any (fun p => I4 p.1 k) = false := by
 rw [any_eq_false]; intro p hp e; exact h p hp (a1k e)
theorem b2g (m : List (D × D)) (k y : D) : (S1 m k y).map (·.1) = if m.any (fun p => I4 p.1 k) then m.map (·.1) else m.map (·.1) ++ [k] := by
 unfold S1; split
 . rw [map_map]; refine map_congr_left (fun p _ => ?_); simp only [Function.comp_apply]; split <;> rfl
 . simp
theorem b8X {m : List (D × D)} {k y : D} (hn : (m.map (·.1)).Nodup) {kt : TypeId} (hk : F4 P kt k = true) : ((S1 m k y).map (·.1)).Nodup := by
 rw [b2g]; split
 . exact hn
 . rename_i h
   refine nodup_append.2 ⟨hn, by simp, fun x hx z hz => ?_⟩; simp only [mem_singleton] at hz; subst hz; rintro rfl; obtain ⟨p, hp, rfl⟩ := mem_map.1 hx; exact h (b7o hk hp)
theorem c3N {m : List (D × D)} {k y : D} {kt : TypeId} (hf : ∀ p ∈ m, F4 P kt p.1 = true) (hk : F4 P kt k = true) : ∀ p ∈ S1 m k y, F4 P kt p.1 = true := by
 intro p hp; have : p.1 ∈ (S1 m k y).map (·.1) := mem_map.2 ⟨p, hp, rfl⟩; rw [b2g] at this; have old : p.1 ∈ m.map (·.1) -> F4 P kt p.1 = true := fun h => by
   obtain ⟨q, hq, e⟩ := mem_map.1 h; rw [<- e]; exact hf q hq
 split at this
 . exact old this
 . rcases mem_append.1 this with h | h
   . exact old h
   . rw [mem_singleton.1 h]; exact hk
theorem c3r {α : Type} {l l' : List α} (h : Perm l l') (f : α -> Bool) : l.any f = l'.any f := by
 rw [Bool.eq_iff_iff, any_eq_true, any_eq_true]; exact ⟨fun ⟨x, hx, e⟩ => ⟨x, h.mem_iff.1 hx, e⟩, fun ⟨x, hx, e⟩ => ⟨x, h.mem_iff.2 hx, e⟩⟩
theorem b9I {m m' : List (D × D)} (h : Perm m' m) (k y : D) : Perm (S1 m' k y) (S1 m k y) := by
 unfold S1; rw [c3r h]; split
 . exact h.map _
 . exact h.append_right _
theorem b3q {kt : TypeId} {m m' : List (D × D)} (h : Perm m' m) (hn : (m.map (·.1)).Nodup) {k : D} (hk : F4 P kt k = true) : M6 m' k = M6 m k := by
 by_cases hx : ∃ x, (k, x) ∈ m
 . obtain ⟨x, hx⟩ := hx; rw [a6H hn hk hx, a6H ((h.map _).nodup_iff.2 hn) hk (h.mem_iff.2 hx)]
 . have h0 : ∀ p ∈ m, p.1 ≠ k := fun p hp e => hx ⟨p.2, by rw [<- e]; exact hp⟩
   rw [a4V h0, a4V (fun p hp => h0 p (h.mem_iff.1 hp))]
def b6J (P : Program) (s f : Nat) : Option (TypeId × Nat) :=
 match P.underlying s with
 | some (.struct fs) => (fs[f]?).map fun x => (x.type, x.offset)
 | _ => none
def a1c (c : Bool) (z : D) (r : Option D) : AV :=
 match c, r with
 | true, some x => .tup [.d x, .d (.bool true)]
 | true, none => .tup [.d z, .d (.bool false)]
 | false, some x => .d x
 | false, none => .d z
theorem RepV.tup2 {x y : D} {vx vy : Value} {O : Nat -> Option Nat} {σ : St} {tm : Nat -> Value} (hx : RepV w L x vx) (hy : RepV w L y vy) : RA P w L O σ tm none (.tup [.d x, .d y]) (.tuple #[vx, vy]) := by
 simp only [RA, RC, RCs]; exact ⟨[vx, vy], rfl, vx, [vy], rfl, hx, vy, [], rfl, hy, rfl⟩
theorem Rel.mapT (h : Rel P w0 L0 row w L O σ tm) {j : Nat} {u : Value} {kt : TypeId} {m : List (D × D)} {E : Option (List (D × Nat) × Nat)} (hj : σ j = .hm u kt m E) : a2a P w L (O j) kt m E u := by
 have h1 := h.slots j; rw [hj] at h1; exact h1
theorem Rel.mapSet (h : Rel P w0 L0 row w L O σ tm) {j g : Nat} {kt : TypeId} {m m1 m2 : List (D × D)} {E : Option (List (D × Nat) × Nat)} {es2 : Array MapEntry} {clk2 : Nat} (hj : σ j = .hm (.map (some g)) kt m E)
   (hp : Perm m1 m2) (he : M5 w L m1 es2.toList) (hn : (m2.map (·.1)).Nodup) (hf : ∀ p ∈ m2, F4 P kt p.1 = true) (hb : (es2.toList.map (·.born)).Nodup) (hc : ∀ e ∈ es2.toList, e.born < clk2) :
   ∃ O', Rel P w0 L0 row { w with heap := w.heap.setIfInBounds g (.map es2 clk2) } L O' (put σ j (.hm (.map (some g)) kt m2 none)) tm := by
 obtain ⟨g', m', es, clk, h1, h2, h3, h4, h5⟩ := h.mapT hj; simp only [Value.map.injEq, Option.some.injEq] at h2; subst h2; have hg := h.olt j g h1; have hset := MapKept.heap_set (o' := .map es2 clk2) h3; have hS : H4 w L { w with heap := w.heap.setIfInBounds g (.map es2 clk2) } L (H1 (some g)) := by
   refine ⟨fun b q hq => ⟨hq, fun v hv => ?_⟩, fun b _ hne => hset.2 b (fun e => hne (by rw [e]; rfl)), fun _ _ _ _ => Iff.rfl⟩; have hne : b ≠ g := fun e => h4 q (e ▸ hq)
   rw [J4 (hset.2 b hne)]; exact hv
 have := h.putOwn (w' := { w with heap := w.heap.setIfInBounds g (.map es2 clk2) }) j (.hm (.map (some g)) kt m2 none) (tm j) (O j) (H1 (some g)) hS
   (h.grown.then ⟨rfl, rfl, rfl, by simp, fun k hk hne => hset.2 k (fun e => hne (show some g = some k by rw [e])), Nat.le_refl _⟩ (fun q hq => by obtain rfl : g = q := (by simpa [H1] using hq); exact hg.2)) (by simp)
   (fun b q hq => by simpa using h.lok b q hq) (fun q hq => by obtain rfl : g = q := (by simpa [H1] using hq); exact hg.2) (fun i q hi hO e => hi (h.inj i j q hO (by rw [h1]; exact e)))
   (fun q hq => ⟨by simpa using (h.olt j q hq).1, (h.olt j q hq).2, fun i hi e => hi (h.inj i j q e hq)⟩)
   (by
     show a2a P { w with heap := w.heap.setIfInBounds g (.map es2 clk2) } L (O j) kt m2 none (.map (some g))
     exact ⟨g, m1, es2, clk2, h1, rfl, hset.1, h4, hp, he.mono hS.ext, hn, hf, hb, hc, by simp⟩)
 rw [O0] at this; exact ⟨_, this⟩
theorem b1U (hR : Rel P w0 L0 row w L O σ (C6 a)) {t kt vt : TypeId} (ht : P.underlying t = some (.map kt vt)) {j : Nat} {u : Value} {m m2 : List (D × D)} {E : Option (List (D × Nat) × Nat)} (hj : σ j = .hm u kt m E)
   {k y : D} {vk vy : Value} (hk : F4 P kt k = true) (hrk : RepV w L k vk) (hry : RepV w L y vy) (hp : Perm m2 (S1 m k y)) :
   ∃ w' O', (Instr.mapUpdate t u vk vy).run P w = .ok () w' /\ Rel P w0 L0 row w' L O' (put σ j (.hm u kt m2 none)) (C6 a) := by
 obtain ⟨g, m', es, clk, h1, rfl, h3, h4, h5, h6, h7, h8, h9, h10, h11⟩ := hR.mapT hj; have h8' : ∀ p ∈ m', F4 P kt p.1 = true := fun p hp => h8 p (h5.mem_iff.1 hp)
 have hn' : (m'.map (·.1)).Nodup := (h5.map _).nodup_iff.2 h7; have hn2 : (m2.map (·.1)).Nodup := (hp.map _).nodup_iff.2 (b8X h7 hk); have hf2 : ∀ p ∈ m2, F4 P kt p.1 = true := fun p hp' => c3N h8 hk p (hp.mem_iff.1 hp')
 have hpm : Perm (S1 m' k y) m2 := (b9I h5 k y).trans hp.symm; rcases h6.find h8' hk hrk with ⟨f1, f2⟩ | ⟨i, e, x, f1, f2, f3, f4, f5⟩
 . have hms : S1 m' k y = m' ++ [(k, y)] := by unfold S1; rw [b9s f2]; simp
   rw [hms] at hpm; obtain ⟨O', hR'⟩ := hR.mapSet (es2 := es.push { key := vk, val := vy, born := clk }) (clk2 := clk + 1) hj hpm (by rw [Array.toList_push]; exact h6.append ⟨_, [], rfl, hrk, hry, rfl⟩) hn2 hf2
     (by
       rw [Array.toList_push, map_append]; refine nodup_append.2 ⟨h9, by simp, fun x hx z hz => ?_⟩; simp only [map_cons, map_nil, mem_singleton] at hz; subst hz; obtain ⟨e, he, rfl⟩ := mem_map.1 hx; exact Nat.ne_of_lt (h10 e he))
     (by
       intro e he; rw [Array.toList_push] at he; rcases mem_append.1 he with he | he
       . exact Nat.lt_succ_of_lt (h10 e he)
       . rw [mem_singleton.1 he]; exact Nat.lt_succ_self _)
   refine ⟨_, O', ?_, hR'⟩; simp [Instr.mapUpdate, run_underlying ht, MapKept.run_getObj_map h3, X9 hk hrk, f1, MapKept.run_setObj_map _ h3, Result.andThen]
 . have hi : es[i]? = some e := (by simpa using f2); have hms : S1 m' k y = m'.set i (k, y) := by
     unfold S1; rw [if_pos (b7o hk (mem_of_getElem? f4)), b6D hk hn' f4]
   rw [hms] at hpm; have hto : (es.modify i fun e => { e with key := vk, val := vy }).toList = es.toList.set i { e with key := vk, val := vy } := by
     apply ext_getElem?
     intro q; simp only [Array.getElem?_toList, Array.getElem?_modify, getElem?_set, Array.length_toList]; have hlt : i < es.size := (Array.getElem?_eq_some_iff.1 hi).1; by_cases hq : i = q
     . subst hq; have he : es[i] = e := (Array.getElem?_eq_some_iff.1 hi).2; simp [hlt, he]
     . simp [hq]
   have hborn : (es.toList.set i { e with key := vk, val := vy }).map (·.born) = es.toList.map (·.born) := by
     apply ext_getElem?
     intro q; simp only [getElem?_map, getElem?_set]; have hlt : i < es.toList.length := (List.getElem?_eq_some_iff.1 f2).1; by_cases hq : i = q
     . subst hq; have hlt' : i < es.size := (by simpa using hlt); have he : es[i] = e := (Array.getElem?_eq_some_iff.1 hi).2; simp [hlt', he]
     . simp [hq]
   obtain ⟨O', hR'⟩ := hR.mapSet (es2 := es.modify i fun e => { e with key := vk, val := vy }) (clk2 := clk) hj hpm (by rw [hto]; exact h6.set hrk hry) hn2 hf2 (by rw [hto, hborn]; exact h9)
     (by
       intro e' he'; have : e'.born ∈ es.toList.map (·.born) := by rw [<- hborn, <- hto]; exact mem_map.2 ⟨e', he', rfl⟩
       obtain ⟨e2, he2, hb⟩ := mem_map.1 this; rw [<- hb]; exact h10 e2 he2)
   refine ⟨_, O', ?_, hR'⟩; simp [Instr.mapUpdate, run_underlying ht, MapKept.run_getObj_map h3, X9 hk hrk, f1, hi, f3, b9m hk hrk, MapKept.run_setObj_map _ h3, Result.andThen]
section
variable (hd : o.dst = some d) (hlt : d < n) (hsz : a.tmps.size = n) (hdef : a.defers = []) (hR : Rel P w0 L0 row w L O σ (C6 a))
include hd hlt hsz hdef hR
theorem c0i {t kt : TypeId} (ho : o.op = .makeMap t none) {j : Nat} (hj : σ j = .undef) (h : ∀ g, K (put (put σ j (.hm (.map (some g)) kt [] none)) d (.d (.raw (.map (some g)))))) : o.wp P a w (D4 P w0 L0 row n K) Q := by
 have h1 := hR.putNew (.map #[] 0) 0 j (.hm (.map (some w.heap.size)) kt [] none) (C6 a j) (by
   refine ⟨w.heap.size, [], #[], 0, rfl, rfl, heap_alloc_new w _, fun q hq => ?_, Perm.refl _, rfl, by simp, by simp, by simp, by simp, by simp⟩; rcases hq with hq | hq
   . have := hR.lok _ _ hq; omega
   . omega)
 rw [O0] at h1; refine J3 hd hlt hsz hdef (v := .map (some w.heap.size)) (w' := w.alloc (.map #[] 0)) ?_ (h1.putPure d (.d (.raw (.map (some w.heap.size)))) _ (RepV.raw (by simp [Value.oneCell']) rfl)) (h w.heap.size); simp [execOp, ho, Instr.makeMap, newObj]; rfl
theorem b4m {t kt vt : TypeId} {x i : Operand} {c : Bool} (ho : o.op = .lookup t x i c) (ht : P.underlying t = some (.map kt vt)) {u : Value} (hx : A6 σ x = .d (.raw u)) {j : Nat} {m : List (D × D)} {E : Option (List (D × Nat) × Nat)} (hj : σ j = .hm u kt m E)
   {k z : D} (hi : asD (A6 σ i) = some k) (hk : F4 P kt k = true) (hz : E3 P vt = some z) (h : K (put σ d (a1c c z (M6 m k)))) : o.wp P a w (D4 P w0 L0 row n K) Q := by
 have hu : a.eval x = u := (H3 hR hx).raw_inv; have hrk := N4 hR hi; obtain ⟨g, m', es, clk, h1, rfl, h3, h4, h5, h6, h7, h8, h9, h10, h11⟩ := hR.mapT hj; have h8' : ∀ p ∈ m', F4 P kt p.1 = true := fun p hp => h8 p (h5.mem_iff.1 hp)
 have hn' : (m'.map (·.1)).Nodup := (h5.map _).nodup_iff.2 h7; obtain ⟨zv, hzv, hzr, _⟩ := a4N hz w L; rw [<- b3q h5 h7 hk] at h; rcases h6.find h8' hk hrk with ⟨f1, f2⟩ | ⟨i', e, x', f1, f2, f3, f4, f5⟩
 . rw [a4V f2] at h; cases c with
   | true =>
     refine E6 hd hlt hsz hdef hR (x := .tup [.d z, .d (.bool false)]) (v := .tuple #[zv, .bool false]) ?_ (RepV.tup2 hzr RepV.bool) h; simp [execOp, ho, hu, Instr.lookup, run_underlying ht, MapKept.run_getObj_map h3, X9 hk hrk, f1, hzv, Result.andThen]
   | false =>
     refine E6 hd hlt hsz hdef hR (x := .d z) (v := zv) ?_ hzr h; simp [execOp, ho, hu, Instr.lookup, run_underlying ht, MapKept.run_getObj_map h3, X9 hk hrk, f1, hzv, Result.andThen]
 . rw [a6H hn' hk (mem_of_getElem? f4)] at h; cases c with
   | true =>
     refine E6 hd hlt hsz hdef hR (x := .tup [.d x', .d (.bool true)]) (v := .tuple #[e.val, .bool true]) ?_ (RepV.tup2 f5 RepV.bool) h; simp [execOp, ho, hu, Instr.lookup, run_underlying ht, MapKept.run_getObj_map h3, X9 hk hrk, f1, Result.andThen]
   | false =>
     refine E6 hd hlt hsz hdef hR (x := .d x') (v := e.val) ?_ f5 h; simp [execOp, ho, hu, Instr.lookup, run_underlying ht, MapKept.run_getObj_map h3, X9 hk hrk, f1, Result.andThen]
theorem c1q {t kt vt : TypeId} {x : Operand} (ho : o.op = .call { callee := .builtin .len, args := #[x], argTypes := #[t] }) (ht : P.underlying t = some (.map kt vt)) {u : Value} (hx : A6 σ x = .d (.raw u)) {j : Nat} {kt' : TypeId} {m : List (D × D)}
   {E : Option (List (D × Nat) × Nat)} (hj : σ j = .hm u kt' m E) (h : K (put σ d (.d (.int .i64 m.length)))) : o.wp P a w (D4 P w0 L0 row n K) Q := by
 have hu : a.eval x = u := (H3 hR hx).raw_inv; obtain ⟨g, m', es, clk, h1, rfl, h3, h4, h5, h6, h7⟩ := hR.mapT hj; have hl : es.size = m.length := by rw [<- h5.length_eq, <- h6.len]; simp
 refine E6 hd hlt hsz hdef hR (x := .d (.int .i64 m.length)) (v := goInt es.size) ?_ (by rw [hl]; exact RepV.int) h; simp [execOp, ho, hu, resolve, invoke, builtin, Builtin.len_, run_underlying ht, MapKept.run_getObj_map h3, Result.andThen]
end
section
variable (hd : o.dst = none) (hsz : a.tmps.size = n) (hdef : a.defers = []) (hR : Rel P w0 L0 row w L O σ (C6 a))
include hd hsz hdef hR
theorem a9d {t kt vt : TypeId} {x i y : Operand} (ho : o.op = .mapUpdate t x i y \/ o.op = .insert t x i y) (ht : P.underlying t = some (.map kt vt)) {u : Value} (hx : A6 σ x = .d (.raw u)) {j : Nat} {m m2 : List (D × D)}
   {E : Option (List (D × Nat) × Nat)} (hj : σ j = .hm u kt m E) {k z : D} (hi : asD (A6 σ i) = some k) (hk : F4 P kt k = true) (hy : asD (A6 σ y) = some z) (hp : Perm m2 (S1 m k z)) (h : K (put σ j (.hm u kt m2 none))) :
   o.wp P a w (D4 P w0 L0 row n K) Q := by
 have hu : a.eval x = u := (H3 hR hx).raw_inv; obtain ⟨w', O', hrun, hR'⟩ := b1U hR ht hj hk (N4 hR hi) (N4 hR hy) hp; refine a7R hd hsz hdef (w' := w') ?_ hR' h; rcases ho with ho | ho <;> simp [execOp, ho, hu, hrun, Result.andThen]
end
theorem a9g {m : List (D × D)} {es : List MapEntry} (h : es.length = m.length) : (O4 m es).map (·.1) = m.map (·.1) := by
 unfold O4; rw [<- unzip_fst, unzip_zip_left (by simp [h])]
theorem a4Y : ∀ {m : List (D × D)} {es : List MapEntry} {i : Nat} {p : D × D} {e : MapEntry}, (m.map (·.1)).Nodup -> (∀ p ∈ m, I4 p.1 p.1 = true) -> m[i]? = some p -> es[i]? = some e -> a1o (O4 m es) p.1 = e.born
 | [], _, _, _, _, _, _, h, _ => by simp at h
 | _ :: _, [], _, _, _, _, _, _, h => by simp at h
 | q :: m, e' :: es, 0, p, e, _, hf, h1, h2 => by
   simp only [getElem?_cons_zero, Option.some.injEq] at h1 h2; subst h1; subst h2; simp [a1o, O4, hf q (by simp)]
 | q :: m, e' :: es, i + 1, p, e, hn, hf, h1, h2 => by
   simp only [getElem?_cons_succ] at h1 h2; rw [map_cons, nodup_cons] at hn; have hne : I4 q.1 p.1 = false := by
     cases he : I4 q.1 p.1 with
     | false => rfl
     | true => exact absurd (a1k he ▸ mem_map.2 ⟨_, mem_of_getElem? h1, rfl⟩) hn.1
   have := a4Y hn.2 (fun p hp => hf p (mem_cons_of_mem _ hp)) h1 h2; simp only [a1o, O4, map_cons, zip_cons_cons, find?_cons, hne] at this ⊢; exact this
theorem c3A {α : Type} {l : List α} (hn : l.Nodup) {i j : Nat} {x : α} (hi : l[i]? = some x) (hj : l[j]? = some x) : i = j := by
 obtain ⟨h1, h2⟩ := List.getElem?_eq_some_iff.1 hi; obtain ⟨h3, h4⟩ := List.getElem?_eq_some_iff.1 hj; rcases Nat.lt_trichotomy i j with h | h | h
 . exact absurd (h2.trans h4.symm) ((pairwise_iff_getElem.1 hn) i j h1 h3 h)
 . exact h
 . exact absurd (h4.trans h2.symm) ((pairwise_iff_getElem.1 hn) j i h3 h1 h)
section
variable (hd : o.dst = some d) (hlt : d < n) (hsz : a.tmps.size = n) (hdef : a.defers = []) (hR : Rel P w0 L0 row w L O σ (C6 a))
include hd hlt hsz hdef hR
end
def b5e (σ : St) (d : Option Nat) (r : AV) : St := match d with
 | some d => put σ d r
 | none => σ
theorem b8n (hlt : ∀ d, o.dst = some d -> d < n) (hsz : a.tmps.size = n) (hdef : a.defers = []) (hR : Rel P w0 L0 row w L O σ (C6 a)) {g : FuncId} {vals : List Value} {xa : List AV} (hexec : (execOp a.eval o).run P w = .ok (.enter g vals.toArray) w) (hvals : RCs P w L none xa vals)
   (ks : List Nat) (hks : ∀ k ∈ ks, isH (σ k) = true) (hnd : ks.Nodup) (b : Nat) {Post : AV -> List AV -> Prop} (hfn : G1 P g xa (ks.map σ) Post)
   (h : ∀ r hs', Post r hs' -> K (E7 (b5e (D8 σ ks) o.dst r) ks b hs')) :
   o.wp P a w (D4 P w0 L0 row n K) Q := by
 unfold Oper.wp; rw [hexec, Oper.upon_enter]; obtain ⟨t1, t2, O1, t3, t4, t5⟩ := hR.takeH ks hks hnd; refine (hfn.2 w L _ hR.lok hR.gl hvals t1 t2).mono ?_; rintro e w' ⟨v, L', og, r, hs', rfl, hgr, hlok', hold', hog', hap, hrc, hrh, hpost⟩
 show D4 P w0 L0 row n K (a.put o.dst v) w'
 have hS : H4 w L w' L' (fun b => some b ∈ (ks.map σ).map C9) := by
   refine ⟨fun b q hq => ?_, fun b hb hne => hgr.block b hb hne, fun b q hb hne => hold' b q hb hne⟩; have hb := hR.lok b q hq; have hbj : some b ∉ (ks.map σ).map C9 := fun hb => (t5 b hb).2.2.1 q hq
   refine ⟨(hold' b q hb hbj).2 hq, fun u hu => ?_⟩; rw [J4 (hgr.block b hb hbj)]; exact hu
 have hfresh : ∀ g, some g ∈ og :: hs'.map C9 -> g < w'.heap.size /\ (w0.heap.size <= g \/ row g) /\ ∀ i, O1 i ≠ some g := fun g hg => by
   have := hog' g hg; refine ⟨this.1, ?_, fun i hi => ?_⟩
   . rcases this.2 with h9 | h9
     . exact .inl (Nat.le_trans hR.grown.size h9)
     . exact (t5 g h9).1
   . rcases this.2 with h9 | h9
     . have := (t3.olt i g hi).1; omega
     . exact (t5 g h9).2.2.2.1 i hi
 have hmid : ∃ O2, Rel P w0 L0 row w' L' O2 (b5e (D8 σ ks) o.dst r) (C6 (a.put o.dst v)) /\ ∀ g, some g ∈ hs'.map C9 -> ∀ i, O2 i ≠ some g := by
   cases hd : o.dst with
   | some d =>
     have h1 := t3.putOwn d r v og _ hS (hR.grown.then hgr (fun b hb => (t5 b hb).1)) hgr.size hlok' (fun b hb => (t5 b hb).1) (fun i b _ hi hb => (t5 b hb).2.2.2.1 i hi) (fun g hg => by
       have := hfresh g (by simp [hg]); exact ⟨this.1, this.2.1, fun i _ => this.2.2 i⟩) (RC.toRA hrc _ _ _ _)
     refine ⟨_, by rw [a1s (show d < a.tmps.size by rw [hsz]; exact hlt d hd)]; exact h1, fun g hg i hi => ?_⟩; simp only [E4] at hi; split at hi
     . exact hap.1 g hi hg
     . exact (hfresh g (by simp only [mem_cons]; exact .inr hg)).2.2 i hi
   | none =>
     refine ⟨O1, ⟨hR.grown.then hgr (fun b hb => (t5 b hb).1), hlok', t3.gl.mono hS.ext, fun b q hb hr => ?_, fun i => ?_, t3.inj, fun i g hi => ⟨Nat.lt_of_lt_of_le (t3.olt i g hi).1 hgr.size, (t3.olt i g hi).2⟩⟩, fun g hg i => (hfresh g (by simp only [mem_cons]; exact .inr hg)).2.2 i⟩
     . have hb' : b < w.heap.size := Nat.lt_of_lt_of_le hb t3.grown.size; refine (hS.lim b q hb' (fun e => ?_)).trans (t3.old b q hb hr); rcases (t5 b e).1 with h1 | h1
       . omega
       . exact hr h1
     . exact RA.step (og := O1 i) hS (fun g hg => ⟨(t3.olt i g hg).1, fun hm => (t5 g hm).2.2.2.1 i hg⟩) (t3.slots i)
 obtain ⟨O2, h1, h1b⟩ := hmid; obtain ⟨O3, h2⟩ := Rel.putNames hs' ks b h1 hrh hap.2 (fun g hg => by
   have := hfresh g (by simp only [mem_cons]; exact .inr hg); exact ⟨this.1, this.2.1, h1b g hg⟩)
 refine ⟨L', O3, _, h2, ?_, ?_, h r hs' hpost⟩
 . cases o.dst <;> simpa [Act.put] using hdef
 . cases o.dst <;> simpa [Act.put] using hsz
theorem c2m (hlt : ∀ d, o.dst = some d -> d < n) (hsz : a.tmps.size = n) (hdef : a.defers = []) (hR : Rel P w0 L0 row w L O σ (C6 a)) {f : Operand} {args : Array Operand} {ts : Array TypeId} (ho : o.op = .call { callee := .value f, args, argTypes := ts }) {g : FuncId} {caps : List D} (hf : A6 σ f = .d (.clo g caps)) (hc : ∀ c ∈ caps, c.isAgg = false)
   {xa : List AV} (ha : W5 σ args.toList = some xa) (ks : List Nat) (hks : ∀ k ∈ ks, isH (σ k) = true) (hnd : ks.Nodup) (b : Nat) {Post : AV -> List AV -> Prop} (hfn : G1 P g (xa ++ caps.map .d) (ks.map σ) Post)
   (h : ∀ r hs', Post r hs' -> K (E7 (b5e (D8 σ ks) o.dst r) ks b hs')) :
   o.wp P a w (D4 P w0 L0 row n K) Q := by
 obtain ⟨css, hcs, hfv⟩ := a2k (H3 hR hf); have hexec : (execOp a.eval o).run P w = .ok (.enter g (args.map a.eval ++ css.flatten.toArray)) w := by
   simp only [execOp, ho, resolve, hfv, Deferred.ofValue, Sem.run_bind, Sem.run_pure, Result.andThen_ok, invoke, Array.empty_append, hfn.1 _ w]
 have hvals : (args.map a.eval ++ css.flatten.toArray) = (args.toList.map a.eval ++ css.flatten).toArray := by
   apply Array.ext'; simp
 rw [hvals] at hexec; exact b8n hlt hsz hdef hR hexec (RCs.append (a4u hR _ xa ha) (a1g hcs hc none)) ks hks hnd b hfn h
theorem b7j : ∀ {ks vs : List D} {kss vss : List (List Value)} {es : List MapEntry}, A8 w L ks kss -> A8 w L vs vss -> kss = es.map (fun e => e.key.cells.toList) -> vss = es.map (fun e => e.val.cells.toList) ->
   ks.map D.isAgg = es.map (fun e => K7 e.key) -> vs.map D.isAgg = es.map (fun e => K7 e.val) -> M5 w L (ks.zip vs) es
 | [], vs, kss, vss, es, h1, _, h3, _, _, _ => by
   simp only [A8] at h1; subst h1; cases es with
   | nil => simp [M5]
   | cons e es => simp at h3
 | k :: ks, vs, kss, vss, es, h1, h2, h3, h4, h5, h6 => by
   cases es with
   | nil => simp at h5
   | cons e es =>
     cases vs with
     | nil => simp at h6
     | cons v vs =>
       simp only [A8] at h1 h2; obtain ⟨c, cs, rfl, g1, g2⟩ := h1; obtain ⟨c', cs', rfl, g3, g4⟩ := h2; simp only [map_cons, List.cons.injEq] at h3 h4 h5 h6; refine ⟨e, es, rfl, ⟨by rw [<- h3.1]; exact g1, h5.1.symm⟩, ⟨by rw [<- h4.1]; exact g3, h6.1.symm⟩, b7j g2 g4 h3.2 h4.2 h5.2 h6.2⟩
theorem a2X {u : Value} {ks vs : List D} {bs : List Nat} {clk : Nat} (h : RepV w L (.map u ks vs bs clk) v) : ∃ g es, v = .map (some g) /\ u = .map (some g) /\ w.heap[g]? = some (.map es clk) /\ L g 0 /\ M5 w L (ks.zip vs) es.toList /\ bs = es.toList.map (·.born) /\ ks.length = es.size /\ vs.length = es.size /\
   ks.Nodup /\ bs.Nodup /\ ∀ b ∈ bs, b < clk := by
 have h1 := h.cell rfl; simp only [Rep] at h1; obtain ⟨g, es, kss, vss, e1, e2, e3, e4, e5, e6, e7, e8, e9, e10, e11, e12, e13, e14⟩ := h1; refine ⟨g, es, by rw [<- e2]; simpa using e1, e2, e3, e4, b7j e5 e6 e7 e8 e9 e10, e11, ?_, ?_, e12, e13, e14⟩
 . have := congrArg List.length e9; simpa using this
 . have := congrArg List.length e10; simpa using this
theorem a5D {α β : Type} : ∀ {xs : List α} {ys : List β}, xs.length = ys.length -> (xs.zip ys).map (·.1) = xs
 | [], _, _ => rfl
 | x :: xs, y :: ys, h => by simp only [zip_cons_cons, map_cons, a5D (xs := xs) (ys := ys) (by simpa using h)]
 | _ :: _, [], h => by simp at h
section
variable (hd : o.dst = some d) (hlt : d < n) (hsz : a.tmps.size = n) (hdef : a.defers = []) (hR : Rel P w0 L0 row w L O σ (C6 a))
include hd hlt hsz hdef hR
theorem b2I {t kt vt : TypeId} {x i : Operand} {c : Bool} (ho : o.op = .lookup t x i c) (ht : P.underlying t = some (.map kt vt)) {u : Value} {ks vs : List D} {bs : List Nat} {clk : Nat} (hx : A6 σ x = .d (.map u ks vs bs clk)) (hf : ∀ k ∈ ks, F4 P kt k = true)
   {k z : D} (hi : asD (A6 σ i) = some k) (hk : F4 P kt k = true) (hz : E3 P vt = some z) (h : K (put σ d (a1c c z (M6 (ks.zip vs) k)))) : o.wp P a w (D4 P w0 L0 row n K) Q := by
 obtain ⟨g, es, hu, _, h3, h4, h6, h7, h8, h9, h10, h11, h12⟩ := a2X (H3 hR hx); have hrk := N4 hR hi; have hk1 : (ks.zip vs).map (·.1) = ks := a5D (by rw [h8, h9]); have h8' : ∀ p ∈ ks.zip vs, F4 P kt p.1 = true := fun p hp => hf p.1 (by rw [<- hk1]; exact mem_map.2 ⟨p, hp, rfl⟩)
 have hn' : ((ks.zip vs).map (·.1)).Nodup := by rw [hk1]; exact h10
 obtain ⟨zv, hzv, hzr, _⟩ := a4N hz w L; rcases h6.find h8' hk hrk with ⟨f1, f2⟩ | ⟨i', e, x', f1, f2, f3, f4, f5⟩
 . rw [a4V f2] at h; cases c with
   | true =>
     refine E6 hd hlt hsz hdef hR (x := .tup [.d z, .d (.bool false)]) (v := .tuple #[zv, .bool false]) ?_ (RepV.tup2 hzr RepV.bool) h; simp [execOp, ho, hu, Instr.lookup, run_underlying ht, MapKept.run_getObj_map h3, X9 hk hrk, f1, hzv, Result.andThen]
   | false =>
     refine E6 hd hlt hsz hdef hR (x := .d z) (v := zv) ?_ hzr h; simp [execOp, ho, hu, Instr.lookup, run_underlying ht, MapKept.run_getObj_map h3, X9 hk hrk, f1, hzv, Result.andThen]
 . rw [a6H hn' hk (mem_of_getElem? f4)] at h; cases c with
   | true =>
     refine E6 hd hlt hsz hdef hR (x := .tup [.d x', .d (.bool true)]) (v := .tuple #[e.val, .bool true]) ?_ (RepV.tup2 f5 RepV.bool) h; simp [execOp, ho, hu, Instr.lookup, run_underlying ht, MapKept.run_getObj_map h3, X9 hk hrk, f1, Result.andThen]
   | false =>
     refine E6 hd hlt hsz hdef hR (x := .d x') (v := e.val) ?_ f5 h; simp [execOp, ho, hu, Instr.lookup, run_underlying ht, MapKept.run_getObj_map h3, X9 hk hrk, f1, Result.andThen]
theorem c0D {t kt vt : TypeId} {x : Operand} (ho : o.op = .call { callee := .builtin .len, args := #[x], argTypes := #[t] }) (ht : P.underlying t = some (.map kt vt)) {u : Value} {ks vs : List D} {bs : List Nat} {clk : Nat} (hx : A6 σ x = .d (.map u ks vs bs clk))
   (h : K (put σ d (.d (.int .i64 ks.length)))) : o.wp P a w (D4 P w0 L0 row n K) Q := by
 obtain ⟨g, es, hu, _, h3, h4, h6, h7, h8, h9, h10, h11, h12⟩ := a2X (H3 hR hx); refine E6 hd hlt hsz hdef hR (x := .d (.int .i64 ks.length)) (v := goInt es.size) ?_ (by rw [h8]; exact RepV.int) h; simp [execOp, ho, hu, resolve, invoke, builtin, Builtin.len_, run_underlying ht, MapKept.run_getObj_map h3, Result.andThen]
theorem c2u {t kt vt : TypeId} {x : Operand} (ho : o.op = .range t x) (ht : P.underlying t = some (.map kt vt)) {u : Value} {ks vs : List D} {bs : List Nat} {clk : Nat} (hx : A6 σ x = .d (.map u ks vs bs clk))
   (h : K (put σ d (.mit u (ks.zip bs, clk) []))) : o.wp P a w (D4 P w0 L0 row n K) Q := by
 obtain ⟨g, es, hu, rfl, h3, _⟩ := a2X (H3 hR hx); have hR2 := hR.putNew (.mapIter (some g) clk #[] clk) 0 d (.mit (.map (some g)) (ks.zip bs, clk) []) (.pointer (some ⟨w.heap.size, 0, none⟩)) ⟨w.heap.size, g, rfl, rfl, rfl, heap_alloc_new w _, by simp, fun q hq => by
   rcases hq with hq | hq
   . have := hR.lok _ _ hq; omega
   . omega⟩
 refine J3 hd hlt hsz hdef ?_ hR2 h; simp [execOp, ho, hu, run_range_map w t kt vt g es clk ht h3, Result.andThen]
theorem c4K {t : Nat} (ho : o.op = .next (.tmp t) false) {u : Value} {ks vs : List D} {bs : List Nat} {clk : Nat} {seen : List D} (ht : σ t = .mit u (ks.zip bs, clk) seen) {j : Nat} (hj : σ j = .d (.map u ks vs bs clk)) (hf : ∀ k ∈ ks, I4 k k = true)
   (h1 : ∀ k v, (k, v) ∈ ks.zip vs -> k ∉ seen -> K (put (put σ t (.mit u (ks.zip bs, clk) (seen ++ [k]))) d (.tup [.d (.bool true), .d k, .d v]))) (h0 : (∀ p ∈ ks.zip vs, p.1 ∈ seen) -> K (put σ d (.tup [.d (.bool false)]))) :
   o.wp P a w (D4 P w0 L0 row n K) Q := by
 have hjs := hR.slots j; rw [hj] at hjs; obtain ⟨g, es, f2, rfl, f3, f4, f6, rfl, f7, f8, f9, f10, f11⟩ := a2X (show RepV w L (.map u ks vs bs clk) _ from hjs); have hs := hR.slots t; rw [ht] at hs; obtain ⟨r, g', e1, e2, e3, e4, e5, e6⟩ := hs; simp only [Value.map.injEq, Option.some.injEq] at e3; subst e3; simp only at e4 e5; have hk1 : (ks.zip vs).map (·.1) = ks := a5D (by rw [f7, f8]); have hzb : ks.zip (es.toList.map (·.born)) = O4 (ks.zip vs) es.toList := by unfold O4; rw [hk1]
 have hn' : ((ks.zip vs).map (·.1)).Nodup := by rw [hk1]; exact f9
 have hf' : ∀ p ∈ ks.zip vs, I4 p.1 p.1 = true := fun p hp => hf p.1 (by rw [<- hk1]; exact mem_map.2 ⟨p, hp, rfl⟩)
 rw [hzb] at e4 e5 h1 ht; have hrg := (hR.olt t r e1); have hev : a.eval (.tmp t) = .pointer (some ⟨r, 0, none⟩) := e2; rw [a9g f6.len] at e5; rcases run_next_at (P := P) w o.type r g clk clk _ es clk e4 f3 (fun e he => f11 _ (mem_map.2 ⟨e, he, rfl⟩)) (Nat.le_refl _) with ⟨hL, hrun⟩ | ⟨e, he, w1, hw1, hrun⟩
 . have hR2 := hR.putPure d (.tup [.d (.bool false)]) (.tuple #[.bool false]) (by
     simp only [RA, RC, RCs]; exact ⟨[.bool false], rfl, _, [], rfl, RepV.bool, rfl⟩)
   refine J3 hd hlt hsz hdef (v := .tuple #[.bool false]) (w' := w) (by simp [execOp, ho, hev, hrun, Result.andThen]) hR2 (h0 fun p hp => ?_); obtain ⟨i, hi⟩ := getElem?_of_mem hp; obtain ⟨en, hen, _⟩ := f6.at_ hi; have hseen := all_seen es _ hL en (mem_of_getElem? hen); rw [Array.contains_iff_mem] at hseen; simp only [mem_toArray, mem_map] at hseen; obtain ⟨k', hk', hb⟩ := hseen; obtain ⟨p', hp', rfl⟩ := mem_map.1 (e5 k' hk'); obtain ⟨i', hi'⟩ := getElem?_of_mem hp'; obtain ⟨en', hen', _⟩ := f6.at_ hi'; rw [a4Y hn' hf' hi' hen'] at hb; have : i' = i := c3A f10 (x := en'.born) (by rw [getElem?_map, hen']; rfl) (by rw [getElem?_map, hen, hb]; rfl); subst this; rw [hi] at hi'; simp only [Option.some.injEq] at hi'; rw [hi']; exact hk'
 . obtain ⟨he1, he2⟩ := mem_left he; obtain ⟨i, hi⟩ := getElem?_of_mem he1; obtain ⟨p, hp, g1, g2⟩ := f6.get hi; have hbo := a4Y hn' hf' hp hi; have hns : p.1 ∉ seen := fun hs => by
     have : (seen.map (a1o (O4 (ks.zip vs) es.toList))).toArray.contains e.born = true := by
       rw [Array.contains_iff_mem]; simp only [mem_toArray, mem_map]; exact ⟨p.1, hs, hbo⟩
     rw [this] at he2; cases he2
   have hRw : Rel P w0 L0 row w1 L O σ (C6 a) := by
     rcases hw1 with rfl | rfl
     . exact hR
     . exact hR.drew
   have hw1h : w1.heap = w.heap := by rcases hw1 with rfl | rfl <;> rfl
   have hset := MapKept.heap_set (w := w1) (o' := .mapIter (some g) clk ((seen.map (a1o (O4 (ks.zip vs) es.toList))).toArray.push e.born) clk) (r := r) (by rw [hw1h]; exact e4); have hS : H4 w1 L (ChangeMaps.setBlock w1 r (.mapIter (some g) clk ((seen.map (a1o (O4 (ks.zip vs) es.toList))).toArray.push e.born) clk)) L (H1 (some r)) := by
     refine ⟨fun b q hq => ⟨hq, fun v hv => ?_⟩, fun b _ hne => hset.2 b (fun e => hne (show some r = some b by rw [e])), fun _ _ _ _ => Iff.rfl⟩; have hne : b ≠ r := fun e => e6 q (e ▸ hq)
     rw [J4 (hset.2 b hne)]; exact hv
   have hR2 := hRw.putOwn (w' := ChangeMaps.setBlock w1 r (.mapIter (some g) clk ((seen.map (a1o (O4 (ks.zip vs) es.toList))).toArray.push e.born) clk)) t (.mit (.map (some g)) (O4 (ks.zip vs) es.toList, clk) (seen ++ [p.1])) (C6 a t) (O t) (H1 (some r)) hS
     (hRw.grown.then ⟨rfl, rfl, rfl, by simp [ChangeMaps.setBlock], fun k hk hne => hset.2 k (fun e => hne (show some r = some k by rw [e])), Nat.le_refl _⟩ (fun q hq => by obtain rfl : r = q := (by simpa [H1] using hq); exact hrg.2)) (by simp [ChangeMaps.setBlock])
     (fun b q hq => by simpa [ChangeMaps.setBlock] using hRw.lok b q hq) (fun q hq => by obtain rfl : r = q := (by simpa [H1] using hq); exact hrg.2) (fun i q hi hO e => hi (hR.inj i t q hO (by rw [e1]; exact e)))
     (fun q hq => ⟨by simpa [ChangeMaps.setBlock] using (hRw.olt t q hq).1, (hRw.olt t q hq).2, fun i hi e => hi (hR.inj i t q e hq)⟩)
     (by
       refine ⟨r, g, e1, e2, rfl, ?_, ?_, e6⟩
       . show (w1.heap.setIfInBounds r _)[r]? = _
         rw [hset.1]; simp [hbo]
       . intro k hk; rw [a9g f6.len]; rcases mem_append.1 hk with hk | hk
         . exact e5 k hk
         . rw [mem_singleton.1 hk]; exact mem_map.2 ⟨p, mem_of_getElem? hp, rfl⟩)
   rw [O0] at hR2; refine J3 hd hlt hsz hdef (v := .tuple #[.bool true, e.key, e.val]) ?_ (hR2.putPure d (.tup [.d (.bool true), .d p.1, .d p.2]) _ ?_) (h1 p.1 p.2 (mem_of_getElem? hp) hns)
   . simp [execOp, ho, hev, hrun, Result.andThen]
   . simp only [RA, RC, RCs]; have hx1 : Ext w L (ChangeMaps.setBlock w1 r (.mapIter (some g) clk ((seen.map (a1o (O4 (ks.zip vs) es.toList))).toArray.push e.born) clk)) L := fun b q hq => ⟨hq, fun v hv => (hS.ext b q hq).2 v (by
       rw [J4 (w := w) (by rw [hw1h])]; exact hv)⟩
     exact ⟨[.bool true, e.key, e.val], rfl, _, _, rfl, RepV.bool, _, _, rfl, g1.mono hx1, _, _, rfl, g2.mono hx1, rfl⟩
theorem c2X {t : Nat} (ho : o.op = .entry (.tmp t)) {u : Value} {ks vs : List D} {bs : List Nat} {clk : Nat} {seen : List D} (ht : σ t = .mit u (ks.zip bs, clk) seen) {j : Nat} (hj : σ j = .d (.map u ks vs bs clk)) (hf : ∀ k ∈ ks, I4 k k = true)
   {s2 : List D} {k v : D} (hs : seen = s2 ++ [k]) (hm : (k, v) ∈ ks.zip vs) (h : K (put σ d (.tup [.d k, .d v]))) : o.wp P a w (D4 P w0 L0 row n K) Q := by
 have hjs := hR.slots j; rw [hj] at hjs; obtain ⟨g, es, f2, rfl, f3, f4, f6, rfl, f7, f8, f9, f10, f11⟩ := a2X (show RepV w L (.map u ks vs bs clk) _ from hjs); have hst := hR.slots t; rw [ht] at hst; obtain ⟨r, g', e1, e2, e3, e4, e5, e6⟩ := hst; simp only [Value.map.injEq, Option.some.injEq] at e3; subst e3; subst hs; have hk1 : (ks.zip vs).map (·.1) = ks := a5D (by rw [f7, f8]); have hzb : ks.zip (es.toList.map (·.born)) = O4 (ks.zip vs) es.toList := by unfold O4; rw [hk1]
 rw [hzb] at e4; simp only at e4; have hn' : ((ks.zip vs).map (·.1)).Nodup := by rw [hk1]; exact f9
 have hf' : ∀ p ∈ ks.zip vs, I4 p.1 p.1 = true := fun p hp => hf p.1 (by rw [<- hk1]; exact mem_map.2 ⟨p, hp, rfl⟩)
 obtain ⟨i, hi⟩ := getElem?_of_mem hm; obtain ⟨e, he, g1, g2⟩ := f6.at_ hi; have hbo := a4Y hn' hf' hi he; simp only at hbo; have hev : a.eval (.tmp t) = .pointer (some ⟨r, 0, none⟩) := e2; have hseen : ((s2 ++ [k]).map (a1o (O4 (ks.zip vs) es.toList))).toArray = ((s2.map (a1o (O4 (ks.zip vs) es.toList))).toArray).push e.born := by
   apply Array.ext'
   simp [hbo]
 rw [hseen] at e4; have hrun := run_entry_at (P := P) w r g clk _ es clk e e4 f3 (mem_of_getElem? he) f10; refine E6 hd hlt hsz hdef hR (x := .tup [.d k, .d v]) (v := .tuple #[e.key, e.val]) ?_ (RepV.tup2 g1 g2) h; simp [execOp, ho, hev, hrun, Result.andThen]
end
def a5U (P : Program) (t : TypeId) (u : Value) (k : D) (c : Bool) (σ : St) (C : AV -> Prop) : Prop :=
 ∃ j kt vt z m E, 1000000 <= j /\ P.underlying t = some (.map kt vt) /\ σ j = .hm u kt m E /\ F4 P kt k = true /\ E3 P vt = some z /\ C (a1c c z (M6 m k))
def b5I (P : Program) (t : TypeId) (u : Value) (σ : St) (C : AV -> Prop) : Prop :=
 ∃ j kt vt kt' m E, 1000000 <= j /\ P.underlying t = some (.map kt vt) /\ σ j = .hm u kt' m E /\ C (.d (.int .i64 ((m : List (D × D)).length : Nat)))
def b0o (σ : St) (d : Nat) (K : St -> Prop) : Prop := ∃ (kt : TypeId) (h : Nat), σ h = .undef /\ ∀ g, K (put (put σ h (.hm (.map (some g)) kt [] none)) d (.d (.raw (.map (some g)))))
def b9d (P : Program) (t : TypeId) (u : Value) (k z : D) (σ : St) (K : St -> Prop) : Prop :=
 ∃ j kt vt m m2 E, P.underlying t = some (.map kt vt) /\ σ j = .hm u kt m E /\ F4 P kt k = true /\ Perm m2 (S1 m k z) /\ K (put σ j (.hm u kt m2 none))
def b8G (t : Nat) (u : Value) (E : List (D × Nat) × Nat) (seen : List D) (σ : St) (d : Nat) (K : St -> Prop) : Prop :=
 ∃ (j : Nat) (ks vs : List D) (bs : List Nat) (clk : Nat), σ j = .d (.map u ks vs bs clk) /\ E = (ks.zip bs, clk) /\ (∀ k ∈ ks, I4 k k = true) /\ (∀ k v, (k, v) ∈ ks.zip vs -> k ∉ seen -> K (put (put σ t (.mit u E (seen ++ [k]))) d (.tup [.d (.bool true), .d k, .d v]))) /\
   ((∀ p ∈ ks.zip vs, p.1 ∈ seen) -> K (put σ d (.tup [.d (.bool false)])))
def b9g (u : Value) (E : List (D × Nat) × Nat) (seen : List D) (σ : St) (d : Nat) (K : St -> Prop) : Prop :=
 ∃ (j : Nat) (ks vs : List D) (bs : List Nat) (clk : Nat) (s2 : List D) (k v : D), σ j = .d (.map u ks vs bs clk) /\ E = (ks.zip bs, clk) /\ (∀ k ∈ ks, I4 k k = true) /\ seen = s2 ++ [k] /\ (k, v) ∈ ks.zip vs /\ K (put σ d (.tup [.d k, .d v]))
def a6m (P : Program) (t : TypeId) (ks vs : List D) (k : D) (c : Bool) (C : AV -> Prop) : Prop :=
 ∃ kt vt z, P.underlying t = some (.map kt vt) /\ F4 P kt k = true /\ (∀ k ∈ ks, F4 P kt k = true) /\ E3 P vt = some z /\ C (a1c c z (M6 (ks.zip vs) k))
def b4v (P : Program) (t : TypeId) (C : Prop) : Prop := (∃ kt vt, P.underlying t = some (.map kt vt)) /\ C
def c2s (P : Program) (g : FuncId) (args : List AV) (σ : St) (d : Option Nat) (K : St -> Prop) : Prop :=
 ∃ ks b Post, (∀ k ∈ ks, isH (σ k) = true) /\ ks.Nodup /\ G1 P g args (ks.map σ) Post /\ ∀ r hs', Post r hs' -> K (E7 (b5e (D8 σ ks) d r) ks b hs')
end Go.Vw
namespace Go.Vw
open Go.RowKit Go.Proofs
def B4 {α : Type} (x : Option α) (f : α -> Prop) : Prop :=
 match x with
 | some y => f y
 | none => False
@[simp] theorem L9 {α : Type} (y : α) (f : α -> Prop) : B4 (some y) f = f y := rfl
@[simp] theorem b8Z {α : Type} (f : α -> Prop) : B4 none f = False := rfl
theorem A7 {α : Type} {x : Option α} {f : α -> Prop} (h : B4 x f) : ∃ y, x = some y /\ f y := by
 cases x with
 | none => exact h.elim
 | some y => exact ⟨y, rfl, h⟩
def I1 (P : Program) (t : TypeId) : Option TypeId :=
 match P.underlying t with
 | some (.slice e) => if e < 100000 then some e else none
 | _ => none
theorem T0 {P : Program} {t e : TypeId} (h : I1 P t = some e) : e < 100000 := by
 unfold I1 at h; split at h
 . split at h
   . simp only [Option.some.injEq] at h; subst h; assumption
   . cases h
 . cases h
theorem K4 {P : Program} {t e : TypeId} (h : I1 P t = some e) : P.underlying t = some (.slice e) := by
 unfold I1 at h; split at h
 . rename_i e' hu
   split at h
   . simp only [Option.some.injEq] at h; subst h; exact hu
   . cases h
 . cases h
def K0 : List D -> Option Str
 | [] => some []
 | .int .u8 m :: l => (match K0 l with
   | some s => if 0 <= m /\ m < 256 then some (UInt8.ofNat m.toNat :: s) else none
   | none => none)
 | _ :: _ => none
theorem b1n : ∀ {l : List D} {s : Str}, K0 l = some s -> l = s.map fun c => .int .u8 c.toNat
 | [], s, h => by simp only [K0, Option.some.injEq] at h; subst h; rfl
 | .int .u8 m :: l, s, h => by
   simp only [K0] at h; split at h
   . rename_i s' hs
     split at h
     . rename_i hm
       simp only [Option.some.injEq] at h; subst h; simp only [map_cons, b1n hs]; congr 2
       have : m.toNat % 256 = m.toNat := (by omega); simp [UInt8.toNat_ofNat', this]; omega
     . cases h
   . cases h
 | .int .i8 _ :: _, _, h => by simp [K0] at h
 | .int .i16 _ :: _, _, h => by simp [K0] at h
 | .int .i32 _ :: _, _, h => by simp [K0] at h
 | .int .i64 _ :: _, _, h => by simp [K0] at h
 | .int .u16 _ :: _, _, h => by simp [K0] at h
 | .int .u32 _ :: _, _, h => by simp [K0] at h
 | .int .u64 _ :: _, _, h => by simp [K0] at h
 | .bool _ :: _, _, h => by simp [K0] at h
 | .str _ :: _, _, h => by simp [K0] at h
 | .sl _ :: _, _, h => by simp [K0] at h
 | .agg _ :: _, _, h => by simp [K0] at h
 | .ref _ :: _, _, h => by simp [K0] at h
 | .clo _ _ :: _, _, h => by simp [K0] at h
 | .bnd _ _ :: _, _, h => by simp [K0] at h
 | .nilp :: _, _, h => by simp [K0] at h
 | .raw _ :: _, _, h => by simp [K0] at h
 | .map _ _ _ _ _ :: _, _, h => by simp [K0] at h
@[simp] theorem b1E (s : Str) : K0 (B5 s) = some s := by
 induction s with
 | nil => rfl
 | cons c s ih =>
   have hc := c.toNat_lt; have e : K0 (B5 (c :: s)) = (match K0 (B5 s) with
     | some s => if (0 : Int) <= c.toNat /\ (c.toNat : Int) < 256 then some (UInt8.ofNat (c.toNat : Int).toNat :: s) else none
     | none => none) := rfl
   rw [e, ih]; have h2 : (0 : Int) <= c.toNat /\ (c.toNat : Int) < 256 := (by omega); simp only [h2, and_self, if_true, Int.toNat_natCast, UInt8.ofNat_toNat]
def b3K (P : Program) (g : FuncId) (args : List AV) (σ : St) (d : Nat) (b : Bool) (K : St -> Prop) : Prop := ∃ r, Ctr P g args r /\ K (put σ d (a1K b r))
def b3M (P : Program) (g : FuncId) (args : List AV) (σ : St) (d : Nat) (K : St -> Prop) : Prop := ∃ y, a3M y = true /\ Ctr P g args (.d y) /\ K (put σ d (.d y))
def InK (P : Program) (g : FuncId) (x : AV) (rest : List AV) (σ : St) (d : Nat) (K : St -> Prop) : Prop :=
 match x with
 | .bor j true e l => ∃ l', a5Z P g e l rest l' /\ K (put (put σ j (.own true e l')) d (.tup []))
 | .d (.raw u) => ∃ h e l l', σ h = .hs u e l /\ a5Z P g e l rest l' /\ K (put (put σ h (.hs u e l')) d (.tup []))
 | _ => False
def b0s (P : Program) (g : FuncId) (x : AV) (rest : List AV) (σ : St) (d : Nat) (K : St -> Prop) : Prop :=
 match x with
 | .d (.raw u) => ∃ h e l e' l', σ h = .hs u e l /\ Ctr P g (.own true e l :: rest) (.own true e' l') /\ ∀ A c, K (put (put σ h (.hs (.slice A l'.length c) e' l')) d (.d (.raw (.slice A l'.length c))))
 | _ => False
def a0S (P : Program) (g : FuncId) (args : List AV) (σ : St) (d : Nat) (K : St -> Prop) : Prop :=
 ∃ ks b Post, (∀ k ∈ ks, isH (σ k) = true) /\ ks.Nodup /\ G1 P g args (ks.map σ) Post /\ ∀ r hs', Post r hs' -> K (E7 (put (D8 σ ks) d r) ks b hs')
def b3J (u : Value) (σ : St) (C : List D -> Prop) : Prop := ∃ j e l, σ j = .hs u e l /\ C l
def a2n (v : AV) (σ : St) (C : List D -> Prop) : Prop := match v with
 | .d (.raw u) => b3J u σ C
 | v => B4 (Z2 v) C
def b5y (e : TypeId) (z : Nat × Nat) (ds : List D) (u : Value) (σ : St) (d : Nat) (K : St -> Prop) : Prop :=
 ∃ h l, (σ h = .hs u e l \/ (u = .slice none 0 0 /\ l = [] /\ σ h = .undef)) /\ (∀ u ∈ ds, C0 u = z.1) /\ (l.length + ds.length) * z.2 <= 140737488355328 /\ l.length + ds.length <= 140737488355328 /\
   ∀ A c, K (put (put σ h (.hs (.slice A (l ++ ds).length c) e (l ++ ds))) d (.d (.raw (.slice A (l ++ ds).length c))))
def b3H (e : TypeId) (st : Str) (u : Value) (σ : St) (d : Nat) (K : St -> Prop) : Prop :=
 ∃ h l, (σ h = .hs u e l \/ (u = .slice none 0 0 /\ l = [] /\ σ h = .undef)) /\ l.length + List.length st <= 140737488355328 /\
   ∀ A c, K (put (put σ h (.hs (.slice A (l ++ B5 st).length c) e (l ++ B5 st))) d (.d (.raw (.slice A (l ++ B5 st).length c))))
def b9c (σ : St) : Option (Nat × TypeId) -> St
 | none => σ
 | some (k, e) => put σ k (.hs (.slice none 0 0) e [])
def c4a (P : Program) (σ : St) : Option (Nat × TypeId) -> Prop
 | none => True
 | some (k, e) => σ k = .undef /\ (P.info? (ety e)).isSome = true
def b5o (P : Program) (e : TypeId) (z : D) (σ : St) (d : Nat) (K : St -> Prop) : Prop :=
 ∃ h nk, c4a P σ nk /\ b9c σ nk h = .undef /\ ∀ g, K (put (put (b9c σ nk) h (.hb (.pointer (some ⟨g, 0, none⟩)) e z)) d (.d (.raw (.pointer (some ⟨g, 0, none⟩)))))
def b8K (e : TypeId) (z : D) (σ : St) (d : Nat) (K : St -> Prop) : Prop :=
 ∃ h, σ h = .undef /\ ∀ g, K (put (put σ h (.hb (.pointer (some ⟨g, 0, none⟩)) e z)) d (.d (.raw (.pointer (some ⟨g, 0, none⟩)))))
theorem Rel.nilN {P : Program} {w0 w : World} {L0 L : Nat -> Nat -> Prop} {row : Nat -> Prop} {O : Nat -> Option Nat} {σ : St} {tm : Nat -> Value} (h : Rel P w0 L0 row w L O σ tm) : ∀ {nk : Option (Nat × TypeId)}, c4a P σ nk -> ∃ O', Rel P w0 L0 row w L O' (b9c σ nk) tm
 | none, _ => ⟨O, h⟩
 | some (k, e), hk => by
   obtain ⟨_, hi⟩ := hk; obtain ⟨i, hi⟩ := Option.isSome_iff_exists.1 hi; refine ⟨_, h.putName k (.hs (.slice none 0 0) e []) ⟨rfl, ?_⟩ (fun g hg => by simp [C9, Value.ownBlock] at hg)⟩; refine ⟨[], i.size, by rw [hi]; rfl, by simp [A8], by simp, ⟨by simp, .inl ⟨rfl, rfl⟩⟩, fun g hg => by simp [Value.ownBlock] at hg⟩
def b3y (e : TypeId) (m : Nat) (u : Value) (σ : St) (C : AV -> Prop) : Prop := ∃ j e' l, 1000000 <= j /\ σ j = .hs u e' l /\ ety e' = e /\ m < l.length /\ C (.eadr j m [])
def b0M (P : Program) (s f : Nat) (u : Value) (σ : St) (C : AV -> Prop) : Prop := ∃ j e ds, 1000000 <= j /\ σ j = .hb u e (.agg ds) /\ f < ds.length /\ E0 P s f = some (D6 (ds.take f)) /\ C (.adr j [f])
def b5f (e : TypeId) (i : Nat) (u : Value) (σ : St) (d : Nat) (K : St -> Prop) : Prop := ∃ j e' l, σ j = .hs u e' l /\ ety e' = e /\ i <= l.length /\ K (put (put σ j .undef) d (.own true e' (l.take i)))
def c6p (t : Nat) (e : TypeId) (l : List D) (σ : St) (d : Nat) (K : St -> Prop) : Prop :=
 ∃ h, h ≠ t /\ σ h = .undef /\ ∀ A c, K (put (put (put σ t (.d (.raw (.slice A l.length c)))) h (.hs (.slice A l.length c) e l)) d (.d (.raw (.slice A l.length c))))
def UnK (t : Nat) (σ : St) (d : Nat) (K : St -> Prop) : Prop :=
 ∃ u h e l, h ≠ t /\ σ t = .d (.raw u) /\ σ h = .hs u e l /\ K (put (put (put σ h .undef) t (.own true e l)) d (.bor t true e l))
section
variable (P : Program) (F : Nat -> Bool)
def a6R (c : Call) (d : Nat) (K : St -> Prop) (σ : St) : Prop :=
 match c.callee, c.args.toList, c.argTypes.toList with
 | .builtin .len, [x], [t] => (match P.underlying t with
   | some (.slice _) => (match A6 σ x with
     | .sub j lo => B4 (N8 (σ j)) fun q => K (put σ d (.d (.int .i64 ((q.2.length - lo : Nat) : Int))))
     | y => B4 (a3G y) fun l => K (put σ d (.d (.int .i64 l))))
   | some .string => (match A6 σ x with
     | .d (.str s) => K (put σ d (.d (.int .i64 s.length)))
     | _ => False)
   | some (.map _ _) => (match A6 σ x with
     | .d (.raw u) => b5I P t u σ fun y => K (put σ d y)
     | .d (.map _ ks _ _ _) => b4v P t (K (put σ d (.d (.int .i64 (ks.length : Nat)))))
     | _ => False)
   | _ => False)
 | .builtin .append, [x, y], [t, t'] => if t' = t then B4 (I1 P t) fun e => (match A6 σ x with
   | .bor j m e' l => e' = e /\ B4 (esz P e) fun z => a2n (A6 σ y) σ fun ds => (∀ u ∈ ds, C0 u = z.1) /\ (l.length + ds.length) * z.2 <= 140737488355328 /\ l.length + ds.length <= 140737488355328 /\
       K (put (put σ j (left m l)) d (.own m e (l ++ ds)))
   | .d (.raw u) => B4 (esz P e) fun z => B4 (Z2 (A6 σ y)) fun ds => b5y e z ds u σ d K
   | _ => False)
   else P.underlying t' = some .string /\ B4 (I1 P t) fun e => esz P e = some (1, 1) /\ (match A6 σ x, A6 σ y with
   | .bor j m e' l, .d (.str st) => e' = e /\ l.length + List.length st <= 140737488355328 /\ K (put (put σ j (left m l)) d (.own m e (l ++ B5 st)))
   | .d (.raw u), .d (.str st) => b3H e st u σ d K
   | _, _ => False)
 | .builtin .min, [x, y], [t, _] => (match P.underlying t, A6 σ x, A6 σ y with
   | some (.int k), .d (.int k' p), .d (.int _ q) => k' = k /\ K (put σ d (.d (.int k (if q < p then q else p))))
   | _, _, _ => False)
 | .value f, xs, _ => (match A6 σ f with
   | .d (.clo g caps) => (caps.all fun c => !c.isAgg) = true /\
     if F (d + 2000000) then B4 (a1u σ xs) fun xa => b3M P g (xa ++ caps.map .d) σ d K
     else if F (d + 3000000) then (match xs with
       | x :: ys => B4 (W5 σ ys) fun xa => InK P g (A6 σ x) (xa ++ caps.map .d) σ d K
       | [] => False)
     else if F (d + 4000000) then (match xs with
       | x :: ys => B4 (W5 σ ys) fun xa => b0s P g (A6 σ x) (xa ++ caps.map .d) σ d K
       | [] => False)
     else if F (d + 5000000) then B4 (W5 σ xs) fun xa => a0S P g (xa ++ caps.map .d) σ d K
     else (T4 σ xs).length <= 1 /\ B4 (a2G σ xs) fun xa => b3K P g (xa ++ caps.map .d) (eat σ (T4 σ xs)) d (F d) K
   | _ => False)
 | _, _, _ => False
def a3P (x : Operand) (ty : TypeId) (asg : Bool) (d : Nat) (K : St -> Prop) (σ : St) : Prop :=
 match x with
 | .tmp t => (match σ t with
   | .own m e l => if asg then K (put (put σ t .undef) d (.own m e l)) else K (put σ d (.bor t m e l))
   | .tup l => K (put (put σ t .undef) d (.tup l))
   | _ => K (put σ d (A6 σ x)))
 | .const (.slice none 0 0) => (match I1 P ty with
   | some e => B4 (E5 P e) fun _ => K (put σ d (.own (F d) e []))
   | none => K (put σ d (A6 σ x)))
 | _ => K (put σ d (A6 σ x))
def a1x (t : TypeId) (x i : Operand) (d : Nat) (K : St -> Prop) (σ : St) : Prop := B4 (I1 P t) fun e => match A6 σ i with
 | .d (.int _ m) => 0 <= m /\ (match A6 σ x with
   | .bor j true e' l => ety e' = e /\ m.toNat < l.length /\ K (put σ d (.eadr j m.toNat []))
   | .d (.raw u) => b3y e m.toNat u σ fun y => K (put σ d y)
   | .sub j lo => B4 (N8 (σ j)) fun q => ety q.1 = e /\ lo + m.toNat < q.2.length /\ K (put σ d (.eadr j (lo + m.toNat) []))
   | y => (match asD y with
     | some (.sl ds) => B4 (E5 P e) fun sz => B4 (ds[m.toNat]?) fun z => C0 z = sz /\ K (put σ d (.d (.ref z)))
     | _ => False))
 | _ => False
def a1z (s : TypeId) (x : Operand) (f : Nat) (d : Nat) (K : St -> Prop) (σ : St) : Prop :=
 match A6 σ x with
 | .d (.ref (.agg ds)) => B4 (ds[f]?) fun y => E0 P s f = some (D6 (ds.take f)) /\ K (put σ d (.d (.ref y)))
 | .d (.raw u) => b0M P s f u σ fun y => K (put σ d y)
 | .adr j p => (match S5 (σ j) with
   | some b => (match D.get p b with
     | some (.agg ds) => f < ds.length /\ E0 P s f = some (D6 (ds.take f)) /\ K (put σ d (.adr j (p ++ [f])))
     | _ => False)
   | _ => False)
 | .eadr j i p => (match N8 (σ j) with
   | some (_, l) => B4 (l[i]?) fun y => (match D.get p y with
     | some (.agg ds) => f < ds.length /\ E0 P s f = some (D6 (ds.take f)) /\ K (put σ d (.eadr j i (p ++ [f])))
     | _ => False)
   | _ => False)
 | _ => False
def a5I (t : TypeId) (x : Operand) (lo hi : Option Operand) (d : Nat) (K : St -> Prop) (σ : St) : Prop :=
 match P.underlying t with
 | some .string => (match A6 σ x with
   | .d (.str s) => B4 (bnd σ lo 0) fun i => B4 (bnd σ hi s.length) fun j => i <= j /\ j <= s.length /\ K (put σ d (.d (.str ((s.drop i).take (j - i)))))
   | _ => False)
 | some (.slice e) => (match A6 σ x with
   | .bor j true e' l => ety e' = e /\ B4 (E5 P e) fun _ => (match lo, hi with
     | none, some y => B4 (bnd σ (some y) 0) fun i => i <= l.length /\ K (put (put σ j .undef) d (.own true e' (l.take i)))
     | some y, none => B4 (bnd σ (some y) 0) fun i => i <= l.length /\ K (put σ d (.sub j i))
     | _, _ => False)
   | z => (match asD z with
     | some (.sl ds) => B4 (E5 P e) fun sz => B4 (bnd σ lo 0) fun i => B4 (bnd σ hi ds.length) fun j => i <= j /\ j <= ds.length /\ (∀ y ∈ ds, C0 y = sz) /\ K (put σ d (.d (.sl ((ds.drop i).take (j - i)))))
     | _ => False))
 | _ => False
def b6L (t : TypeId) (x hi mx : Operand) (d : Nat) (K : St -> Prop) (σ : St) : Prop :=
 match P.underlying t with
 | some (.slice e) => (match A6 σ x with
   | .d (.raw u) => B4 (E5 P e) fun _ => B4 (bnd σ (some hi) 0) fun i => B4 (bnd σ (some mx) 0) fun j => i = j /\ b5f e i u σ d K
   | z => (match asD z with
     | some (.sl ds) => B4 (E5 P e) fun _ => B4 (bnd σ (some hi) 0) fun i => B4 (bnd σ (some mx) 0) fun j => i = j /\ i <= ds.length /\ K (put σ d (.full (ds.take i)))
     | _ => False))
 | _ => False
def a2Q (s t : TypeId) (x : Operand) (d : Nat) (K : St -> Prop) (σ : St) : Prop :=
 match P.underlying s, P.underlying t with
 | some (.slice e), some .string => P.underlying e = some (.int .u8) /\ B4 (Z2 (A6 σ x)) fun l => B4 (K0 l) fun st => K (put σ d (.d (.str st)))
 | some .string, some .string => (match A6 σ x with
   | .d (.str st) => K (put σ d (.d (.str st)))
   | _ => False)
 | some .string, some (.slice e) => P.underlying e = some (.int .u8) /\ E5 P e = some 1 /\ (match A6 σ x with
   | .d (.str st) => st.length <= 9223372036854775807 /\ K (put σ d (.own (F d) (e + 100000) (B5 st)))
   | _ => False)
 | some _, some (.int k') => (match A6 σ x with
   | .d (.int _ m) => InR k' m /\ K (put σ d (.d (.int k' m)))
   | _ => False)
 | _, _ => False
def a2V (x : Operand) (i : Nat) (d : Nat) (K : St -> Prop) (σ : St) : Prop :=
 match x with
 | .tmp t => (match σ t with
   | .tup l => (match l[i]? with
     | some (.d y) => K (put σ d (.d y))
     | some (.own m e k) => K (put (put σ t (.tup (l.map a5j))) d (.own (m && F d) e k))
     | _ => False)
   | _ => False)
 | _ => False
def a8F (x : Operand) (d : Nat) (K : St -> Prop) (σ : St) : Prop :=
 match x with
 | .tmp t => (match σ t with
   | .iter st pos => (pos < st.length -> K (put (put σ t (.iter st (pos + (Utf8.decode ⟨st.toArray⟩ pos).2))) d (.tup [.d (.bool true), .d (.int .i64 pos), .d (.int .i32 (Utf8.decode ⟨st.toArray⟩ pos).1)]))) /\
       (¬ pos < st.length -> K (put σ d (.tup [.d (.bool false)])))
   | _ => False)
 | _ => False
def a5A (x : Operand) (d : Nat) (K : St -> Prop) (σ : St) : Prop :=
 match x with
 | .tmp t => (match σ t with
   | .mit u E seen => b8G t u E seen σ d K
   | _ => False)
 | _ => False
def a4h (x : Operand) (d : Nat) (K : St -> Prop) (σ : St) : Prop :=
 match x with
 | .tmp t => (match σ t with
   | .mit u E seen => b9g u E seen σ d K
   | _ => False)
 | _ => False
def a9Z (op : BinOp) (t : TypeId) (x : AV) (d : Nat) (K : St -> Prop) (σ : St) : Prop :=
 B4 (I1 P t) fun _ => match asD x with
   | some (.sl l) => (l ≠ [] -> K (put σ d (.d (.bool (b8M op))))) /\ (l = [] -> ∀ b, K (put σ d (.d (.bool b))))
   | _ => False
def c2B (P : Program) (s f : Nat) (x : AV) (C : AV -> Prop) : Prop :=
 match x with
 | .d (.agg ds) => B4 (ds[f]?) fun y => B4 (b6J P s f) fun q => tyk P q.1 = some (y.isAgg, C0 y) /\ q.2 = D6 (ds.take f) /\ C (.d y)
 | _ => False
def P9 (op : Op) (ty : TypeId) (d : Nat) (K : St -> Prop) (σ : St) : Prop :=
 match op with
 | .move x => a3P P F x ty false d K σ
 | .assign x => a3P P F x ty true d K σ
 | .pick c x y => (match A6 σ c with
   | .d (.bool b) => (b = true -> K (put σ d (A6 σ x))) /\ (b = false -> K (put σ d (A6 σ y)))
   | _ => False)
 | .load t x => B4 (a1t P σ x) fun y => tyk P t = some (y.isAgg, C0 y) /\ K (put σ d (.d y))
 | .nilCheck x => B4 (a2T σ (A6 σ x)) fun _ => K (put σ d (A6 σ x))
 | .alloc e => if F (d + 1000000) then B4 (a3v P true e) fun z => b5o P e z σ d K else B4 (E3 P e) fun z => K (put σ d (.box z))
 | .box t x => if F (d + 1000000) then B4 (asD (A6 σ x)) fun y => b8K t y σ d K else B4 (asD (A6 σ x)) fun y => K (put σ d (.box y))
 | .makeSlice t x y => B4 (I1 P t) fun e => B4 (E3 P e) fun z => B4 (esz P e) fun s => C0 z = s.1 /\ (match A6 σ x, A6 σ y with
   | .d (.int .i64 p), .d (.int .i64 q) => p = q /\ 0 <= p /\ p * s.2 <= 140737488355328 /\ p <= 140737488355328 /\ K (put σ d (.own (F d) e (replicate p.toNat z)))
   | _, _ => False)
 | .build t ps => B4 (if F (d + 1000000) then a0n P true t else Q7 P t) fun zs => B4 (Q8 σ ps.toList) fun ys => a0q zs ys /\ K (put σ d (.d (.agg (a3L zs ys))))
 | .buildSlice t len ps => B4 (I1 P t) fun e => B4 (esz P e) fun z => B4 (Q8 σ ps.toList) fun ys => ys.map (·.1) = List.range len /\ (∀ y ∈ ys.map (·.2), C0 y = z.1) /\ len * z.1 <= 16777216 /\
     K (put σ d (.own (F d) e (ys.map (·.2))))
 | .fieldAddr s x f => a1z P s x f d K σ
 | .indexAddr t x i => a1x P t x i d K σ
 | .index t x i => (match P.underlying t, A6 σ x, A6 σ i with
   | some .string, .d (.str s), .d (.int _ m) => 0 <= m /\ B4 (s[m.toNat]?) fun c => K (put σ d (.d (.int .u8 c.toNat)))
   | _, _, _ => False)
 | .slice t x lo hi none => a5I P t x lo hi d K σ
 | .binOp op t x y _ => if a9r op y = true then a9Z P op t (A6 σ x) d K σ else B4 (asD (A6 σ x)) fun dx => B4 (asD (A6 σ y)) fun dy => X0 P t op dx dy fun r => K (put σ d (.d r))
 | .unOp .not _ x => (match A6 σ x with
   | .d (.bool b) => K (put σ d (.d (.bool !b)))
   | _ => False)
 | .convert s t x => a2Q P F s t x d K σ
 | .extract x i => a2V F x i d K σ
 | .makeFunc (.func g) first caps => (match first.toList with
   | [] => a3N (fun σ' ds => K (put σ' d (.d (.clo g ds)))) caps.toList σ []
   | _ => False)
 | .call c => a6R P F c d K σ
 | .range t x => (match A6 σ x with
   | .d (.str st) => P.underlying t = some .string /\ K (put σ d (.iter st 0))
   | .d (.map u ks _ bs clk) => b4v P t (K (put σ d (.mit u (ks.zip bs, clk) [])))
   | _ => False)
 | .next x true => a8F x d K σ
 | .next x false => a5A x d K σ
 | .entry x => a4h x d K σ
 | .makeMap _ none => b0o σ d K
 | .lookup t x i c => (match A6 σ x with
   | .d (.raw u) => B4 (asD (A6 σ i)) fun k => a5U P t u k c σ fun y => K (put σ d y)
   | .d (.map _ ks vs _ _) => B4 (asD (A6 σ i)) fun k => a6m P t ks vs k c fun y => K (put σ d y)
   | _ => False)
 | _ => False
def a4K (t : TypeId) (x y : Operand) (K : St -> Prop) (σ : St) : Prop :=
 match A6 σ x with
 | .adr j p => (match σ j with
   | .box b => B4 (D.get p b) fun z => B4 (asD (A6 σ y)) fun u => C0 u = C0 z /\ E5 P t = some (C0 u) /\ K (put σ j (.box (D.upd p b u)))
   | .hb n e b => B4 (D.get p b) fun z => B4 (asD (A6 σ y)) fun u => C0 u = C0 z /\ E5 P t = some (C0 u) /\ K (put σ j (.hb n e (D.upd p b u)))
   | _ => False)
 | .eadr j i p => (match σ j with
   | .own true e l => B4 (l[i]?) fun b => B4 (D.get p b) fun z => B4 (asD (A6 σ y)) fun u => C0 u = C0 z /\ E5 P t = some (C0 u) /\ K (put σ j (.own true e (l.set i (D.upd p b u))))
   | .hs n e l => B4 (l[i]?) fun b => B4 (D.get p b) fun z => B4 (asD (A6 σ y)) fun u => C0 u = C0 z /\ E5 P t = some (C0 u) /\ K (put σ j (.hs n e (l.set i (D.upd p b u))))
   | _ => False)
 | _ => False
def a5z (c : Call) (K : St -> Prop) (σ : St) : Prop :=
 match c.callee, c.args.toList, c.argTypes.toList with
 | .builtin .clear, [x], [t] => B4 (I1 P t) fun e => (match A6 σ x with
   | .sub j lo => (match σ j with
     | .own true e' l => ety e' = e /\ B4 (E3 P e) fun z => E5 P e = some (C0 z) /\ K (put σ j (.own true e' (l.take lo ++ replicate (l.length - lo) z)))
     | _ => False)
   | _ => False)
 | .value f, xs, _ => (match A6 σ f with
   | .d (.clo g caps) => (caps.all fun c => !c.isAgg) = true /\ B4 (W5 σ xs) fun xa => c2s P g (xa ++ caps.map .d) σ none K
   | _ => False)
 | _, _, _ => False
def a6u (t : TypeId) (x i y : Operand) (K : St -> Prop) (σ : St) : Prop :=
 match A6 σ x with
 | .d (.raw u) => B4 (asD (A6 σ i)) fun k => B4 (asD (A6 σ y)) fun z => b9d P t u k z σ K
 | _ => False
def vop (o : Oper) (K : St -> Prop) (σ : St) : Prop :=
 match o.dst with
 | some d => P9 P F o.op o.type d K σ
 | none => (match o.op with
   | .store t x y => a4K P t x y K σ
   | .call c => a5z P c K σ
   | .mapUpdate t x i y => a6u P t x i y K σ
   | .insert t x i y => a6u P t x i y K σ
   | _ => False)
def b1N (σ : St) (d : Option Nat) : St :=
 match d with
 | some d => put σ d (.tup [])
 | none => σ
def P6 (ops : Array Oper) : List Oper -> (St -> Prop) -> St -> Prop
 | [], K, σ => K σ
 | o :: rest, K, σ => match o.guard with
   | none => vop P F o (P6 ops rest K) σ
   | some (j, want) => B4 ((ops[j]?).bind (·.dst)) fun t => (match σ t with
     | .d (.bool b) => (b = want -> vop P F o (P6 ops rest K) σ) /\ (b ≠ want -> P6 ops rest K (b1N σ o.dst))
     | .tup [] => P6 ops rest K (b1N σ o.dst)
     | _ => False)
def a5n (next : St -> Prop) (Q : Exit -> St -> Prop) : Exit -> St -> Prop
 | .normal, σ => next σ
 | e, σ => Q e σ
def a4p (id : Nat) (Q : Exit -> St -> Prop) : Exit -> St -> Prop
 | .exit id', σ => if id' = id then Q .normal σ else Q (.exit id') σ
 | e, σ => Q e σ
end
variable {P : Program} {F : Nat -> Bool} {w0 : World} {L0 : Nat -> Nat -> Prop} {row : Nat -> Prop} {n : Nat} {K : St -> Prop} {Q : Exit -> Act -> World -> Prop}
 {w w' : World} {L L' : Nat -> Nat -> Prop} {O O' : Nat -> Option Nat} {σ σ' : St} {a : Act} {o : Oper} {d : Nat} {v : Value} {tm : Nat -> Value}
theorem b1r (σ : St) (d : Nat) (x y : AV) : put (put σ d x) d y = put σ d y := by
 have hk : ∀ z : AV, F5 d (F5 d z) = F5 d z := by
   intro z; cases z with
   | bor j m e l => by_cases h : j = d <;> cases m <;> simp [F5, h]
   | adr j p => by_cases h : j = d <;> simp [F5, h]
   | eadr j i p => by_cases h : j = d <;> simp [F5, h]
   | sub j i => by_cases h : j = d <;> simp [F5, h]
   | _ => rfl
 funext i
 simp only [put]; by_cases h : i = d
 . simp [h]
 . simp [h, hk]
theorem Rel.demote (h : Rel P w0 L0 row w L O σ tm) {t : Nat} {e : TypeId} {l : List D} (ht : σ t = .own true e l) (b : Bool) : ∃ L', Rel P w0 L0 row w L' O (put σ t (.own b e l)) tm := by
 have h1 := h.slots t; rw [ht] at h1; have h1' : RC P w L (O t) (.own true e l) (tm t) := h1; obtain ⟨L', h2, h3, h4, h5⟩ := h1'.demote b h.lok (fun g hg => (h.olt t g hg).1); refine ⟨L', ?_⟩; have hS : H4 w L w L' (H1 (O t)) := ⟨h5, fun _ _ _ => rfl, fun c q _ hne => h4 c q (fun e => hne e.symm)⟩; have := h.putOwn t (.own b e l) (tm t) (O t) (H1 (O t)) hS h.grown (Nat.le_refl _) h3 (fun g hg => (h.olt t g hg).2) (fun i g hi hO e => hi (h.inj i t g hO e))
   (fun g hg => ⟨(h.olt t g hg).1, (h.olt t g hg).2, fun i hi e => hi (h.inj i t g e hg)⟩) h2
 rwa [a5J tm t, a5J O t] at this
theorem c4L (hR : Rel P w0 L0 row w L O σ (C6 a)) {y : Operand} {C : List D -> Prop} (h : a2n (A6 σ y) σ C) : ∃ ds, a4d w L ds (a.eval y) /\ C ds := by
 unfold a2n at h; split at h
 . rename_i u hu
   obtain ⟨j, e, l, hj, hC⟩ := h; have h1 := I7 hR y; rw [hu] at h1; have h2 : RepV w L (.raw u) (a.eval y) := h1; have h4 := hR.slots j; rw [hj] at h4; have hV : F0 P w L (O j) true e l u := h4; exact ⟨l, by rw [h2.raw_inv]; exact hV.sliceAt, hC⟩
 . obtain ⟨ds, hds, hC⟩ := A7 h; exact ⟨ds, a6s hR hds, hC⟩
theorem b5w {x : Operand} {ty : TypeId} {asg : Bool} (ho : o.op = if asg then .assign x else .move x) (hd : o.dst = some d) (hlt : d < n) (hsz : a.tmps.size = n) (hdef : a.defers = []) (hR : Rel P w0 L0 row w L O σ (C6 a))
   (h : a3P P F x ty asg d K σ) : o.wp P a w (D4 P w0 L0 row n K) Q := by
 have ho' : o.op = .move x \/ o.op = .assign x := by cases asg <;> simp at ho <;> simp [ho]
 unfold a3P at h; split at h
 . rename_i t
   split at h
   . rename_i m e l ht
     cases asg with
     | true => exact b9U hd hlt hsz hdef hR (ho'.symm) ht h
     | false =>
       simp only [Bool.false_eq_true, if_false] at h; exact a2t hd hlt hsz hdef hR ho' (by simp only [A6, ht, rd]; exact h)
   . rename_i l ht
     exact c0M hd hlt hsz hdef hR (ho'.symm) ht h
   . exact a2t hd hlt hsz hdef hR ho' h
 . split at h
   . rename_i he
     obtain ⟨sz, hz, h⟩ := A7 h; exact c8i hd hlt hsz hdef hR ho'.symm hz (T0 he) (F d) h
   . exact a2t hd hlt hsz hdef hR ho' h
 . exact a2t hd hlt hsz hdef hR ho' h
theorem Rel.kill_undef (h : Rel P w0 L0 row w L O σ tm) {j : Nat} (hj : σ j = .undef) (t : Nat) : F5 j (σ t) = σ t := by
 have h1 := h.slots t; cases hx : σ t <;> rw [hx] at h1 <;> simp only [F5]
 case bor k m e l =>
   by_cases hk : k = j
   . subst hk; have := h1.1; rw [hj] at this; cases this
   . simp [hk]
 case adr k p =>
   by_cases hk : k = j
   . subst hk; obtain ⟨_, _, _, e, _⟩ := h1; rw [hj] at e; cases e
   . simp [hk]
 case eadr k i p =>
   by_cases hk : k = j
   . subst hk; obtain ⟨_, _, _, _, _, _, _, _, e, _⟩ := h1; rw [hj] at e; cases e
   . simp [hk]
 case sub k i =>
   by_cases hk : k = j
   . subst hk; obtain ⟨_, _, _, e, _⟩ := h1; rw [hj] at e; cases e
   . simp [hk]
theorem b1V {α : Type} {xs : Array α} {x : α} (h : xs.toList = [x]) : xs = #[x] := by apply Array.ext'; simpa using h
theorem b1H {α : Type} {xs : Array α} {x y : α} (h : xs.toList = [x, y]) : xs = #[x, y] := by apply Array.ext'; simpa using h
theorem c1X {c : Call} (ho : o.op = .call c) (hd : o.dst = some d) (hlt : d < n) (hsz : a.tmps.size = n) (hdef : a.defers = []) (hR : Rel P w0 L0 row w L O σ (C6 a)) (h : a6R P F c d K σ) : o.wp P a w (D4 P w0 L0 row n K) Q := by
 obtain ⟨callee, args, ts⟩ := c; unfold a6R at h; simp only at h; split at h
 . rename_i x t ha ht
   obtain rfl := b1V ha; obtain rfl := b1V ht; split at h
   . rename_i e hu
     split at h
     . rename_i j lo hx
       obtain ⟨⟨e', l⟩, hj, h⟩ := A7 h; exact c3s hd hlt hsz hdef hR ho hu hx hj h
     . obtain ⟨l, hl, h⟩ := A7 h; exact c3Q hd hlt hsz hdef hR ho hu hl h
   . rename_i hu
     split at h
     . rename_i s hs
       exact c0t hd hlt hsz hdef hR ho hu hs h
     . exact h.elim
   . split at h
     . rename_i u hx
       obtain ⟨j, kt, vt, kt', m, E, _, hu, hj, h⟩ := h; exact c1q hd hlt hsz hdef hR ho hu hx hj h
     . rename_i hx
       obtain ⟨⟨kt, vt, hu⟩, h⟩ := h; exact c0D hd hlt hsz hdef hR ho hu hx h
     . exact h.elim
   . exact h.elim
 . rename_i x y t t' ha ht
   obtain rfl := b1H ha; obtain rfl := b1H ht; by_cases htt : t' = t
   case neg =>
     rw [if_neg htt] at h; obtain ⟨hu, h⟩ := h; obtain ⟨e, he, hz, h⟩ := A7 h; split at h
     . rename_i j m e' l st hx hy
       obtain ⟨rfl, h1, h⟩ := h; exact c0e hd hlt hsz hdef hR ho hu (K4 he) (T0 he) hz hx hy h1 h
     . rename_i u st hx hy
       obtain ⟨j, l, hj, h1, h⟩ := h; rcases hj with hj | ⟨rfl, rfl, hju⟩
       . exact a7D hd hlt hsz hdef hR ho hu (K4 he) (T0 he) hz hx hj hy h1 h
       . obtain ⟨i0, z0, f1, f2, f3, f4, f5, f6⟩ := a0E (P := P) (e := e) hz; have hnew : RH P w L (.hs (.slice none 0 0) e []) := ⟨rfl, [], 1, by rw [W6 (T0 he)]; simp [f1, f3], by simp [A8], by simp, ⟨by simp, .inl ⟨rfl, rfl⟩⟩, by simp [Value.ownBlock]⟩; have hR1 := hR.putName j _ hnew (fun g hg => by simp [C9, Value.ownBlock] at hg); have hav : ∀ z, A6 σ z ≠ .undef -> A6 (put σ j (.hs (.slice none 0 0) e [])) z = A6 σ z := by
           intro z hz; cases z with
           | tmp t =>
             by_cases htj : t = j
             . subst htj; exact absurd (by simp only [A6, hju, rd]) hz
             . simp only [A6, put, if_neg htj, hR.kill_undef hju]
           | _ => rfl
         have hj1 : put σ j (.hs (.slice none 0 0) e []) j = .hs (.slice none 0 0) e [] := (by simp [put, F5]); refine a7D hd hlt hsz hdef hR1 ho hu (K4 he) (T0 he) hz (by rw [hav x (by rw [hx]; simp)]; exact hx) hj1 (by rw [hav y (by rw [hy]; simp)]; exact hy) h1 (fun A c => ?_); rw [b1r]; exact h A c
     . exact h.elim
   subst htt; rw [if_pos rfl] at h; obtain ⟨e, he, h⟩ := A7 h; split at h
   . rename_i j m e' l hx
     obtain ⟨rfl, h⟩ := h; obtain ⟨z, hz, h⟩ := A7 h; obtain ⟨ds, hds, h1, h2, h3, h⟩ := c4L hR h; exact c1K hd hlt hsz hdef hR ho (K4 he) (T0 he) (by rw [hz]) hx hds h1 h2 h3 h
   . rename_i u hx
     obtain ⟨z, hz, h⟩ := A7 h; obtain ⟨ds, hds, j, l, hj, h1, h2, h3, h⟩ := A7 h; rcases hj with hj | ⟨rfl, rfl, hju⟩
     . exact a8W hd hlt hsz hdef hR ho (K4 he) (T0 he) (by rw [hz]) hx hj hds h1 h2 h3 h
     . obtain ⟨i0, z0, f1, f2, f3, f4, f5, f6⟩ := a0E (P := P) (e := e) (sz := z.1) (by_ := z.2) (by rw [hz]); have hnew : RH P w L (.hs (.slice none 0 0) e []) := ⟨rfl, [], z.1, by rw [W6 (T0 he)]; simp [f1, f3], by simp [A8], by simp, ⟨by simp, .inl ⟨rfl, rfl⟩⟩, by simp [Value.ownBlock]⟩; have hR1 := hR.putName j _ hnew (fun g hg => by simp [C9, Value.ownBlock] at hg); have hav : ∀ z, A6 σ z ≠ .undef -> A6 (put σ j (.hs (.slice none 0 0) e [])) z = A6 σ z := by
         intro z hz; cases z with
         | tmp t =>
           by_cases htj : t = j
           . subst htj; exact absurd (by simp only [A6, hju, rd]) hz
           . simp only [A6, put, if_neg htj, hR.kill_undef hju]
         | _ => rfl
       have hj1 : put σ j (.hs (.slice none 0 0) e []) j = .hs (.slice none 0 0) e [] := (by simp [put, F5]); refine a8W hd hlt hsz hdef hR1 ho (K4 he) (T0 he) (by rw [hz]) (by rw [hav x (by rw [hx]; simp)]; exact hx) hj1 (by rw [hav y (by intro e; rw [e] at hds; simp [Z2] at hds)]; exact hds) h1 h2 h3 (fun A c => ?_); rw [b1r]; exact h A c
   . exact h.elim
 . rename_i x y t t' ha ht
   obtain rfl := b1H ha; obtain rfl := b1H ht; split at h
   . rename_i k k' p k2 q hu hx hy
     obtain ⟨rfl, h⟩ := h; exact c3O hd hlt hsz hdef hR ho hx hy h
   . exact h.elim
 . rename_i f
   split at h
   . rename_i g caps hf
     obtain ⟨h1, h⟩ := h; have h1' : ∀ c ∈ caps, c.isAgg = false := fun c hc => by have := all_eq_true.1 h1 c hc; simpa using this
     split at h
     . obtain ⟨xa, hxa, y, hy, hfn, h⟩ := A7 h; exact b0H hd hlt hsz hdef hR ho hf h1' hxa hy hfn h
     . split at h
       . split at h
         . rename_i x ys hxs
           obtain ⟨xa, hxa, h⟩ := A7 h; unfold InK at h; split at h
           . rename_i j e l hx
             obtain ⟨l', hfn, h⟩ := h; have h2 := I7 hR x; rw [hx] at h2; obtain ⟨h2, h3⟩ := h2; refine b7f hd hlt hsz hdef hR ho hxs hf h1' (j := j) (e := e) (l := l) (by rw [h2]; rfl) (by rw [h2]; exact h3) hxa hfn ?_; rw [h2]; exact h
           . rename_i u hx
             obtain ⟨j, e, l, l', hj, hfn, h⟩ := h; refine b7f hd hlt hsz hdef hR ho hxs hf h1' (j := j) (e := e) (l := l) (by rw [hj]; rfl) (by rw [hj]; exact (H3 hR hx).raw_inv) hxa hfn ?_; rw [hj]; exact h
           . exact h.elim
         . exact h.elim
       . split at h
         . split at h
           . rename_i x ys hxs
             obtain ⟨xa, hxa, h⟩ := A7 h; unfold b0s at h; split at h
             . rename_i u hx
               obtain ⟨j, e, l, e', l', hj, hfn, h⟩ := h; exact c2O hd hlt hsz hdef hR ho hxs hf h1' hx hj hxa hfn h
             . exact h.elim
           . exact h.elim
         . split at h
           . obtain ⟨xa, hxa, ks, b, Post, hks, hnd, hfn, h⟩ := A7 h; exact c5l hd hlt hsz hdef hR ho hf h1' hxa ks hks hnd b hfn h
           . obtain ⟨h2, h⟩ := h; obtain ⟨xa, hxa, r, hfn, h⟩ := A7 h; exact c0s hd hlt hsz hdef hR ho hf h1' hxa h2 hfn (F d) h
   . exact h.elim
 . exact h.elim
theorem c4O (hd : o.dst = some d) (hlt : d < n) (hsz : a.tmps.size = n) (hdef : a.defers = []) (hR : Rel P w0 L0 row w L O σ (C6 a)) (h : P9 P F o.op o.type d K σ) : o.wp P a w (D4 P w0 L0 row n K) Q := by
 unfold P9 at h; split at h
 . rename_i x ho; exact b5w (asg := false) (by simpa using ho) hd hlt hsz hdef hR h
 . rename_i x ho; exact b5w (asg := true) (by simpa using ho) hd hlt hsz hdef hR h
 . rename_i c x y ho
   split at h
   . rename_i b hc; exact c0m hd hlt hsz hdef hR ho hc h.1 h.2
   . exact h.elim
 . rename_i t x ho
   obtain ⟨y, hy, h1, h2⟩ := A7 h; exact c0w hd hlt hsz hdef hR ho hy h1 h2
 . rename_i x ho
   obtain ⟨y, hy, h⟩ := A7 h; exact b0j hd hlt hsz hdef hR ho hy h
 . rename_i e ho
   split at h
   . obtain ⟨z, hz, j, nk, hnk, hj, h⟩ := A7 h; obtain ⟨O', hR'⟩ := Rel.nilN hR hnk; exact c3I hd hlt hsz hdef hR' ho hz hj h
   . obtain ⟨z, hz, h⟩ := A7 h; exact c5d hd hlt hsz hdef hR ho hz h
 . rename_i e x ho
   split at h
   . obtain ⟨y, hy, j, hj, h⟩ := A7 h; exact c6d hd hlt hsz hdef hR ho hy hj h
   . obtain ⟨y, hy, h⟩ := A7 h; exact c7B hd hlt hsz hdef hR ho hy h
 . rename_i t x y ho
   obtain ⟨e, he, h⟩ := A7 h; obtain ⟨z, hz, h⟩ := A7 h; obtain ⟨s, hs, hw, h⟩ := A7 h; split at h
   . rename_i p q hx hy
     obtain ⟨rfl, h0, h1, h2, h⟩ := h; exact b6C hd hlt hsz hdef hR ho (K4 he) (T0 he) (sz := s.1) (by_ := s.2) hs hz hw hx hy h0 h1 h2 (F d) h
   . exact h.elim
 . rename_i t ps ho
   obtain ⟨zs, hz, h⟩ := A7 h; obtain ⟨ys, hy, h1, h2⟩ := A7 h; split at hz
   . exact a8J (N := true) hd hlt hsz hdef hR ho hz hy h1 h2
   . exact a8J (N := false) hd hlt hsz hdef hR ho hz hy h1 h2
 . rename_i t len ps ho
   obtain ⟨e, he, h⟩ := A7 h; obtain ⟨z, hz, h⟩ := A7 h; obtain ⟨ys, hy, h1, h2, h3, h4⟩ := A7 h; exact a7n hd hlt hsz hdef hR ho (K4 he) (T0 he) (by rw [hz]) hy h1 h2 h3 (F d) h4
 . rename_i s x f ho
   unfold a1z at h; split at h
   . rename_i ds hx
     obtain ⟨y, hy, h1, h2⟩ := A7 h; exact b0a hd hlt hsz hdef hR ho hx hy h1 h2
   . rename_i u hx
     obtain ⟨j, e1, ds, _, hj, h1, h2, h3⟩ := h; exact b0D hd hlt hsz hdef hR ho hx hj h1 h2 h3
   . rename_i j p hx
     split at h
     . rename_i b hj
       split at h
       . rename_i ds hp
         exact b0z hd hlt hsz hdef hR ho hx hj hp h.1 h.2.1 h.2.2
       . exact h.elim
     . exact h.elim
   . rename_i j i p hx
     split at h
     . rename_i e l hj
       obtain ⟨y, hy, h⟩ := A7 h; split at h
       . rename_i ds hp
         exact a9k hd hlt hsz hdef hR ho hx hj hy hp h.1 h.2.1 h.2.2
       . exact h.elim
     . exact h.elim
   . exact h.elim
 . rename_i t x i ho
   unfold a1x at h; obtain ⟨e, he, h⟩ := A7 h; split at h
   . rename_i k m hi
     obtain ⟨h0, h⟩ := h; split at h
     . rename_i j e' l hx
       obtain ⟨rfl, h1, h2⟩ := h; exact a8T hd hlt hsz hdef hR ho (K4 he) hx rfl hi h0 h1 h2
     . rename_i u hx
       obtain ⟨j, e', l, _, hj, h1, h2, h3⟩ := h; exact b0d hd hlt hsz hdef hR ho (K4 he) hx hj h1 hi h0 h2 h3
     . rename_i j lo hx
       obtain ⟨⟨e', l⟩, hj, h1, h2, h⟩ := A7 h; exact b0U hd hlt hsz hdef hR ho (K4 he) hx hj h1 hi h0 h2 h
     . split at h
       . rename_i ds hx
         obtain ⟨sz, hz, h⟩ := A7 h; obtain ⟨z, hzz, h1, h2⟩ := A7 h; exact b0N hd hlt hsz hdef hR ho (K4 he) hz hx hi h0 hzz h1 h2
       . exact h.elim
   . exact h.elim
 . rename_i t x i ho
   split at h
   . rename_i s k m hu hx hi
     obtain ⟨h0, h⟩ := h; obtain ⟨c, hc, h⟩ := A7 h; exact b4F hd hlt hsz hdef hR ho hu hx hi h0 hc h
   . exact h.elim
 . rename_i t x lo hi ho
   unfold a5I at h; split at h
   . rename_i hu
     split at h
     . rename_i s hx
       obtain ⟨i, hi', h⟩ := A7 h; obtain ⟨j, hj, h1, h2, h3⟩ := A7 h; exact b3T hd hlt hsz hdef hR ho hu hx hi' hj h1 h2 h3
     . exact h.elim
   . rename_i e hu
     split at h
     . rename_i j e' l hx
       obtain ⟨h1, h⟩ := h; obtain ⟨sz, hz, h⟩ := A7 h; split at h
       . obtain ⟨i, hi', h2, h⟩ := A7 h; exact c7R hd hlt hsz hdef hR ho hu hz hx h1 hi' h2 h
       . obtain ⟨i, hi', h2, h⟩ := A7 h; exact c7w hd hlt hsz hdef hR ho hu hz hx h1 hi' h2 h
       . exact h.elim
     . split at h
       . rename_i ds hx
         obtain ⟨sz, hz, h⟩ := A7 h; obtain ⟨i, hi', h⟩ := A7 h; obtain ⟨j, hj, h1, h2, h3, h4⟩ := A7 h; exact b4y hd hlt hsz hdef hR ho hu hz hx hi' hj h1 h2 h3 h4
       . exact h.elim
   . exact h.elim
 . rename_i op t x y t' ho
   by_cases hq : a9r op y = true
   . rw [if_pos hq] at h; obtain ⟨e, he, h⟩ := A7 h; split at h
     . rename_i l hx
       exact c5N hd hlt hsz hdef hR ho hq (K4 he) hx h.1 h.2
     . exact h.elim
   rw [if_neg hq] at h; obtain ⟨dx, hx, h⟩ := A7 h; obtain ⟨dy, hy, h⟩ := A7 h; exact c3Y hd hlt hsz hdef hR ho hx hy h
 . rename_i t x ho
   split at h
   . rename_i b hx; exact c3T hd hlt hsz hdef hR ho hx h
   . exact h.elim
 . rename_i s t x ho
   unfold a2Q at h; split at h
   . rename_i e hs ht
     obtain ⟨h1, h⟩ := h; obtain ⟨l, hl, h⟩ := A7 h; obtain ⟨st, hst, h⟩ := A7 h; exact b6A hd hlt hsz hdef hR ho hs h1 ht hl (b1n hst) h
   . rename_i hs ht
     split at h
     . rename_i st hx; exact b2y hd hlt hsz hdef hR ho hs ht hx h
     . exact h.elim
   . rename_i e hs ht
     obtain ⟨h1, h2, h⟩ := h; split at h
     . rename_i st hx; exact b9N hd hlt hsz hdef hR ho hs ht h1 h2 hx h.1 (F d) h.2
     . exact h.elim
   . rename_i u k' hs ht
     split at h
     . rename_i k m hx; exact b2r hd hlt hsz hdef hR ho (by simp [hs]) ht hx h.1 h.2
     . exact h.elim
   . exact h.elim
 . rename_i x i ho
   unfold a2V at h; split at h
   . rename_i t
     split at h
     . rename_i l ht
       split at h
       . rename_i y hy; exact b3o hd hlt hsz hdef hR ho rfl ht hy h
       . rename_i m e k hy
         have h1 : o.wp P a w (D4 P w0 L0 row n fun σ' => σ' = put (put σ t (.tup (l.map a5j))) d (.own m e k)) Q := b4P hd hlt hsz hdef hR ho ht hy rfl; have hg : ∀ (a' : Act) (w' : World), D4 P w0 L0 row n (fun σ' => σ' = put (put σ t (.tup (l.map a5j))) d (.own m e k)) a' w' -> D4 P w0 L0 row n K a' w' := by
           rintro a' w' ⟨L1, O1, σ1, hR1, g1, g2, rfl⟩; cases m with
           | false => exact ⟨L1, O1, _, hR1, g1, g2, by simpa using h⟩
           | true =>
             obtain ⟨L2, hR2⟩ := hR1.demote (t := d) (e := e) (l := k) (by simp [put, F5]) (F d); rw [b1r] at hR2; exact ⟨L2, O1, _, hR2, g1, g2, by simpa using h⟩
         unfold Oper.wp at h1 ⊢; generalize (execOp a.eval o).run P w = res at h1 ⊢; unfold Oper.upon at h1 ⊢; split <;> simp only at h1 ⊢
         . exact hg _ _ h1
         . exact hg _ _ h1
         . exact hg _ _ h1
         . refine h1.mono ?_; intro e' w'' hh; cases e' with
           | returned v => exact hg _ _ hh
           | panicked ch => exact hh
           | outgrown => exact hh
         . exact h1.mono fun v w'' hh => hg _ _ hh
         . exact h1
       . exact h.elim
     . exact h.elim
   . exact h.elim
 . rename_i g first caps ho
   split at h
   . rename_i h1
     have : first = #[] := by apply Array.ext'; simpa using h1
     subst this; exact b7O hd hlt hsz hdef hR ho h
   . exact h.elim
 . rename_i c ho; exact c1X ho hd hlt hsz hdef hR h
 . rename_i t x ho
   split at h
   . rename_i st hx; exact c4k hd hlt hsz hdef hR ho h.1 hx h.2
   . rename_i u ks vs bs clk hx
     obtain ⟨⟨kt, vt, hu⟩, h⟩ := h; exact c2u hd hlt hsz hdef hR ho hu hx h
   . exact h.elim
 . rename_i x ho
   unfold a8F at h; split at h
   . split at h
     . rename_i st pos ht
       exact c5E hd hlt hsz hdef hR ho ht h.1 h.2
     . exact h.elim
   . exact h.elim
 . rename_i x ho
   unfold a5A at h; split at h
   . split at h
     . rename_i u E seen ht
       obtain ⟨j, ks, vs, bs, clk, hj, rfl, hf, h1, h0⟩ := h; exact c4K hd hlt hsz hdef hR ho ht hj hf h1 h0
     . exact h.elim
   . exact h.elim
 . rename_i x ho
   unfold a4h at h; split at h
   . split at h
     . rename_i u E seen ht
       obtain ⟨j, ks, vs, bs, clk, s2, k, v, hj, rfl, hf, hs, hm, h⟩ := h; exact c2X hd hlt hsz hdef hR ho ht hj hf hs hm h
     . exact h.elim
   . exact h.elim
 . rename_i t ho
   obtain ⟨kt, j, hj, h⟩ := h; exact c0i hd hlt hsz hdef hR ho hj h
 . rename_i t x i c ho
   split at h
   . rename_i u hx
     obtain ⟨k, hk, j, kt, vt, z, m, E, _, hu, hj, hf, hz, h⟩ := A7 h; exact b4m hd hlt hsz hdef hR ho hu hx hj hk hf hz h
   . rename_i u ks vs bs clk hx
     obtain ⟨k, hk, kt, vt, z, hu, hf, hfs, hz, h⟩ := A7 h; exact b2I hd hlt hsz hdef hR ho hu hx hfs hk hf hz h
   . exact h.elim
 . exact h.elim
theorem b0B (hlt : ∀ d, o.dst = some d -> d < n) (hsz : a.tmps.size = n) (hdef : a.defers = []) (hR : Rel P w0 L0 row w L O σ (C6 a)) (h : vop P F o K σ) : o.wp P a w (D4 P w0 L0 row n K) Q := by
 unfold vop at h; split at h
 . rename_i d hd; exact c4O hd (hlt d hd) hsz hdef hR h
 . rename_i hd
   split at h
   . rename_i t x y ho
     unfold a4K at h; split at h
     . rename_i j p hx
       split at h
       . rename_i b hj
         obtain ⟨z, hz, h⟩ := A7 h; obtain ⟨u, hu, h1, h2, h3⟩ := A7 h; exact b1a hd hsz hdef hR ho hx (b := b) (by rw [hj]; rfl) hz hu h1 h2 (by rw [hj]; exact h3)
       . rename_i nn b hj
         obtain ⟨z, hz, h⟩ := A7 h; obtain ⟨u, hu, h1, h2, h3⟩ := A7 h; exact b1a hd hsz hdef hR ho hx (b := b) (by rw [hj]; rfl) hz hu h1 h2 (by rw [hj]; exact h3)
       . exact h.elim
     . rename_i j i p hx
       split at h
       . rename_i e l hj
         obtain ⟨b, hb, h⟩ := A7 h; obtain ⟨z, hz, h⟩ := A7 h; obtain ⟨u, hu, h1, h2, h3⟩ := A7 h; exact b1d hd hsz hdef hR ho hx (e := e) (l := l) (by rw [hj]; rfl) hb hz hu h1 h2 (by rw [hj]; exact h3)
       . rename_i nn e l hj
         obtain ⟨b, hb, h⟩ := A7 h; obtain ⟨z, hz, h⟩ := A7 h; obtain ⟨u, hu, h1, h2, h3⟩ := A7 h; exact b1d hd hsz hdef hR ho hx (e := e) (l := l) (by rw [hj]; rfl) hb hz hu h1 h2 (by rw [hj]; exact h3)
       . exact h.elim
     . exact h.elim
   . rename_i c ho
     obtain ⟨callee, args, ts⟩ := c; unfold a5z at h; simp only at h; split at h
     . rename_i x t ha ht
       obtain rfl := b1V ha; obtain rfl := b1V ht; obtain ⟨e, he, h⟩ := A7 h; split at h
       . rename_i j lo hx
         split at h
         . rename_i e' l hj
           obtain ⟨h1, h⟩ := h; obtain ⟨z, hz, h2, h⟩ := A7 h; exact c2E hsz hdef hR hd ho (K4 he) hx hj h1 hz h2 h
         . exact h.elim
       . exact h.elim
     . rename_i f
       split at h
       . rename_i g caps hf
         obtain ⟨h1, h⟩ := h; have h1' : ∀ c ∈ caps, c.isAgg = false := fun c hc => by have := all_eq_true.1 h1 c hc; simpa using this
         obtain ⟨xa, hxa, ks, b, Post, hks, hnd, hfn, h⟩ := A7 h; exact c2m hlt hsz hdef hR ho hf h1' hxa ks hks hnd b hfn (by rw [hd]; exact h)
       . exact h.elim
     . exact h.elim
   . rename_i t x i y ho
     unfold a6u at h; split at h
     . rename_i u hx
       obtain ⟨k, hk, h⟩ := A7 h; obtain ⟨z, hz, j, kt, vt, m, m2, E, hu, hj, hf, hp, h⟩ := A7 h; exact a9d hd hsz hdef hR (.inl ho) hu hx hj hk hf hz hp h
     . exact h.elim
   . rename_i t x i y ho
     unfold a6u at h; split at h
     . rename_i u hx
       obtain ⟨k, hk, h⟩ := A7 h; obtain ⟨z, hz, j, kt, vt, m, m2, E, hu, hj, hf, hp, h⟩ := A7 h; exact a9d hd hsz hdef hR (.inr ho) hu hx hj hk hf hz hp h
     . exact h.elim
   . exact h.elim
end Go.Vw
namespace Go.Vw
open Go.RowKit Go.Proofs
variable {P : Program} {F : Nat -> Bool} {w0 : World} {L0 : Nat -> Nat -> Prop} {row : Nat -> Prop} {n : Nat} {K : St -> Prop} {Q : Exit -> Act -> World -> Prop}
 {w w' : World} {L L' : Nat -> Nat -> Prop} {O O' : Nat -> Option Nat} {σ σ' : St} {a : Act} {o : Oper} {d : Nat} {v : Value} {tm : Nat -> Value}
theorem a5S {ops : Array Oper} {j t : Nat} {b : Bool} (hR : Rel P w0 L0 row w L O σ (C6 a)) (hj : (ops[j]?).bind (·.dst) = some t) (ht : σ t = .d (.bool b)) : yielded ops a.tmps j = some b := by
 have h1 := hR.slots t; rw [ht] at h1; have h2 : C6 a t = .bool b := RepV.bool_inv h1; have h3 : a.tmps[t]? = some (.bool b) := by
   simp only [C6, Array.getD_eq_getD_getElem?] at h2; cases hx : a.tmps[t]? with
   | none => rw [hx] at h2; simp [undef] at h2
   | some x => rw [hx] at h2; simp only [Option.getD_some] at h2; rw [h2]
 simp only [yielded, hj, Option.bind_some, h3]
theorem a5w {ops : Array Oper} {j t : Nat} (hR : Rel P w0 L0 row w L O σ (C6 a)) (hj : (ops[j]?).bind (·.dst) = some t) (ht : σ t = .tup []) : yielded ops a.tmps j = none := by
 have h1 := hR.slots t; rw [ht] at h1; obtain ⟨vs, h2, h4⟩ := h1; obtain rfl : vs = [] := h4; simp only [C6, Array.getD_eq_getD_getElem?] at h2; cases hx : a.tmps[t]? with
 | none => simp only [yielded, hj, Option.bind_some, hx]
 | some x => rw [hx] at h2; simp only [Option.getD_some] at h2; simp only [yielded, hj, Option.bind_some, hx, h2]
theorem a4M (hR : Rel P w0 L0 row w L O σ (C6 a)) (hlt : ∀ d, o.dst = some d -> d < n) (hsz : a.tmps.size = n) (hdef : a.defers = []) (h : K (b1N σ o.dst)) : D4 P w0 L0 row n K (a.put o.dst undef) w := by
 cases hd : o.dst with
 | none => rw [hd] at h; exact ⟨L, O, σ, hR, hdef, hsz, h⟩
 | some d =>
   rw [hd] at h; refine ⟨L, E4 O d none, put σ d (.tup []), ?_, by simpa [Act.put] using hdef, by simpa [Act.put] using hsz, h⟩; rw [a1s (by rw [hsz]; exact hlt d hd)]; exact hR.putPure d (.tup []) undef ⟨[], rfl, rfl⟩
theorem b1B {ops : Array Oper} : ∀ (l : List Oper) (a : Act) (w : World), (∀ o ∈ l, ∀ d, o.dst = some d -> d < n) -> D4 P w0 L0 row n (P6 P F ops l K) a w -> (∀ a w, D4 P w0 L0 row n K a w -> Q .normal a w) -> wpList P ops Q l a w
 | [], a, w, _, h, hQ => hQ a w h
 | o :: l, a, w, hdst, h, hQ => by
   refine wpList_step (fun K' hK' => ?_); have hrest : ∀ a w, D4 P w0 L0 row n (P6 P F ops l K) a w -> K' a w := fun a w hg => hK' a w (b1B l a w (fun o ho => hdst o (by simp [ho])) hg hQ)
   obtain ⟨L, O, σ, hR, hdef, hsz, hv⟩ := h; have hlt := hdst o (by simp); simp only [P6] at hv; have run : vop P F o (P6 P F ops l K) σ -> o.wp P a w K' Q := fun hv => by
     have h1 : o.wp P a w (D4 P w0 L0 row n (P6 P F ops l K)) Q := b0B hlt hsz hdef hR hv; unfold Oper.wp at h1 ⊢; generalize (execOp a.eval o).run P w = res at h1 ⊢; unfold Oper.upon at h1 ⊢; split <;> simp only at h1 ⊢
     . exact hrest _ _ h1
     . exact hrest _ _ h1
     . exact hrest _ _ h1
     . refine h1.mono ?_; intro e' w'' hh; cases e' with
       | returned v => exact hrest _ _ hh
       | panicked ch => exact hh
       | outgrown => exact hh
     . exact h1.mono fun v w'' hh => hrest _ _ hh
     . exact h1
   cases hg : o.guard with
   | none =>
     rw [hg] at hv; simp only [Region.wanted, hg, if_true]; exact run hv
   | some g =>
     obtain ⟨j, want⟩ := g; rw [hg] at hv; obtain ⟨t, ht, hv⟩ := A7 hv; split at hv
     . rename_i b hb
       have hy := a5S hR ht hb; simp only [Region.wanted, hg, hy]; by_cases hbw : b = want
       . subst hbw; simp only [BEq.rfl, if_true]; exact run (hv.1 rfl)
       . have : (some b == some want) = false := (by simpa using hbw); simp only [this, Bool.false_eq_true, if_false]; exact hrest _ _ (a4M hR hlt hsz hdef (hv.2 hbw))
     . rename_i hb
       have hy := a5w hR ht hb; have : (none == some want) = false := rfl; simp only [Region.wanted, hg, hy, this, Bool.false_eq_true, if_false]; exact hrest _ _ (a4M hR hlt hsz hdef hv)
     . exact hv.elim
end Go.Vw
namespace Go.Vw
open Go.RowKit Go.Proofs
def b8P (P : Program) (g : FuncId) (args : List AV) (C : AV -> Prop) : Prop := ∃ y, a3M y = true /\ Ctr P g args (.d y) /\ C (.d y)
def b3D (P : Program) (g : FuncId) (args : List AV) (b : Bool) (C : AV -> Prop) : Prop := ∃ r, Ctr P g args r /\ C (a1K b r)
section
variable (P : Program) (F : Nat -> Bool)
def a3H (c : Call) (d : Nat) (σ : St) (C : AV -> Prop) : Prop :=
 match c.callee, c.args.toList, c.argTypes.toList with
 | .builtin .len, [x], [t] => (match P.underlying t with
   | some (.slice _) => B4 (a3G (A6 σ x)) fun l => C (.d (.int .i64 l))
   | some .string => (match A6 σ x with
     | .d (.str s) => C (.d (.int .i64 s.length))
     | _ => False)
   | some (.map _ _) => (match A6 σ x with
     | .d (.raw u) => b5I P t u σ C
     | .d (.map _ ks _ _ _) => b4v P t (C (.d (.int .i64 (ks.length : Nat))))
     | _ => False)
   | _ => False)
 | .builtin .min, [x, y], [_, _] => (match A6 σ x, A6 σ y with
   | .d (.int k p), .d (.int _ q) => C (.d (.int k (if q < p then q else p)))
   | _, _ => False)
 | .value f, xs, _ => (match A6 σ f with
   | .d (.clo g caps) => (caps.all fun c => !c.isAgg) = true /\
     if F (d + 2000000) then B4 (a1u σ xs) fun xa => b8P P g (xa ++ caps.map .d) C
     else T4 σ xs = [] /\ B4 (a2G σ xs) fun xa => b3D P g (xa ++ caps.map .d) (F d) C
   | _ => False)
 | _, _, _ => False
def X1 (t : TypeId) (x i : Operand) (σ : St) (C : AV -> Prop) : Prop :=
 B4 (I1 P t) fun e => match A6 σ i with
 | .d (.int _ m) => 0 <= m /\ (match A6 σ x with
   | .bor j true e' l => ety e' = e /\ m.toNat < l.length /\ C (.eadr j m.toNat [])
   | .d (.raw u) => b3y e m.toNat u σ C
   | .sub j lo => B4 (N8 (σ j)) fun q => ety q.1 = e /\ lo + m.toNat < q.2.length /\ C (.eadr j (lo + m.toNat) [])
   | y => (match asD y with
     | some (.sl ds) => B4 (E5 P e) fun sz => B4 (ds[m.toNat]?) fun z => C0 z = sz /\ C (.d (.ref z))
     | _ => False))
 | _ => False
def X3 (s : TypeId) (x : Operand) (f : Nat) (σ : St) (C : AV -> Prop) : Prop :=
 match A6 σ x with
 | .d (.ref (.agg ds)) => B4 (ds[f]?) fun y => E0 P s f = some (D6 (ds.take f)) /\ C (.d (.ref y))
 | .d (.raw u) => b0M P s f u σ C
 | .adr j p => (match S5 (σ j) with
   | some b => (match D.get p b with
     | some (.agg ds) => f < ds.length /\ E0 P s f = some (D6 (ds.take f)) /\ C (.adr j (p ++ [f]))
     | _ => False)
   | _ => False)
 | .eadr j i p => (match N8 (σ j) with
   | some (_, l) => B4 (l[i]?) fun y => (match D.get p y with
     | some (.agg ds) => f < ds.length /\ E0 P s f = some (D6 (ds.take f)) /\ C (.eadr j i (p ++ [f]))
     | _ => False)
   | _ => False)
 | _ => False
def a2H (t : TypeId) (x : Operand) (lo hi : Option Operand) (σ : St) (C : AV -> Prop) : Prop :=
 match P.underlying t with
 | some .string => (match A6 σ x with
   | .d (.str s) => B4 (bnd σ lo 0) fun i => B4 (bnd σ hi s.length) fun j => i <= j /\ j <= s.length /\ C (.d (.str ((s.drop i).take (j - i))))
   | _ => False)
 | some (.slice e) => (match asD (A6 σ x) with
   | some (.sl ds) => B4 (E5 P e) fun sz => B4 (bnd σ lo 0) fun i => B4 (bnd σ hi ds.length) fun j => i <= j /\ j <= ds.length /\ (∀ y ∈ ds, C0 y = sz) /\ C (.d (.sl ((ds.drop i).take (j - i))))
   | _ => False)
 | _ => False
def a0G (s t : TypeId) (x : Operand) (σ : St) (C : AV -> Prop) : Prop :=
 match P.underlying s, P.underlying t with
 | some .string, some .string => (match A6 σ x with
   | .d (.str st) => C (.d (.str st))
   | _ => False)
 | some _, some (.int k') => (match A6 σ x with
   | .d (.int _ m) => InR k' m /\ C (.d (.int k' m))
   | _ => False)
 | _, _ => False
def b1C : List AV -> Bool
 | [] => true
 | .d _ :: l => b1C l
 | _ => false
theorem b7r : ∀ {l : List AV}, b1C l = true -> ∀ x ∈ l, ∃ d, x = .d d
 | [], _, x, hx => by simp at hx
 | y :: l, h, x, hx => by
   cases y <;> simp only [b1C] at h <;> try cases h
   rename_i d
   rcases mem_cons.1 hx with rfl | hx
   . exact ⟨d, rfl⟩
   . exact b7r h x hx
def a0L (asg : Bool) (x : Operand) (σ : St) (C : AV -> Prop) : Prop :=
 match x with
 | .tmp t => (match σ t with
   | .own m e l => asg = false /\ C (.bor t m e l)
   | .tup l => asg = false /\ b1C l = true /\ C (.tup l)
   | _ => C (A6 σ x))
 | .const (.slice none 0 0) => False
 | _ => C (A6 σ x)
def a0Q (x : Operand) (i : Nat) (σ : St) (C : AV -> Prop) : Prop :=
 match x with
 | .tmp t => (match σ t with
   | .tup l => (match l[i]? with
     | some (.d y) => C (.d y)
     | _ => False)
   | _ => False)
 | _ => False
def I5 (op : Op) (d : Nat) (σ : St) (C : AV -> Prop) : Prop :=
 match op with
 | .move x => a0L false x σ C
 | .assign x => a0L true x σ C
 | .pick c x y => (match A6 σ c with
   | .d (.bool b) => (b = true -> C (A6 σ x)) /\ (b = false -> C (A6 σ y))
   | _ => False)
 | .load t x => B4 (a1t P σ x) fun y => tyk P t = some (y.isAgg, C0 y) /\ C (.d y)
 | .nilCheck x => B4 (a2T σ (A6 σ x)) fun _ => C (A6 σ x)
 | .build t ps => B4 (if F (d + 1000000) then a0n P true t else Q7 P t) fun zs => B4 (Q8 σ ps.toList) fun ys => a0q zs ys /\ C (.d (.agg (a3L zs ys)))
 | .buildSlice t len ps => B4 (I1 P t) fun e => B4 (esz P e) fun z => B4 (Q8 σ ps.toList) fun ys => ys.map (·.1) = List.range len /\ (∀ y ∈ ys.map (·.2), C0 y = z.1) /\ len * z.1 <= 16777216 /\
     C (.own (F d) e (ys.map (·.2)))
 | .fieldAddr s x f => X3 P s x f σ C
 | .indexAddr t x i => X1 P t x i σ C
 | .index t x i => (match P.underlying t, A6 σ x, A6 σ i with
   | some .string, .d (.str s), .d (.int _ m) => 0 <= m /\ B4 (s[m.toNat]?) fun c => C (.d (.int .u8 c.toNat))
   | _, _, _ => False)
 | .slice t x lo hi none => a2H P t x lo hi σ C
 | .binOp op t x y _ => B4 (asD (A6 σ x)) fun dx => B4 (asD (A6 σ y)) fun dy => X0 P t op dx dy fun r => C (.d r)
 | .unOp .not _ x => (match A6 σ x with
   | .d (.bool b) => C (.d (.bool !b))
   | _ => False)
 | .convert s t x => a0G P s t x σ C
 | .extract x i => a0Q x i σ C
 | .call c => a3H P F c d σ C
 | .lookup t x i c => (match A6 σ x with
   | .d (.raw u) => B4 (asD (A6 σ i)) fun k => a5U P t u k c σ C
   | .d (.map _ ks vs _ _) => B4 (asD (A6 σ i)) fun k => a6m P t ks vs k c C
   | _ => False)
 | _ => False
end
variable {P : Program} {F : Nat -> Bool} {w0 : World} {L0 : Nat -> Nat -> Prop} {row : Nat -> Prop} {n : Nat} {K : St -> Prop} {Q : Exit -> Act -> World -> Prop}
 {w w' : World} {L L' : Nat -> Nat -> Prop} {O O' : Nat -> Option Nat} {σ σ' : St} {a : Act} {o : Oper} {d : Nat} {v : Value} {tm : Nat -> Value}
theorem G7 {α : Type} {x : Option α} {f g : α -> Prop} (h : B4 x f) (hfg : ∀ y, f y -> g y) : B4 x g := by
 obtain ⟨y, rfl, hy⟩ := A7 h; exact hfg y hy
theorem c3h {u : Option TypeDesc} {op : BinOp} {x y : D} {C C' : D -> Prop} (h : G9 u op x y C) (hc : ∀ r, C r -> C' r) : G9 u op x y C' := by
 unfold G9 at h ⊢; split at h
 . cases op <;> simp only at h ⊢ <;> first
     | exact (h : False).elim
     | exact ⟨h.1, hc _ h.2⟩
     | exact ⟨h.1, h.2.1, hc _ h.2.2⟩
     | exact ⟨h.1, h.2.1, h.2.2.1, hc _ h.2.2.2⟩
     | exact ⟨h.1, h.2.1, h.2.2.1, h.2.2.2.1, hc _ h.2.2.2.2⟩
     | exact ⟨h.1, h.2.1, h.2.2.1, h.2.2.2.1, h.2.2.2.2.1, hc _ h.2.2.2.2.2⟩
 . obtain ⟨h1, h⟩ := h; refine ⟨h1, ?_⟩; cases op <;> simp only at h ⊢ <;> first | exact hc _ h | exact (h : False).elim
 . obtain ⟨h1, h⟩ := h; refine ⟨h1, ?_⟩; cases op <;> simp only at h ⊢ <;> first | exact hc _ h | exact (h : False).elim
 . obtain ⟨h1, h⟩ := h; refine ⟨h1, ?_⟩; cases op <;> simp only at h ⊢ <;> first | exact hc _ h | exact (h : False).elim
 . obtain ⟨h1, h⟩ := h; refine ⟨h1, ?_⟩; cases op <;> simp only at h ⊢ <;> first | exact hc _ h | exact (h : False).elim
 . obtain ⟨h1, h⟩ := h; refine ⟨h1, ?_⟩; cases op <;> simp only at h ⊢ <;> first | exact hc _ h | exact (h : False).elim
 . cases op <;> simp only at h ⊢ <;> first
     | exact hc _ h
     | exact ⟨h.1, hc _ h.2⟩
 . obtain ⟨h1, h⟩ := h; refine ⟨h1, ?_⟩; cases op <;> simp only at h ⊢ <;> exact hc _ h
 . exact h.elim
theorem c3B {u : Option TypeDesc} {op : BinOp} {x y : D} {C : D -> Prop} (h : G9 u op x y C) : ∃ r, G9 u op x y (fun q => q = r) /\ C r := by
 unfold G9 at h ⊢; split at h
 . cases op <;> simp only at h ⊢ <;> first
     | exact (h : False).elim
     | exact ⟨_, ⟨h.1, rfl⟩, h.2⟩
     | exact ⟨_, ⟨h.1, h.2.1, rfl⟩, h.2.2⟩
     | exact ⟨_, ⟨h.1, h.2.1, h.2.2.1, rfl⟩, h.2.2.2⟩
     | exact ⟨_, ⟨h.1, h.2.1, h.2.2.1, h.2.2.2.1, rfl⟩, h.2.2.2.2⟩
     | exact ⟨_, ⟨h.1, h.2.1, h.2.2.1, h.2.2.2.1, h.2.2.2.2.1, rfl⟩, h.2.2.2.2.2⟩
 . obtain ⟨h1, h⟩ := h; cases op <;> simp only at h ⊢ <;> first | exact ⟨_, ⟨h1, rfl⟩, h⟩ | exact (h : False).elim
 . obtain ⟨h1, h⟩ := h; cases op <;> simp only at h ⊢ <;> first | exact ⟨_, ⟨h1, rfl⟩, h⟩ | exact (h : False).elim
 . obtain ⟨h1, h⟩ := h; cases op <;> simp only at h ⊢ <;> first | exact ⟨_, ⟨h1, rfl⟩, h⟩ | exact (h : False).elim
 . obtain ⟨h1, h⟩ := h; cases op <;> simp only at h ⊢ <;> first | exact ⟨_, ⟨h1, rfl⟩, h⟩ | exact (h : False).elim
 . obtain ⟨h1, h⟩ := h; cases op <;> simp only at h ⊢ <;> first | exact ⟨_, ⟨h1, rfl⟩, h⟩ | exact (h : False).elim
 . cases op <;> simp only at h ⊢ <;> first
     | exact ⟨_, rfl, h⟩
     | exact ⟨_, ⟨h.1, rfl⟩, h⟩
     | exact ⟨_, ⟨h.1, rfl⟩, h.2⟩
 . obtain ⟨h1, h⟩ := h; cases op <;> simp only at h ⊢ <;> exact ⟨_, ⟨h1, rfl⟩, h⟩
 . exact h.elim
theorem b5D {t : TypeId} {op : BinOp} {x y : D} {C C' : D -> Prop} (h : X0 P t op x y C) (hc : ∀ r, C r -> C' r) : X0 P t op x y C' := by
 unfold X0 at h ⊢; split at h
 . refine ⟨h.1, h.2.1, ?_⟩; have h3 := h.2.2; cases op <;> simp only at h3 ⊢ <;> first | exact hc _ h3 | exact h3.elim
 . exact c3h h hc
theorem c2o {t : TypeId} {op : BinOp} {x y : D} {C : D -> Prop} (h : X0 P t op x y C) : ∃ r, X0 P t op x y (fun q => q = r) /\ C r := by
 unfold X0 at h ⊢; split at h
 . obtain ⟨h1, h2, h3⟩ := h; cases op <;> simp only at h3 ⊢ <;> first | exact ⟨_, ⟨h1, h2, rfl⟩, h3⟩ | exact h3.elim
 . exact c3B h
theorem a7o {op : Op} {C : AV -> Prop} (h : I5 P F op d σ C) : ∃ v, I5 P F op d σ (fun x => x = v) /\ C v := by
 unfold I5 at h ⊢; split at h
 . unfold a0L at h ⊢; split at h
   . split at h
     . exact ⟨_, ⟨h.1, rfl⟩, h.2⟩
     . exact ⟨_, ⟨h.1, h.2.1, rfl⟩, h.2.2⟩
     . exact ⟨_, rfl, h⟩
   . exact h.elim
   . exact ⟨_, rfl, h⟩
 . unfold a0L at h ⊢; split at h
   . split at h
     . exact ⟨_, ⟨h.1, rfl⟩, h.2⟩
     . exact ⟨_, ⟨h.1, h.2.1, rfl⟩, h.2.2⟩
     . exact ⟨_, rfl, h⟩
   . exact h.elim
   . exact ⟨_, rfl, h⟩
 . split at h
   . rename_i b hb
     cases b with
     | true => exact ⟨_, ⟨fun _ => rfl, (by intro e; cases e)⟩, h.1 rfl⟩
     | false => exact ⟨_, ⟨(by intro e; cases e), fun _ => rfl⟩, h.2 rfl⟩
   . exact h.elim
 . obtain ⟨y, hy, h1, h2⟩ := A7 h; simp only [hy, L9]; exact ⟨_, ⟨h1, rfl⟩, h2⟩
 . obtain ⟨y, hy, h2⟩ := A7 h; simp only [hy, L9]; exact ⟨_, rfl, h2⟩
 . obtain ⟨y, hy, h⟩ := A7 h; obtain ⟨z, hz, h1, h2⟩ := A7 h; simp only [hy, hz, L9]; exact ⟨_, ⟨h1, rfl⟩, h2⟩
 . obtain ⟨y, hy, h⟩ := A7 h; obtain ⟨z, hz, h⟩ := A7 h; obtain ⟨u, hu, h1, h2, h3, h4⟩ := A7 h; simp only [hy, hz, hu, L9]; exact ⟨_, ⟨h1, h2, h3, rfl⟩, h4⟩
 . unfold X3 at h ⊢; split at h
   . obtain ⟨y, hy, h1, h2⟩ := A7 h; simp only [hy, L9]; exact ⟨_, ⟨h1, rfl⟩, h2⟩
   . obtain ⟨j, e1, ds, h0, h1, h2, h3, h4⟩ := h; exact ⟨_, ⟨j, e1, ds, h0, h1, h2, h3, rfl⟩, h4⟩
   . split at h
     . split at h
       . exact ⟨_, ⟨h.1, h.2.1, rfl⟩, h.2.2⟩
       . exact h.elim
     . exact h.elim
   . split at h
     . obtain ⟨y, hy, h⟩ := A7 h; simp only [hy, L9]; split at h
       . exact ⟨_, ⟨h.1, h.2.1, rfl⟩, h.2.2⟩
       . exact h.elim
     . exact h.elim
   . exact h.elim
 . unfold X1 at h ⊢; obtain ⟨e, he, h⟩ := A7 h; simp only [he, L9]; split at h
   . obtain ⟨h0, h⟩ := h; split at h
     . exact ⟨_, ⟨h0, h.1, h.2.1, rfl⟩, h.2.2⟩
     . obtain ⟨j, e', l, h1, h2, h3, h4, h5⟩ := h; exact ⟨_, ⟨h0, j, e', l, h1, h2, h3, h4, rfl⟩, h5⟩
     . obtain ⟨q, hq, h1, h2, h3⟩ := A7 h; simp only [hq, L9]; exact ⟨_, ⟨h0, h1, h2, rfl⟩, h3⟩
     . split at h
       . obtain ⟨y, hy, h⟩ := A7 h; obtain ⟨z, hz, h1, h2⟩ := A7 h; simp only [hy, hz, L9]; exact ⟨_, ⟨h0, h1, rfl⟩, h2⟩
       . exact h.elim
   . exact h.elim
 . split at h
   . obtain ⟨h0, h⟩ := h; obtain ⟨y, hy, h⟩ := A7 h; simp only [hy, L9]; exact ⟨_, ⟨h0, rfl⟩, h⟩
   . exact h.elim
 . unfold a2H at h ⊢; split at h
   . split at h
     . obtain ⟨y, hy, h⟩ := A7 h; obtain ⟨z, hz, h1, h2, h3⟩ := A7 h; simp only [hy, hz, L9]; exact ⟨_, ⟨h1, h2, rfl⟩, h3⟩
     . exact h.elim
   . split at h
     . obtain ⟨y, hy, h⟩ := A7 h; obtain ⟨z, hz, h⟩ := A7 h; obtain ⟨u, hu, h1, h2, h3, h4⟩ := A7 h; simp only [hy, hz, hu, L9]; exact ⟨_, ⟨h1, h2, h3, rfl⟩, h4⟩
     . exact h.elim
   . exact h.elim
 . obtain ⟨y, hy, h⟩ := A7 h; obtain ⟨z, hz, h⟩ := A7 h; obtain ⟨r, h1, h2⟩ := c2o h; simp only [hy, hz, L9]; exact ⟨.d r, b5D h1 (fun q hq => by rw [hq]), h2⟩
 . split at h
   . exact ⟨_, rfl, h⟩
   . exact h.elim
 . unfold a0G at h ⊢; split at h
   . split at h
     . exact ⟨_, rfl, h⟩
     . exact h.elim
   . split at h
     . exact ⟨_, ⟨h.1, rfl⟩, h.2⟩
     . exact h.elim
   . exact h.elim
 . unfold a0Q at h ⊢; split at h
   . split at h
     . split at h
       . exact ⟨_, rfl, h⟩
       . exact h.elim
     . exact h.elim
   . exact h.elim
 . unfold a3H at h ⊢; split at h
   . split at h
     . obtain ⟨y, hy, h⟩ := A7 h; simp only [hy, L9]; exact ⟨_, rfl, h⟩
     . split at h
       . exact ⟨_, rfl, h⟩
       . exact h.elim
     . split at h
       . obtain ⟨j, kt, vt, kt', m, E, g0, g1, g2, h⟩ := h; exact ⟨_, ⟨j, kt, vt, kt', m, E, g0, g1, g2, rfl⟩, h⟩
       . exact ⟨_, ⟨h.1, rfl⟩, h.2⟩
       . exact h.elim
     . exact h.elim
   . split at h
     . exact ⟨_, rfl, h⟩
     . exact h.elim
   . split at h
     . obtain ⟨h1, h⟩ := h; split at h
       . rename_i hF
         obtain ⟨y, hy, r, h2, hr, h⟩ := A7 h; refine ⟨.d r, ⟨h1, ?_⟩, h⟩; rw [if_pos hF, hy]; exact ⟨r, h2, hr, rfl⟩
       . rename_i hF
         obtain ⟨h2, h⟩ := h; obtain ⟨y, hy, r, hr, h⟩ := A7 h; refine ⟨a1K (F d) r, ⟨h1, ?_⟩, h⟩; rw [if_neg hF, hy]; exact ⟨h2, r, hr, rfl⟩
     . exact h.elim
   . exact h.elim
 . split at h
   . obtain ⟨k, hk, j, kt, vt, z, m, E, g0, g1, g2, g3, g4, h⟩ := A7 h; refine ⟨_, ?_, h⟩; rw [hk]; exact ⟨j, kt, vt, z, m, E, g0, g1, g2, g3, g4, rfl⟩
   . obtain ⟨k, hk, kt, vt, z, g1, g2, g3, g4, h⟩ := A7 h; refine ⟨_, ?_, h⟩; rw [hk]; exact ⟨kt, vt, z, g1, g2, g3, g4, rfl⟩
   . exact h.elim
 . exact h.elim
theorem a2E {op : Op} {C C' : AV -> Prop} (h : I5 P F op d σ C) (hC : ∀ v, C v -> C' v) : I5 P F op d σ C' := by
 unfold I5 at h ⊢; split at h
 . unfold a0L at h ⊢; split at h
   . split at h
     . exact ⟨h.1, hC _ h.2⟩
     . exact ⟨h.1, h.2.1, hC _ h.2.2⟩
     . exact hC _ h
   . exact h.elim
   . exact hC _ h
 . unfold a0L at h ⊢; split at h
   . split at h
     . exact ⟨h.1, hC _ h.2⟩
     . exact ⟨h.1, h.2.1, hC _ h.2.2⟩
     . exact hC _ h
   . exact h.elim
   . exact hC _ h
 . split at h
   . exact ⟨fun e => hC _ (h.1 e), fun e => hC _ (h.2 e)⟩
   . exact h.elim
 . exact G7 h fun y hy => ⟨hy.1, hC _ hy.2⟩
 . exact G7 h fun y hy => hC _ hy
 . exact G7 h fun y hy => G7 hy fun z hz => ⟨hz.1, hC _ hz.2⟩
 . exact G7 h fun y hy => G7 hy fun z hz => G7 hz fun u hu => ⟨hu.1, hu.2.1, hu.2.2.1, hC _ hu.2.2.2⟩
 . unfold X3 at h ⊢; split at h
   . exact G7 h fun y hy => ⟨hy.1, hC _ hy.2⟩
   . obtain ⟨j, e1, ds, h0, h1, h2, h3, h4⟩ := h; exact ⟨j, e1, ds, h0, h1, h2, h3, hC _ h4⟩
   . split at h
     . split at h
       . exact ⟨h.1, h.2.1, hC _ h.2.2⟩
       . exact h.elim
     . exact h.elim
   . split at h
     . refine G7 h fun y hy => ?_
       split at hy
       . exact ⟨hy.1, hy.2.1, hC _ hy.2.2⟩
       . exact hy.elim
     . exact h.elim
   . exact h.elim
 . unfold X1 at h ⊢; refine G7 h fun e h => ?_
   split at h
   . obtain ⟨h0, h⟩ := h; refine ⟨h0, ?_⟩; split at h
     . exact ⟨h.1, h.2.1, hC _ h.2.2⟩
     . obtain ⟨j, e', l, h1, h2, h3, h4, h5⟩ := h; exact ⟨j, e', l, h1, h2, h3, h4, hC _ h5⟩
     . exact G7 h fun q h => ⟨h.1, h.2.1, hC _ h.2.2⟩
     . split at h
       . exact G7 h fun y hy => G7 hy fun z hz => ⟨hz.1, hC _ hz.2⟩
       . exact h.elim
   . exact h.elim
 . split at h
   . exact ⟨h.1, G7 h.2 fun y hy => hC _ hy⟩
   . exact h.elim
 . unfold a2H at h ⊢; split at h
   . split at h
     . exact G7 h fun y hy => G7 hy fun z hz => ⟨hz.1, hz.2.1, hC _ hz.2.2⟩
     . exact h.elim
   . split at h
     . exact G7 h fun y hy => G7 hy fun z hz => G7 hz fun u hu => ⟨hu.1, hu.2.1, hu.2.2.1, hC _ hu.2.2.2⟩
     . exact h.elim
   . exact h.elim
 . exact G7 h fun y hy => G7 hy fun z hz => b5D hz fun r hr => hC _ hr
 . split at h
   . exact hC _ h
   . exact h.elim
 . unfold a0G at h ⊢; split at h
   . split at h
     . exact hC _ h
     . exact h.elim
   . split at h
     . exact ⟨h.1, hC _ h.2⟩
     . exact h.elim
   . exact h.elim
 . unfold a0Q at h ⊢; split at h
   . split at h
     . split at h
       . exact hC _ h
       . exact h.elim
     . exact h.elim
   . exact h.elim
 . unfold a3H at h ⊢; split at h
   . split at h
     . exact G7 h fun y hy => hC _ hy
     . split at h
       . exact hC _ h
       . exact h.elim
     . split at h
       . obtain ⟨j, kt, vt, kt', m, E, g0, g1, g2, h⟩ := h; exact ⟨j, kt, vt, kt', m, E, g0, g1, g2, hC _ h⟩
       . exact ⟨h.1, hC _ h.2⟩
       . exact h.elim
     . exact h.elim
   . split at h
     . exact hC _ h
     . exact h.elim
   . split at h
     . obtain ⟨h1, h⟩ := h; refine ⟨h1, ?_⟩; split at h
       . rename_i hF
         rw [if_pos hF]; exact G7 h fun y ⟨r, h2, hr, hc⟩ => ⟨r, h2, hr, hC _ hc⟩
       . rename_i hF
         rw [if_neg hF]; exact ⟨h.1, G7 h.2 fun y ⟨r, hr, hc⟩ => ⟨r, hr, hC _ hc⟩⟩
     . exact h.elim
   . exact h.elim
 . split at h
   . exact G7 h fun k ⟨j, kt, vt, z, m, E, g0, g1, g2, g3, g4, h⟩ => ⟨j, kt, vt, z, m, E, g0, g1, g2, g3, g4, hC _ h⟩
   . exact G7 h fun k ⟨kt, vt, z, g1, g2, g3, g4, h⟩ => ⟨kt, vt, z, g1, g2, g3, g4, hC _ h⟩
   . exact h.elim
 . exact h.elim
theorem RCs.noOg {og og' : Option Nat} : ∀ {xs : List AV} {vs : List Value}, (∀ x ∈ xs, ∃ d, x = .d d) -> RCs P w L og xs vs -> RCs P w L og' xs vs
 | [], _, _, h => h
 | x :: xs, vs, hx, h => by
   simp only [RCs] at h ⊢; obtain ⟨v, us, h1, h2, h3⟩ := h; obtain ⟨d, rfl⟩ := hx x (by simp); exact ⟨v, us, h1, h2, RCs.noOg (fun y hy => hx y (by simp [hy])) h3⟩
theorem c1p (hd : o.dst = some d) (hlt : d < n) (hsz : a.tmps.size = n) (hdef : a.defers = []) (hR : Rel P w0 L0 row w L O σ (C6 a)) {t : Nat} {l : List AV} (ho : o.op = .move (.tmp t)) (ht : σ t = .tup l) (hl : b1C l = true) (h : K (put σ d (.tup l))) :
   o.wp P a w (D4 P w0 L0 row n K) Q := by
 have h1 := hR.slots t; rw [ht] at h1; obtain ⟨vs, hv, hr⟩ := h1; refine E6 hd hlt hsz hdef hR (x := .tup l) (v := C6 a t) ?_ ⟨vs, hv, RCs.noOg (b7r hl) hr⟩ h; simp [execOp, ho]; rfl
theorem a9M (hd : o.dst = some d) (hlt : d < n) (hsz : a.tmps.size = n) (hdef : a.defers = []) (hR : Rel P w0 L0 row w L O σ (C6 a)) (h : I5 P F o.op d σ (fun x => K (put σ d x))) : o.wp P a w (D4 P w0 L0 row n K) Q := by
 unfold I5 at h; split at h
 . rename_i x ho
   unfold a0L at h; split at h
   . rename_i t
     split at h
     . rename_i m e l ht
       exact a2t hd hlt hsz hdef hR (.inl ho) (by simp only [A6, ht, rd]; exact h.2)
     . rename_i l ht
       exact c1p hd hlt hsz hdef hR ho ht h.2.1 h.2.2
     . exact a2t hd hlt hsz hdef hR (.inl ho) h
   . exact h.elim
   . exact a2t hd hlt hsz hdef hR (.inl ho) h
 . rename_i x ho
   unfold a0L at h; split at h
   . rename_i t
     split at h
     . exact absurd h.1 (by simp)
     . exact absurd h.1 (by simp)
     . exact a2t hd hlt hsz hdef hR (.inr ho) h
   . exact h.elim
   . exact a2t hd hlt hsz hdef hR (.inr ho) h
 . rename_i c x y ho
   split at h
   . rename_i b hc; exact c0m hd hlt hsz hdef hR ho hc h.1 h.2
   . exact h.elim
 . rename_i t x ho
   obtain ⟨y, hy, h1, h2⟩ := A7 h; exact c0w hd hlt hsz hdef hR ho hy h1 h2
 . rename_i x ho
   obtain ⟨y, hy, h⟩ := A7 h; exact b0j hd hlt hsz hdef hR ho hy h
 . rename_i t ps ho
   obtain ⟨zs, hz, h⟩ := A7 h; obtain ⟨ys, hy, h1, h2⟩ := A7 h; split at hz
   . exact a8J (N := true) hd hlt hsz hdef hR ho hz hy h1 h2
   . exact a8J (N := false) hd hlt hsz hdef hR ho hz hy h1 h2
 . rename_i t len ps ho
   obtain ⟨e, he, h⟩ := A7 h; obtain ⟨z, hz, h⟩ := A7 h; obtain ⟨ys, hy, h1, h2, h3, h4⟩ := A7 h; exact a7n hd hlt hsz hdef hR ho (K4 he) (T0 he) (by rw [hz]) hy h1 h2 h3 (F d) h4
 . rename_i s x f ho
   unfold X3 at h; split at h
   . rename_i ds hx
     obtain ⟨y, hy, h1, h2⟩ := A7 h; exact b0a hd hlt hsz hdef hR ho hx hy h1 h2
   . rename_i u hx
     obtain ⟨j, e1, ds, _, hj, h1, h2, h3⟩ := h; exact b0D hd hlt hsz hdef hR ho hx hj h1 h2 h3
   . rename_i j p hx
     split at h
     . rename_i b hj
       split at h
       . rename_i ds hp
         exact b0z hd hlt hsz hdef hR ho hx hj hp h.1 h.2.1 h.2.2
       . exact h.elim
     . exact h.elim
   . rename_i j i p hx
     split at h
     . rename_i e l hj
       obtain ⟨y, hy, h⟩ := A7 h; split at h
       . rename_i ds hp
         exact a9k hd hlt hsz hdef hR ho hx hj hy hp h.1 h.2.1 h.2.2
       . exact h.elim
     . exact h.elim
   . exact h.elim
 . rename_i t x i ho
   unfold X1 at h; obtain ⟨e, he, h⟩ := A7 h; split at h
   . rename_i k m hi
     obtain ⟨h0, h⟩ := h; split at h
     . rename_i j e' l hx
       obtain ⟨rfl, h1, h2⟩ := h; exact a8T hd hlt hsz hdef hR ho (K4 he) hx rfl hi h0 h1 h2
     . rename_i u hx
       obtain ⟨j, e', l, _, hj, h1, h2, h3⟩ := h; exact b0d hd hlt hsz hdef hR ho (K4 he) hx hj h1 hi h0 h2 h3
     . rename_i j lo hx
       obtain ⟨⟨e', l⟩, hj, h1, h2, h⟩ := A7 h; exact b0U hd hlt hsz hdef hR ho (K4 he) hx hj h1 hi h0 h2 h
     . split at h
       . rename_i ds hx
         obtain ⟨sz, hz, h⟩ := A7 h; obtain ⟨z, hzz, h1, h2⟩ := A7 h; exact b0N hd hlt hsz hdef hR ho (K4 he) hz hx hi h0 hzz h1 h2
       . exact h.elim
   . exact h.elim
 . rename_i t x i ho
   split at h
   . rename_i s k m hu hx hi
     obtain ⟨h0, h⟩ := h; obtain ⟨c, hc, h⟩ := A7 h; exact b4F hd hlt hsz hdef hR ho hu hx hi h0 hc h
   . exact h.elim
 . rename_i t x lo hi ho
   unfold a2H at h; split at h
   . rename_i hu
     split at h
     . rename_i s hx
       obtain ⟨i, hi', h⟩ := A7 h; obtain ⟨j, hj, h1, h2, h3⟩ := A7 h; exact b3T hd hlt hsz hdef hR ho hu hx hi' hj h1 h2 h3
     . exact h.elim
   . rename_i e hu
     split at h
     . rename_i ds hx
       obtain ⟨sz, hz, h⟩ := A7 h; obtain ⟨i, hi', h⟩ := A7 h; obtain ⟨j, hj, h1, h2, h3, h4⟩ := A7 h; exact b4y hd hlt hsz hdef hR ho hu hz hx hi' hj h1 h2 h3 h4
     . exact h.elim
   . exact h.elim
 . rename_i op t x y t' ho
   obtain ⟨dx, hx, h⟩ := A7 h; obtain ⟨dy, hy, h⟩ := A7 h; exact c3Y hd hlt hsz hdef hR ho hx hy h
 . rename_i t x ho
   split at h
   . rename_i b hx; exact c3T hd hlt hsz hdef hR ho hx h
   . exact h.elim
 . rename_i s t x ho
   unfold a0G at h; split at h
   . rename_i hs ht
     split at h
     . rename_i st hx; exact b2y hd hlt hsz hdef hR ho hs ht hx h
     . exact h.elim
   . rename_i u k' hs ht
     split at h
     . rename_i k m hx; exact b2r hd hlt hsz hdef hR ho (by simp [hs]) ht hx h.1 h.2
     . exact h.elim
   . exact h.elim
 . rename_i x i ho
   unfold a0Q at h; split at h
   . rename_i t
     split at h
     . rename_i l ht
       split at h
       . rename_i y hy; exact b3o hd hlt hsz hdef hR ho rfl ht hy h
       . exact h.elim
     . exact h.elim
   . exact h.elim
 . rename_i c ho
   obtain ⟨callee, args, ts⟩ := c; unfold a3H at h; simp only at h; split at h
   . rename_i x t ha ht
     obtain rfl := b1V ha; obtain rfl := b1V ht; split at h
     . rename_i e hu
       obtain ⟨l, hl, h⟩ := A7 h; exact c3Q hd hlt hsz hdef hR ho hu hl h
     . rename_i hu
       split at h
       . rename_i s hs
         exact c0t hd hlt hsz hdef hR ho hu hs h
       . exact h.elim
     . split at h
       . rename_i u hx
         obtain ⟨j, kt, vt, kt', m, E, _, hu, hj, h⟩ := h; exact c1q hd hlt hsz hdef hR ho hu hx hj h
       . rename_i hx
         obtain ⟨⟨kt, vt, hu⟩, h⟩ := h; exact c0D hd hlt hsz hdef hR ho hu hx h
       . exact h.elim
     . exact h.elim
   . rename_i x y t t' ha ht
     obtain rfl := b1H ha; obtain rfl := b1H ht; split at h
     . rename_i k p k2 q hx hy
       exact c3O hd hlt hsz hdef hR ho hx hy h
     . exact h.elim
   . rename_i f
     split at h
     . rename_i g caps hf
       obtain ⟨h1, h⟩ := h; have h1' : ∀ c ∈ caps, c.isAgg = false := fun c hc => by have := all_eq_true.1 h1 c hc; simpa using this
       split at h
       . obtain ⟨xa, hxa, y, hy, hfn, h⟩ := A7 h; exact b0H hd hlt hsz hdef hR ho hf h1' hxa hy hfn h
       . obtain ⟨h2, h⟩ := h; obtain ⟨xa, hxa, r, hfn, h⟩ := A7 h; exact c0s hd hlt hsz hdef hR ho hf h1' hxa (by rw [h2]; simp) hfn (F d) (by rw [h2]; exact h)
     . exact h.elim
   . exact h.elim
 . rename_i t x i c ho
   split at h
   . rename_i u hx
     obtain ⟨k, hk, j, kt, vt, z, m, E, _, hu, hj, hf, hz, h⟩ := A7 h; exact b4m hd hlt hsz hdef hR ho hu hx hj hk hf hz h
   . rename_i u ks vs bs clk hx
     obtain ⟨k, hk, kt, vt, z, hu, hf, hfs, hz, h⟩ := A7 h; exact b2I hd hlt hsz hdef hR ho hu hx hfs hk hf hz h
   . exact h.elim
 . exact h.elim
def a1I : AV -> Option Nat
 | .bor j _ _ _ => some j
 | .adr j _ => some j
 | .eadr j _ _ => some j
 | .sub j _ => some j
 | _ => none
def Agr (xs : List Operand) (σ σ' : St) : Prop := (∀ x ∈ xs, (∀ t, x = .tmp t -> σ t = σ' t) /\ ∀ j, a1I (A6 σ x) = some j -> σ j = σ' j) /\ ∀ j, 1000000 <= j -> σ j = σ' j
theorem Agr.aval {xs : List Operand} (h : Agr xs σ σ') {x : Operand} (hx : x ∈ xs) : Vw.A6 σ x = Vw.A6 σ' x := by
 cases x with
 | tmp t => simp only [Vw.A6, (h.1 _ hx).1 t rfl]
 | const v => rfl
 | func f => rfl
 | global g => rfl
theorem Agr.deref {xs : List Operand} (h : Agr xs σ σ') {x : Operand} (hx : x ∈ xs) : Vw.a0P σ (Vw.A6 σ x) = Vw.a0P σ' (Vw.A6 σ' x) := by
 have h2 := (h.1 x hx).2; rw [<- h.aval hx]; cases hv : Vw.A6 σ x <;> rw [hv] at h2
 case d z => cases z <;> rfl
 case adr j p => simp only [Vw.a0P, h2 j rfl]
 case eadr j i p => simp only [Vw.a0P, h2 j rfl]
 all_goals rfl
theorem Agr.bnd {xs : List Operand} (h : Agr xs σ σ') {x : Option Operand} (hx : ∀ y, x = some y -> y ∈ xs) (k : Nat) : Vw.bnd σ x k = Vw.bnd σ' x k := by
 cases x with
 | none => rfl
 | some y => simp only [Vw.bnd, h.aval (hx y rfl)]
theorem Agr.parts {xs : List Operand} (h : Agr xs σ σ') : ∀ {ps : List (Nat × Operand)}, (∀ p ∈ ps, p.2 ∈ xs) -> Q8 σ ps = Q8 σ' ps
 | [], _ => rfl
 | (i, x) :: ps, hp => by
   simp only [Q8, h.aval (hp (i, x) (by simp)), h.parts (ps := ps) (fun p hq => hp p (mem_cons_of_mem _ hq))]
theorem Agr.args {xs : List Operand} (h : Agr xs σ σ') : ∀ {ys : List Operand}, (∀ y ∈ ys, y ∈ xs) -> a2G σ ys = a2G σ' ys /\ T4 σ ys = T4 σ' ys
 | [], _ => ⟨rfl, rfl⟩
 | y :: ys, hy => by
   have h1 := h.aval (hy y (by simp)); have h2 := h.args (ys := ys) (fun z hz => hy z (mem_cons_of_mem _ hz)); simp only [a2G, b8x, T4, h1, h2.1, h2.2, and_self]
theorem Agr.lends {xs : List Operand} (h : Agr xs σ σ') : ∀ {ys : List Operand}, (∀ y ∈ ys, y ∈ xs) -> a1u σ ys = a1u σ' ys
 | [], _ => rfl
 | y :: ys, hy => by
   have h1 := h.aval (hy y (by simp)); have h2 := h.lends (ys := ys) (fun z hz => hy z (mem_cons_of_mem _ hz)); simp only [a1u, b3N, h1, h2]
theorem a8v {op : Op} {C : AV -> Prop} (ha : Agr op.operands.toList σ σ') (h : I5 P F op d σ C) : I5 P F op d σ' C := by
 unfold I5 at h ⊢; split at h
 . rename_i x
   have hx := ha.aval (x := x) (by simp [Op.operands]); unfold a0L at h ⊢; split at h
   . rename_i t
     have ht := (ha.1 (.tmp t) (by simp [Op.operands])).1 t rfl; rw [<- ht, <- hx]; exact h
   . exact h.elim
   . rw [<- hx]; exact h
 . rename_i x
   have hx := ha.aval (x := x) (by simp [Op.operands]); unfold a0L at h ⊢; split at h
   . rename_i t
     have ht := (ha.1 (.tmp t) (by simp [Op.operands])).1 t rfl; rw [<- ht, <- hx]; exact h
   . exact h.elim
   . rw [<- hx]; exact h
 . rename_i c x y
   rw [<- ha.aval (x := c) (by simp [Op.operands]), <- ha.aval (x := x) (by simp [Op.operands]), <- ha.aval (x := y) (by simp [Op.operands])]; exact h
 . rename_i t x
   have hx : a1t P σ x = a1t P σ' x := by
     have h1 := ha.deref (x := x) (by simp [Op.operands]); cases x with
     | global g => rfl
     | _ => exact h1
   rw [<- hx]; exact h
 . rename_i x
   have h1 := ha.deref (x := x) (by simp [Op.operands]); have h2 := ha.aval (x := x) (by simp [Op.operands]); have h3 : a2T σ (Vw.A6 σ x) = a2T σ' (Vw.A6 σ' x) := by
     rw [<- h2] at h1 ⊢; unfold a2T; split
     . rfl
     . rw [h1]
   rw [<- h2] at h3 ⊢; rw [<- h3]; exact h
 . rename_i t ps
   rw [<- ha.parts (ps := ps.toList) (fun p hp => by simp only [Op.operands, mem_map]; exact ⟨p, hp, rfl⟩)]; exact h
 . rename_i t len ps
   rw [<- ha.parts (ps := ps.toList) (fun p hp => by simp only [Op.operands, mem_map]; exact ⟨p, hp, rfl⟩)]; exact h
 . rename_i s x f
   have hx := ha.aval (x := x) (by simp [Op.operands]); have hr := (ha.1 x (by simp [Op.operands])).2; unfold X3 at h ⊢; rw [<- hx]; split at h
   . exact h
   . obtain ⟨j, e1, ds, h0, h1, h2⟩ := h; exact ⟨j, e1, ds, h0, by rw [<- ha.2 j h0]; exact h1, h2⟩
   . rename_i j p hv; rw [hv] at hr; simp only [<- hr j rfl]; exact h
   . rename_i j i p hv; rw [hv] at hr; simp only [<- hr j rfl]; exact h
   . exact h.elim
 . rename_i t x i
   have hx := ha.aval (x := x) (by simp [Op.operands]); have hi := ha.aval (x := i) (by simp [Op.operands]); unfold X1 at h ⊢; rw [<- hx, <- hi]; refine G7 h fun e h => ?_
   split at h
   . obtain ⟨h0, h⟩ := h; refine ⟨h0, ?_⟩; split at h
     . exact h
     . obtain ⟨j, e', l, h1, h2, h3⟩ := h; exact ⟨j, e', l, h1, by rw [<- ha.2 j h1]; exact h2, h3⟩
     . rename_i j lo hv
       have hr := (ha.1 x (by simp [Op.operands])).2; rw [hv] at hr; simp only [<- hr j rfl]; exact h
     . exact h
   . exact h.elim
 . rename_i t x i
   rw [<- ha.aval (x := x) (by simp [Op.operands]), <- ha.aval (x := i) (by simp [Op.operands])]; exact h
 . rename_i t x lo hi
   have hx := ha.aval (x := x) (by simp [Op.operands]); have hl := fun k => ha.bnd (x := lo) (fun y hy => by subst hy; simp [Op.operands]) k
   have hh := fun k => ha.bnd (x := hi) (fun y hy => by subst hy; simp [Op.operands]) k
   unfold a2H at h ⊢; simp only [<- hx, <- hl, <- hh]; exact h
 . rename_i op t x y t'
   rw [<- ha.aval (x := x) (by simp [Op.operands]), <- ha.aval (x := y) (by simp [Op.operands])]; exact h
 . rename_i t x
   rw [<- ha.aval (x := x) (by simp [Op.operands])]; exact h
 . rename_i s t x
   unfold a0G at h ⊢; rw [<- ha.aval (x := x) (by simp [Op.operands])]; exact h
 . rename_i x i
   unfold a0Q at h ⊢; split at h
   . rename_i t
     have ht := (ha.1 (.tmp t) (by simp [Op.operands])).1 t rfl; rw [<- ht]; exact h
   . exact h.elim
 . rename_i c
   unfold a3H at h ⊢; split at h
   . rename_i x t hc hx ht
     rw [<- ha.aval (x := x) (by simp [Op.operands, Call.operands, hx])]; split at h
     . exact h
     . exact h
     . split at h
       . obtain ⟨j, kt, vt, kt', m, E, g0, g1, g2, h⟩ := h; exact ⟨j, kt, vt, kt', m, E, g0, g1, by rw [<- ha.2 j g0]; exact g2, h⟩
       . exact h
       . exact h.elim
     . exact h.elim
   . rename_i x y t t' hc hx ht
     rw [<- ha.aval (x := x) (by simp [Op.operands, Call.operands, hx]), <- ha.aval (x := y) (by simp [Op.operands, Call.operands, hx])]; exact h
   . rename_i f hc
     have hf := ha.aval (x := f) (by simp [Op.operands, Call.operands, hc]); have hxs := ha.args (ys := c.args.toList) (fun y hy => by simp only [Op.operands, Call.operands, Array.toList_append, mem_append]; exact .inr hy); have hls := ha.lends (ys := c.args.toList) (fun y hy => by simp only [Op.operands, Call.operands, Array.toList_append, mem_append]; exact .inr hy); rw [<- hf, <- hxs.1, <- hxs.2, <- hls]; exact h
   . exact h.elim
 . rename_i t x i c
   rw [<- ha.aval (x := x) (by simp [Op.operands]), <- ha.aval (x := i) (by simp [Op.operands])]; split at h
   . refine G7 h fun k ⟨j, kt, vt, z, m, E, g0, g1, g2, h⟩ => ⟨j, kt, vt, z, m, E, g0, g1, by rw [<- ha.2 j g0]; exact g2, h⟩
   . exact h
   . exact h.elim
 . exact h.elim
end Go.Vw