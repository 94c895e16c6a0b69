/-
  The abstract walk through a translated function, part 2 of 4: its data, its operations, and that it is sound, for every program. No conditions beyond those that each theorem states.
-/import Derived.Test.YtidpnpjebanalaaGreatDoorWa
import Derived.Maps.RangeRun
import Derived.Deep.LoopGhost
import Derived.StillTail
set_option linter.unusedSimpArgs false
set_option linter.unusedVariables false
namespace Go.Vw
open Go.RowKit Go.Proofs
def Ctr (P : Program) (f : FuncId) (args : List AV) (r : AV) : Prop :=
  Enters P f ∧ ∀ (w : World) (L : Nat → Nat → Prop) (og : Option Nat) (vals : List Value), (∀ b q, L b q → b < w.heap.size) → GL P w L → (∀ g, og = some g → g < w.heap.size ∧ ∀ q, ¬ L g q) → RCs P w L og args vals →
    Calls P f vals.toArray w fun e w' => ∃ v L' og', e = .returned v ∧ GrownS w w' (optB og) ∧ (∀ b q, L' b q → b < w'.heap.size) ∧ (∀ b q, b < w.heap.size → ¬ optB og b → (L' b q ↔ L b q)) ∧
      (∀ g, og' = some g → g < w'.heap.size ∧ (w.heap.size ≤ g ∨ og = some g)) ∧ RC P w' L' og' r v
variable {P : Program} {w0 : World} {L0 : Nat → Nat → Prop} {row : Nat → Prop} {n : Nat} {K : St → Prop} {Q : Exit → Act → World → Prop}
  {w w' : World} {L L' : Nat → Nat → Prop} {O O' : Nat → Option Nat} {σ σ' : St} {a : Act} {o : Oper} {d : Nat} {v : Value} {tm : Nat → Value}
theorem Rel.freeze (h : Rel P w0 L0 row w L O σ tm) {j : Nat} {b : D} (hj : σ j = .box b) :
    ∃ L' O', Rel P w0 L0 row w L' O' (put σ j (.d (.ref b))) tm ∧ Ext w L w L' ∧ ∃ g, tm j = ptr g 0 ∧ RepV w L' (.ref b) (ptr g 0) := by
  have h1 := h.slots j; rw [hj] at h1; obtain ⟨g, C, e, h2, h3, h4, h5, h6⟩ := h1; have hdom := h.olt j g h2; have hext : Ext w L w (more L g C.size) := fun b q hq => ⟨.inl hq, fun _ hv => hv⟩
  have hS : Same w L w (more L g C.size) (optB (some g)) := ⟨hext, fun _ _ _ => rfl, fun b q _ hne => ⟨fun hq => by
    rcases hq with hq | ⟨hq, _⟩
    · exact hq
    · exact absurd (by rw [hq]; rfl) hne, .inl⟩⟩
  have hrep : RepV w (more L g C.size) (.ref b) (ptr g 0) := by
    refine ⟨?_, rfl⟩; simp only [Rep, ptr, Value.cells]; refine ⟨g, 0, C.toList, rfl, Rep.mono hext _ _ h5, fun k u hk => ?_⟩; have hk' : C[k]? = some u := (by simpa using hk); refine ⟨by simpa [World.cell?, h4] using hk', .inr ⟨rfl, ?_⟩⟩; have := (Array.getElem?_eq_some_iff.1 hk').1; omega
  refine ⟨more L g C.size, setv O j none, ?_, hext, g, h3, hrep⟩; have := h.putOwn j (.d (.ref b)) (tm j) none (optB (some g)) hS h.grown (Nat.le_refl _) (fun b q hq => by
    rcases hq with hq | ⟨rfl, _⟩
    · exact h.lok b q hq
    · exact hdom.1) (fun q hq => by obtain rfl : g = q := (by simpa [optB] using hq); exact hdom.2) (fun i q hi hO e => hi (h.inj i j q hO (by rw [h2]; exact e))) (by simp) (by rw [h3]; exact hrep)
  rwa [setv_id tm j] at this
def capsK (C : St → List D → Prop) : List Operand → St → List D → Prop
  | [], σ, ds => C σ ds
  | x :: xs, σ, ds => match aval σ x with
    | .adr j [] => (match σ j with
      | .box b => capsK C xs (put σ j (.d (.ref b))) (ds ++ [.ref b])
      | _ => False)
    | y => (match asD y with
      | some z => z.isAgg = false ∧ capsK C xs σ (ds ++ [z])
      | none => False)
theorem capsK_ok {C : St → List D → Prop} : ∀ (xs : List Operand) {L : Nat → Nat → Prop} {O : Nat → Option Nat} (σ : St) (ds : List D) (css : List (List Value)), capsK C xs σ ds → Rel P w0 L0 row w L O σ (tmOf a) → RepL w L ds css →
    ∃ L' O' σ' ds', Rel P w0 L0 row w L' O' σ' (tmOf a) ∧ C σ' ds' ∧ RepL w L' ds' (css ++ xs.map fun x => [a.eval x])
  | [], L, O, σ, ds, css, h, hR, hr => ⟨L, O, σ, ds, hR, h, by simpa using hr⟩
  | x :: xs, L, O, σ, ds, css, h, hR, hr => by
    simp only [capsK] at h; have other : ∀ y, aval σ x = y → (match asD y with
      | some z => z.isAgg = false ∧ capsK C xs σ (ds ++ [z])
      | none => False) → ∃ L' O' σ' ds', Rel P w0 L0 row w L' O' σ' (tmOf a) ∧ C σ' ds' ∧ RepL w L' ds' (css ++ (x :: xs).map fun x => [a.eval x]) := by
      intro y hy h; cases hz : asD y with
      | none => rw [hz] at h; exact h.elim
      | some z =>
        rw [hz] at h; have hx := aval_asD hR (x := x) (by rw [hy]; exact hz); have := capsK_ok xs σ (ds ++ [z]) (css ++ [[a.eval x]]) h.2 hR (hr.append (.one (hx.cell h.1))); simpa using this
    split at h
    · rename_i j hj
      split at h
      · rename_i b hb
        obtain ⟨L1, O1, h1, h2, g, h3, h4⟩ := hR.freeze hb; have hx : a.eval x = tmOf a j := by
          have := aval_ok hR x; rw [hj] at this; obtain ⟨b', g', off, e1, e2, e3, e4⟩ := this; rw [hb] at e1; obtain rfl : b = b' := by simpa [boxOf] using e1
          have e5 := hR.slots j; rw [hb] at e5; obtain ⟨g2, C2, e, e6, e7, _⟩ := e5; rw [e2] at e6; obtain rfl : g' = g2 := by simpa using e6
          simp only [D.off, Option.some.injEq] at e3; rw [e4, ← e3]; exact e7.symm
        have := capsK_ok xs _ (ds ++ [.ref b]) (css ++ [[a.eval x]]) h h1 ((RepL.mono h2 _ _ hr).append (.one (by rw [hx, h3]; exact h4.cell rfl))); simpa using this
      · exact h.elim
    · exact other _ rfl h
section
variable (hd : o.dst = some d) (hlt : d < n) (hsz : a.tmps.size = n) (hdef : a.defers = []) (hR : Rel P w0 L0 row w L O σ (tmOf a))
include hd hlt hsz hdef hR
theorem s_makeFunc {g : FuncId} {caps : Array Operand} (ho : o.op = .makeFunc (.func g) #[] caps) (h : capsK (fun σ' ds => K (put σ' d (.d (.clo g ds)))) caps.toList σ []) : o.wp P a w (Good P w0 L0 row n K) Q := by
  obtain ⟨L', O', σ', ds', h1, h2, h3⟩ := capsK_ok (a := a) caps.toList σ [] [] h hR (by simp [RepL]); refine pure_step hd hlt hsz hdef h1 (x := .d (.clo g ds')) (v := .func (.func g) #[] (caps.map a.eval)) ?_ ?_ h2
  · simp [execOp, ho, Instr.makeFunc]
  · refine ⟨?_, rfl⟩; simp only [Rep, Value.cells]; refine ⟨_, h3, ?_⟩; have : ∀ (l : List Operand), (l.map fun x => [a.eval x]).flatten = l.map a.eval := by
      intro l
      induction l with
      | nil => rfl
      | cons x xs ih => simp [ih]
    rw [List.nil_append, this]; congr 2
    apply Array.ext'
    simp
end
def bndK (C : List D → Prop) (σ : St) : List Operand → List D → Prop
  | [], ds => C ds
  | x :: xs, ds => match asD (aval σ x) with
    | some z => bndK C σ xs (ds ++ [z])
    | none => False
theorem bndK_ok {C : List D → Prop} (hR : Rel P w0 L0 row w L O σ (tmOf a)) : ∀ (xs : List Operand) (ds : List D) (vs : List Value), bndK C σ xs ds → RepL w L ds (vs.map fun v => v.cells.toList) → vs.map vIsAgg = ds.map D.isAgg →
    ∃ ds', C ds' ∧ RepL w L ds' ((vs ++ xs.map a.eval).map fun v => v.cells.toList) ∧ (vs ++ xs.map a.eval).map vIsAgg = ds'.map D.isAgg
  | [], ds, vs, h, h1, h2 => ⟨ds, h, by simpa using h1, by simpa using h2⟩
  | x :: xs, ds, vs, h, h1, h2 => by
    simp only [bndK] at h; cases hz : asD (aval σ x) with
    | none => rw [hz] at h; exact h.elim
    | some z =>
      rw [hz] at h; have hx := aval_asD hR (x := x) hz; have := bndK_ok hR xs (ds ++ [z]) (vs ++ [a.eval x]) h (by rw [List.map_append]; exact h1.append (.one hx.1)) (by rw [List.map_append, List.map_append, h2]; simp [hx.2]); simpa using this
section
variable (hd : o.dst = some d) (hlt : d < n) (hsz : a.tmps.size = n) (hdef : a.defers = []) (hR : Rel P w0 L0 row w L O σ (tmOf a))
include hd hlt hsz hdef hR
theorem s_makeBnd {g : FuncId} {first : Array Operand} (ho : o.op = .makeFunc (.func g) first #[]) (h : bndK (fun ds => K (put σ d (.d (.bnd g ds)))) σ first.toList []) : o.wp P a w (Good P w0 L0 row n K) Q := by
  obtain ⟨ds', h2, h3, h4⟩ := bndK_ok (a := a) hR first.toList [] [] h (by simp [RepL]) rfl; refine pure_step hd hlt hsz hdef hR (x := .d (.bnd g ds')) (v := .func (.func g) (first.map a.eval) #[]) ?_ ?_ h2
  · simp [execOp, ho, Instr.makeFunc]
  · refine ⟨?_, rfl⟩
    show Rep w L (.bnd g ds') [Value.func (.func g) (first.map a.eval) #[]]
    simp only [Rep]; refine ⟨first.toList.map a.eval, by simpa using h3, by simpa using h4, ?_⟩; congr 2
    apply Array.ext'
    simp
end
def argA (σ : St) (x : Operand) : Option AV :=
  match aval σ x with
  | .bor _ true e l => some (.own true e l)
  | y => (asD y).map .d
def argsA (σ : St) : List Operand → Option (List AV)
  | [] => some []
  | x :: xs => match argA σ x, argsA σ xs with
    | some y, some ys => some (y :: ys)
    | _, _ => none
def eaten (σ : St) : List Operand → List Nat
  | [] => []
  | x :: xs => match aval σ x with
    | .bor j true _ _ => j :: eaten σ xs
    | _ => eaten σ xs
def eat (σ : St) : List Nat → St
  | [] => σ
  | j :: js => eat (put σ j .undef) js
def demote (b : Bool) : AV → AV
  | .own true e l => .own b e l
  | x => x
theorem args_ok (hR : Rel P w0 L0 row w L O σ (tmOf a)) (og : Option Nat) : ∀ (xs : List Operand) (xa : List AV), argsA σ xs = some xa → (∀ j ∈ eaten σ xs, (tmOf a j).ownBlock = og) → RCs P w L og xa (xs.map a.eval)
  | [], xa, h, _ => by simp only [argsA, Option.some.injEq] at h; subst h; simp [RCs]
  | x :: xs, xa, h, hj => by
    simp only [argsA] at h; split at h
    · rename_i y ys hy hys
      simp only [Option.some.injEq] at h; subst h; simp only [List.map_cons, RCs]; have hrest : ∀ j ∈ eaten σ xs, (tmOf a j).ownBlock = og := by
        intro j hj'; refine hj j ?_; simp only [eaten]; split
        · exact List.mem_cons_of_mem _ hj'
        · exact hj'
      refine ⟨_, _, rfl, ?_, args_ok hR og xs ys hys hrest⟩; simp only [argA] at hy; have h1 := aval_ok hR x; have other : ∀ z, aval σ x = z → (asD z).map AV.d = some y → RC P w L og y (a.eval x) := by
        intro z hz h2; simp only [Option.map_eq_some_iff] at h2; obtain ⟨u, hu, rfl⟩ := h2; have := aval_asD hR (x := x) (by rw [hz]; exact hu); simpa only [RC] using this
      split at hy
      · rename_i j e l hx
        simp only [Option.some.injEq] at hy; subst hy; rw [hx] at h1; obtain ⟨h2, h3⟩ := h1; have h4 := hR.slots j; rw [h2] at h4; have hb := hj j (by simp [eaten, hx]); obtain ⟨css, sz, g1, g2, g3, g4, g5⟩ : OwnR P w L (O j) true e l (tmOf a j) := h4; rw [h3]; exact ⟨css, sz, g1, g2, g3, g4, fun g hg => ⟨by rw [← hb]; exact hg, (g5 g hg).2⟩⟩
      · exact other _ rfl hy
    · cases h
theorem RC.demote {og : Option Nat} {x : AV} {v : Value} (b : Bool) (hlok : ∀ b q, L b q → b < w.heap.size) (hog : ∀ g, og = some g → g < w.heap.size) (h : RC P w L og x v) :
    ∃ L', RC P w L' og (Vw.demote b x) v ∧ (∀ c q, L' c q → c < w.heap.size) ∧ (∀ c q, some c ≠ og → (L' c q ↔ L c q)) ∧ Ext w L w L' := by
  have same : ∃ L', RC P w L' og x v ∧ (∀ c q, L' c q → c < w.heap.size) ∧ (∀ c q, some c ≠ og → (L' c q ↔ L c q)) ∧ Ext w L w L' := ⟨L, h, hlok, fun _ _ _ => Iff.rfl, fun _ _ h => ⟨h, fun _ hv => hv⟩⟩; cases x with
  | own m e l =>
    cases m with
    | false => exact same
    | true =>
      cases b with
      | true => exact same
      | false =>
        obtain ⟨css, sz, g1, g2, g3, g4, g5⟩ : OwnR P w L og true e l v := h; cases hv : v.ownBlock with
        | none =>
          exact ⟨L, ⟨css, sz, g1, g2, g3, g4, fun g hg => by rw [hv] at hg; cases hg⟩, hlok, fun _ _ _ => Iff.rfl, fun _ _ h => ⟨h, fun _ hv => hv⟩⟩
        | some g =>
          have h5 := g5 g hv; have hext : Ext w L w (more L g (l.length * sz)) := fun _ _ hq => ⟨.inl hq, fun _ hv => hv⟩
          refine ⟨more L g (l.length * sz), ⟨css, sz, g1, RepL.mono hext _ _ g2, g3, g4, fun g' hg' => ?_⟩, fun c q hq => ?_, fun c q hc => ⟨fun hq => ?_, .inl⟩, hext⟩
          · rw [hv] at hg'; obtain rfl : g = g' := by simpa using hg'
            refine ⟨h5.1, fun q => ?_⟩; have := h5.2 q; simp only [Bool.true_eq_false, false_and, iff_false] at this; simp [more, this]
          · rcases hq with hq | ⟨rfl, _⟩
            · exact hlok c q hq
            · exact hog c h5.1
          · rcases hq with hq | ⟨rfl, _⟩
            · exact hq
            · exact absurd h5.1.symm hc
  | undef => exact same
  | d _ => exact same
  | nils => exact same
  | full _ => exact same
  | bor _ _ _ _ => exact same
  | box _ => exact same
  | adr _ _ => exact same
  | eadr _ _ _ => exact same
  | tup _ => exact same
  | iter _ _ => exact same
  | hs _ _ _ => exact same
  | hb _ _ _ => exact same
  | hm _ _ _ _ => exact same
  | mit _ _ _ => exact same
  | sub _ _ => exact same
theorem RC.toRA {og : Option Nat} {x : AV} {v : Value} (h : RC P w L og x v) (O : Nat → Option Nat) (σ : St) (tm : Nat → Value) (d : Nat) : RA P w L O σ tm og (kill d x) v := by
  cases x with
  | bor _ _ _ _ => simp only [RC] at h
  | adr _ _ => simp only [RC] at h
  | eadr _ _ _ => simp only [RC] at h
  | iter _ _ => simp only [RC] at h
  | mit _ _ _ => simp only [RC] at h
  | hm _ _ _ _ => exact h
  | sub _ _ => simp only [RC] at h
  | box _ => exact h
  | hs _ _ _ => exact h
  | hb _ _ _ => exact h
  | undef => exact h
  | d _ => exact h
  | nils => exact h
  | full _ => exact h
  | own _ _ _ => exact h
  | tup _ => exact h
theorem caps_vals {caps : List D} {css : List (List Value)} (h : RepL w L caps css) (hc : ∀ c ∈ caps, c.isAgg = false) (og : Option Nat) : RCs P w L og (caps.map .d) css.flatten := by
  induction caps generalizing css with
  | nil => simp only [RepL] at h; subst h; simp [RCs]
  | cons c cs ih =>
    simp only [RepL] at h; obtain ⟨x, xs, rfl, h1, h2⟩ := h; obtain ⟨u, rfl, hu⟩ := rep_one h1 (hc c (by simp)); simp only [List.map_cons, RCs, List.flatten_cons, List.singleton_append]; refine ⟨u, _, rfl, ?_, ih h2 (fun c hc' => hc c (by simp [hc']))⟩; simp only [RC]; exact RepV.of_cell h1 (hc c (by simp)) hu
theorem RCs.append {og : Option Nat} : ∀ {xs ys : List AV} {us vs : List Value}, RCs P w L og xs us → RCs P w L og ys vs → RCs P w L og (xs ++ ys) (us ++ vs)
  | [], _, _, _, h, k => by simp only [RCs] at h; subst h; simpa using k
  | x :: xs, _, _, _, h, k => by
    simp only [RCs] at h; obtain ⟨v, us, rfl, h1, h2⟩ := h; simp only [List.cons_append, RCs]; exact ⟨v, _, rfl, h1, h2.append k⟩
theorem clo_inv {g : FuncId} {caps : List D} {v : Value} (h : RepV w L (.clo g caps) v) : ∃ css, RepL w L caps css ∧ v = .func (.func g) #[] css.flatten.toArray := by
  have h1 := h.cell rfl; simp only [Rep] at h1; obtain ⟨css, h2, h3⟩ := h1; exact ⟨css, h2, by simpa using h3⟩
section
variable (hd : o.dst = some d) (hlt : d < n) (hsz : a.tmps.size = n) (hdef : a.defers = []) (hR : Rel P w0 L0 row w L O σ (tmOf a))
include hd hlt hsz hdef hR
theorem s_call {f : Operand} {args : Array Operand} {ts : Array TypeId} (ho : o.op = .call { callee := .value f, args, argTypes := ts }) {g : FuncId} {caps : List D} (hf : aval σ f = .d (.clo g caps)) (hc : ∀ c ∈ caps, c.isAgg = false)
    {xa : List AV} (ha : argsA σ args.toList = some xa) (he : (eaten σ args.toList).length ≤ 1) {r : AV} (hfn : Ctr P g (xa ++ caps.map .d) r) (b : Bool) (h : K (put (eat σ (eaten σ args.toList)) d (demote b r))) :
    o.wp P a w (Good P w0 L0 row n K) Q := by
  obtain ⟨css, hcs, hfv⟩ := clo_inv (aval_d hR hf); have hexec : (execOp a.eval o).run P w = .ok (.enter g (args.map a.eval ++ css.flatten.toArray)) w := by
    simp only [execOp, ho, resolve, hfv, Deferred.ofValue, Sem.run_bind, Sem.run_pure, Result.andThen_ok, invoke, Array.empty_append, hfn.1 _ w]
  have hvals : (args.map a.eval ++ css.flatten.toArray) = (args.toList.map a.eval ++ css.flatten).toArray := by
    apply Array.ext'; simp
  unfold Oper.wp; rw [hexec, Oper.upon_enter, hvals]; have eat_ok : ∃ og O1, (∀ j ∈ eaten σ args.toList, (tmOf a j).ownBlock = og) ∧ (∀ g, og = some g → g < w.heap.size ∧ (w0.heap.size ≤ g ∨ row g) ∧ (∀ q, ¬ L g q) ∧ ∀ i, O1 i ≠ some g) ∧
      Rel P w0 L0 row w L O1 (eat σ (eaten σ args.toList)) (tmOf a) := by
    match hE : eaten σ args.toList, he with
    | [], _ => exact ⟨none, O, by simp, by simp, by simpa [eat] using hR⟩
    | [j], _ =>
      have h1 := hR.forget j; refine ⟨(tmOf a j).ownBlock, setv O j none, by simp, fun g hg => ?_, by simpa [eat] using h1⟩; have key : ∀ (xs : List Operand), j ∈ eaten σ xs → ∃ e l, σ j = .own true e l := by
        intro xs
        induction xs with
        | nil => intro h; simp [eaten] at h
        | cons x xs ih =>
          intro h; simp only [eaten] at h; split at h
          · rename_i j' e l hx
            rcases List.mem_cons.1 h with h | h
            · subst h; have := aval_ok hR x; rw [hx] at this; exact ⟨e, l, this.1⟩
            · exact ih h
          · exact ih h
      obtain ⟨e, l, hj⟩ := key args.toList (by rw [hE]; simp); have h2 := hR.slots j; rw [hj] at h2; obtain ⟨css, sz, g1, g2, g3, g4, g5⟩ : OwnR P w L (O j) true e l (tmOf a j) := h2; have h3 := g5 g hg; refine ⟨(hR.olt j g h3.1).1, (hR.olt j g h3.1).2, fun q hq => by have := (h3.2 q).1 hq; simp at this, fun i hi => ?_⟩; simp only [setv] at hi; split at hi
      · cases hi
      · exact absurd (hR.inj i j g hi h3.1) (by assumption)
  obtain ⟨og, O1, hog, hogp, hR1⟩ := eat_ok; refine (hfn.2 w L og _ hR.lok hR.gl (fun g hg => ⟨(hogp g hg).1, (hogp g hg).2.2.1⟩) (RCs.append (args_ok hR og args.toList xa ha hog) (caps_vals hcs hc og))).mono ?_; rintro e w' ⟨v, L', og', rfl, hgr, hlok', hold', hog', hrc⟩
  show Good P w0 L0 row n K (a.put o.dst v) w'
  obtain ⟨L2, hrc2, hlok2, hold2, hext2⟩ := hrc.demote b hlok' (fun g hg => (hog' g hg).1); have hS : Same w L w' L2 (optB og) := by
    have hL : ∀ c q, c < w.heap.size → ¬ optB og c → (L2 c q ↔ L c q) := fun c q hc hne => by
      refine (hold2 c q (fun e => ?_)).trans (hold' c q hc hne); rcases (hog' c e.symm).2 with h1 | h1
      · omega
      · exact hne h1
    refine ⟨fun c q hq => ?_, fun c hc hne => hgr.block c hc hne, hL⟩; have hc := hR.lok c q hq; have hne : ¬ optB og c := fun e => (hogp c e).2.2.1 q hq
    refine ⟨(hL c q hc hne).2 hq, fun u hu => ?_⟩; simp only [World.cell?] at hu ⊢; rw [hgr.block c hc hne]; exact hu
  refine ⟨L2, setv O1 d og', put (eat σ (eaten σ args.toList)) d (Vw.demote b r), ?_, ?_, ?_, h⟩
  · rw [hd, tmOf_put (by omega)]; refine hR1.putOwn d (Vw.demote b r) v og' (optB og) hS (hR.grown.then hgr (fun g hg => (hogp g hg).2.1)) hgr.size hlok2 (fun g hg => (hogp g hg).2.1) (fun i g _ hi e => (hogp g e).2.2.2 i hi) (fun g hg => ?_) (RC.toRA hrc2 _ _ _ _); refine ⟨(hog' g hg).1, ?_, fun i _ hi => ?_⟩
    · rcases (hog' g hg).2 with h1 | h1
      · exact .inl (Nat.le_trans hR.grown.size h1)
      · exact (hogp g h1).2.1
    · rcases (hog' g hg).2 with h1 | h1
      · have := (hR1.olt i g hi).1; omega
      · exact (hogp g h1).2.2.2 i hi
  · rw [hd]; simpa [Act.put] using hdef
  · rw [hd]; simpa [Act.put] using hsz
end
theorem bnd_inv {g : FuncId} {first : List D} {v : Value} (h : RepV w L (.bnd g first) v) : ∃ vs : List Value, RCs P w L none (first.map .d) vs ∧ v = .func (.func g) vs.toArray #[] := by
  have h1 := h.cell rfl; simp only [Rep] at h1; obtain ⟨vs, h2, h3, h4⟩ := h1; refine ⟨vs, ?_, by simpa using h4⟩; clear h4 h
  induction first generalizing vs with
  | nil =>
    simp only [RepL] at h2; obtain rfl : vs = [] := by simpa using h2
    simp [RCs]
  | cons d ds ih =>
    simp only [RepL] at h2; obtain ⟨c, cs, e, h5, h6⟩ := h2; cases vs with
    | nil => simp at e
    | cons u us =>
      simp only [List.map_cons, List.cons.injEq] at e h3; obtain ⟨rfl, rfl⟩ := e; simp only [List.map_cons, RCs]; exact ⟨u, us, rfl, ⟨h5, h3.1⟩, ih us h6 h3.2⟩
section
variable (hd : o.dst = some d) (hlt : d < n) (hsz : a.tmps.size = n) (hdef : a.defers = []) (hR : Rel P w0 L0 row w L O σ (tmOf a))
include hd hlt hsz hdef hR
theorem s_callBnd {f : Operand} {args : Array Operand} {ts : Array TypeId} (ho : o.op = .call { callee := .value f, args, argTypes := ts }) {g : FuncId} {first : List D} (hf : aval σ f = .d (.bnd g first))
    {xa : List AV} (ha : argsA σ args.toList = some xa) (he : eaten σ args.toList = []) {r : AV} (hfn : Ctr P g (first.map .d ++ xa) r) (b : Bool) (h : K (put σ d (demote b r))) :
    o.wp P a w (Good P w0 L0 row n K) Q := by
  obtain ⟨vs, hvs, hfv⟩ := bnd_inv (P := P) (aval_d hR hf); have hexec : (execOp a.eval o).run P w = .ok (.enter g (vs.toArray ++ args.map a.eval)) w := by
    simp only [execOp, ho, resolve, hfv, Deferred.ofValue, Sem.run_bind, Sem.run_pure, Result.andThen_ok, invoke, Array.append_empty, hfn.1 _ w]
  have hvals : (vs.toArray ++ args.map a.eval) = (vs ++ args.toList.map a.eval).toArray := by
    apply Array.ext'; simp
  unfold Oper.wp; rw [hexec, Oper.upon_enter, hvals]; refine (hfn.2 w L none _ hR.lok hR.gl (by simp) (RCs.append hvs (args_ok hR none args.toList xa ha (by rw [he]; simp)))).mono ?_; rintro e w' ⟨v, L', og', rfl, hgr, hlok', hold', hog', hrc⟩
  show Good P w0 L0 row n K (a.put o.dst v) w'
  obtain ⟨L2, hrc2, hlok2, hold2, hext2⟩ := hrc.demote b hlok' (fun g hg => (hog' g hg).1); have hS : Same w L w' L2 (optB none) := by
    have hL : ∀ c q, c < w.heap.size → ¬ optB none c → (L2 c q ↔ L c q) := fun c q hc hne => by
      refine (hold2 c q (fun e => ?_)).trans (hold' c q hc hne); rcases (hog' c e.symm).2 with h1 | h1
      · omega
      · cases h1
    refine ⟨fun c q hq => ?_, fun c hc hne => hgr.block c hc hne, hL⟩; have hc := hR.lok c q hq; have hne : ¬ optB none c := fun e => by simp [optB] at e
    refine ⟨(hL c q hc hne).2 hq, fun u hu => ?_⟩; simp only [World.cell?] at hu ⊢; rw [hgr.block c hc hne]; exact hu
  refine ⟨L2, setv O d og', put σ d (Vw.demote b r), ?_, ?_, ?_, h⟩
  · rw [hd, tmOf_put (by omega)]; refine hR.putOwn d (Vw.demote b r) v og' (optB none) hS (hR.grown.then hgr (fun g hg => by simp [optB] at hg)) hgr.size hlok2 (fun g hg => by simp [optB] at hg) (fun i g _ hi e => by simp [optB] at e) (fun g hg => ?_) (RC.toRA hrc2 _ _ _ _); refine ⟨(hog' g hg).1, ?_, fun i _ hi => ?_⟩
    · rcases (hog' g hg).2 with h1 | h1
      · exact .inl (Nat.le_trans hR.grown.size h1)
      · cases h1
    · rcases (hog' g hg).2 with h1 | h1
      · have := (hR.olt i g hi).1; omega
      · cases h1
  · rw [hd]; simpa [Act.put] using hdef
  · rw [hd]; simpa [Act.put] using hsz
end
end Go.Vw
namespace Go.Vw
open Go.RowKit Go.Proofs
variable {P : Program} {w0 : World} {L0 : Nat → Nat → Prop} {row : Nat → Prop} {n : Nat} {K : St → Prop} {Q : Exit → Act → World → Prop}
  {w w' : World} {L L' : Nat → Nat → Prop} {O O' : Nat → Option Nat} {σ σ' : St} {a : Act} {o : Oper} {d : Nat} {v : Value} {tm : Nat → Value}
theorem zeroCells_flat (z : Array Value) (k : Nat) : (Builtin.zeroCells z k).toList = (List.replicate k z.toList).flatten := by
  have h : ∀ k, (List.range (k * z.size)).map (fun i => z[i % z.size]!) = (List.replicate k z.toList).flatten := by
    intro k
    induction k with
    | zero => simp
    | succ k ih =>
      rw [Nat.succ_mul, List.range_add, List.map_append, ih, List.replicate_succ', List.flatten_append]; congr 1
      simp only [List.map_map, List.flatten_cons, List.flatten_nil, List.append_nil]; apply List.ext_getElem
      · simp
      · intro i h1 h2; simp only [List.length_map, List.length_range] at h1; have e : (k * z.size + i) % z.size = i := by rw [Nat.add_comm, Nat.add_mul_mod_self_right, Nat.mod_eq_of_lt h1]
        simp only [List.getElem_map, List.getElem_range, Function.comp_apply, e, Array.getElem_toList]; exact getElem!_pos z i h1
  simp only [Builtin.zeroCells, Array.toList_map, Array.toList_range]; exact h k
theorem OwnR.cut {og : Option Nat} {e : TypeId} {l : List D} {A : Option Addr} {k cap hi m : Nat} (h : OwnR P w L og true e l (.slice A k cap)) (h1 : hi ≤ l.length) (h2 : hi ≤ m) (h3 : m ≤ cap) : OwnR P w L og true e (l.take hi) (.slice A hi m) := by
  obtain ⟨css, sz, g1, g2, g3, g4, g5⟩ := h; have hlen : (l.take hi).length = hi := by simp; omega
  have hfl : (css.take hi).flatten.length = hi * sz := by
    rw [flatten_sized (fun c hc => g3 c (List.mem_of_mem_take hc)), List.length_take, g2.count, Nat.min_eq_left h1]
  refine ⟨css.take hi, sz, g1, g2.take hi, fun c hc => g3 c (List.mem_of_mem_take hc), ⟨by rw [hlen, hfl], ?_⟩, fun g hg => ?_⟩
  · rw [hlen]; rcases g4.2 with ⟨hv, hn⟩ | ⟨g, cp, cur, hv, hh, hnc, hcm, hcs, htk⟩
    · simp only [Value.slice.injEq] at hv; obtain ⟨rfl, rfl, rfl⟩ := hv; obtain rfl : m = 0 := by omega
      obtain rfl : hi = 0 := by omega
      exact .inl ⟨rfl, rfl⟩
    · simp only [Value.slice.injEq] at hv; obtain ⟨rfl, rfl, rfl⟩ := hv; refine .inr ⟨g, m, cur, rfl, hh, h2, by omega, Nat.le_trans (Nat.mul_le_mul_right _ h3) hcs, ?_⟩; have e1 : cur.toList.take (hi * sz) = (cur.toList.take (l.length * sz)).take (hi * sz) := by
        rw [List.take_take, Nat.min_eq_left (Nat.mul_le_mul_right _ h1)]
      rw [e1, htk]; have e2 : css.flatten = (css.take hi).flatten ++ (css.drop hi).flatten := by rw [← List.flatten_append, List.take_append_drop]
      rw [e2, ← hfl, List.take_left]
  · have := g5 g (by cases A <;> simp [Value.ownBlock] at hg ⊢; exact hg); exact ⟨this.1, fun q => by simpa using this.2 q⟩
theorem OwnR.shape2 {og : Option Nat} {m : Bool} {e : TypeId} {l : List D} {v : Value} (h : OwnR P w L og m e l v) : ∃ A c, v = .slice A l.length c ∧ l.length ≤ c ∧ ∀ (k s : Nat), (if k = 0 then A else A.map (·.add (0 * s))) = A := by
  obtain ⟨css, sz, h1, h2, h3, h4, h5⟩ := h; rcases h4.2 with ⟨hv, hn⟩ | ⟨g, cap, cur, hv, _, hc, _⟩
  · exact ⟨none, 0, by rw [hv, hn], by omega, by simp⟩
  · exact ⟨_, _, hv, hc, fun k s => by simp [Addr.add_lit]⟩
section
variable (hd : o.dst = some d) (hlt : d < n) (hsz : a.tmps.size = n) (hdef : a.defers = []) (hR : Rel P w0 L0 row w L O σ (tmOf a))
include hd hlt hsz hdef hR
theorem s_cut {t e e' sz : Nat} {x hi : Operand} (ho : o.op = .slice t x none (some hi) none) (ht : P.underlying t = some (.slice e)) (hz : szOf P e = some sz) {j : Nat} {l : List D} (hx : aval σ x = .bor j true e' l) (he : ety e' = e) {i : Nat}
    (hi' : bnd σ (some hi) 0 = some i) (h1 : i ≤ l.length) (h : K (put (put σ j .undef) d (.own true e' (l.take i)))) : o.wp P a w (Good P w0 L0 row n K) Q := by
  subst he; have h2 := aval_ok hR x; rw [hx] at h2; obtain ⟨h2, h3⟩ := h2; have h4 := hR.slots j; rw [h2] at h4; have h4' : OwnR P w L (O j) true e' l (tmOf a j) := h4; obtain ⟨A, c, hv, hcap, hA⟩ := h4'.shape2; rw [hv] at h4'; have own := h4'.cut h1 (Nat.le_trans h1 hcap) (Nat.le_refl c); refine val_step hd hlt hsz hdef (v := .slice A i c) ?_ (hR.move j d .undef (.own true e' (l.take i)) (.slice A i c) (by simp [RA, RC]) own rfl (fun _ _ _ _ h => h)) h; have e1 : (Instr.sliceBounds true l.length c none ((some hi).map a.eval) none).run P w = .ok (0, i, c) w := by
    rcases bnd_ok hR hi' with ⟨hc, _⟩ | ⟨y, k, hy, hz⟩
    · cases hc
    · simp only [Option.some.injEq] at hy; subst hy; have hi2 : (0 : Int) ≤ i ∧ (i : Int) ≤ (c : Int) := (by omega); simp [Instr.sliceBounds, Instr.sliceBound, asIntOf, hz, hi2]; intro hh; omega
  simp only [execOp, ho, h3, hv, Instr.sliceAt, Instr.slice, Sem.run_bind, run_underlying ht, Result.andThen_ok, Option.map_none, e1, Sem.run_pure, run_sizeOf_szOf hz, hA, Nat.sub_zero]
theorem s_cutRaw {t e e' sz : Nat} {x hi mx : Operand} (ho : o.op = .slice t x none (some hi) (some mx)) (ht : P.underlying t = some (.slice e)) (hz : szOf P e = some sz) {j : Nat} {u : Value} {l : List D} (hx : aval σ x = .d (.raw u)) (hj : σ j = .hs u e' l) (he : ety e' = e)
    {i : Nat} (hi' : bnd σ (some hi) 0 = some i) (hm' : bnd σ (some mx) 0 = some i) (h1 : i ≤ l.length) (h : K (put (put σ j .undef) d (.own true e' (l.take i)))) : o.wp P a w (Good P w0 L0 row n K) Q := by
  subst he; have h3 : a.eval x = u := (aval_d hR hx).raw_inv; have h4 := hR.slots j; rw [hj] at h4; have h4' : OwnR P w L (O j) true e' l u := h4; obtain ⟨A, c, hv, hcap, hA⟩ := h4'.shape2; subst hv; have own := h4'.cut h1 (Nat.le_refl i) (Nat.le_trans h1 hcap); refine val_step hd hlt hsz hdef (v := .slice A i i) ?_ (hR.move j d .undef (.own true e' (l.take i)) (.slice A i i) (by simp [RA, RC]) own rfl (fun _ _ _ _ h => h)) h; have e1 : (Instr.sliceBounds true l.length c none ((some hi).map a.eval) ((some mx).map a.eval)).run P w = .ok (0, i, i) w := by
    rcases bnd_ok hR hi' with ⟨hc, _⟩ | ⟨y, k, hy, hz⟩
    · cases hc
    · rcases bnd_ok hR hm' with ⟨hc, _⟩ | ⟨y2, k2, hy2, hz2⟩
      · cases hc
      · simp only [Option.some.injEq] at hy hy2; subst hy; subst hy2; have hi2 : (0 : Int) ≤ i ∧ (i : Int) ≤ (c : Int) := (by omega); simp [Instr.sliceBounds, Instr.sliceBound, asIntOf, hz, hz2, hi2]
  simp only [execOp, ho, h3, Instr.sliceAt, Instr.slice, Sem.run_bind, run_underlying ht, Result.andThen_ok, Option.map_none, e1, Sem.run_pure, run_sizeOf_szOf hz, hA, Nat.sub_zero]
omit hd hlt hsz hdef in
theorem clear_core {t e e' ty : Nat} {x : Operand} (ht : P.underlying t = some (.slice e)) {j lo : Nat} {l : List D} (hx : aval σ x = .sub j lo) (hj : σ j = .own true e' l) (he : ety e' = e)
    {z : D} (hz : zeroD P e = some z) (hw : szOf P e = some (width z)) :
    ∃ w' O', (Builtin.clear_ #[t] ty #[a.eval x]).run P w = .ok (.tuple #[]) w' ∧ Rel P w0 L0 row w' L O' (put σ j (.own true e' (l.take lo ++ List.replicate (l.length - lo) z))) (tmOf a) := by
  subst he; have h1 := aval_ok hR x; rw [hx] at h1; obtain ⟨e2, l2, sz, h2, h3, h4, h5⟩ := h1; rw [hj] at h2; simp only [ownOf, Option.some.injEq, Prod.mk.injEq] at h2; obtain ⟨rfl, rfl⟩ := h2; have hval : valOf (σ j) (tmOf a j) = tmOf a j := by rw [hj]; rfl
  rw [hval] at h5; have h6 := hR.slots j; rw [hj] at h6; obtain ⟨css, sz', g1, g2, g3, g4, g5⟩ : OwnR P w L (O j) true e' l (tmOf a j) := h6; obtain rfl : sz = sz' := by rw [h3] at g1; simpa using g1
  obtain rfl : sz = width z := by
    have : szOf P (ety e') = some sz := h3; rw [this] at hw; simpa using hw
  obtain ⟨zv, hzv, hzr, _⟩ := zeroD_ok hz w L; have zl : zv.cells.toList.length = width z := Rep.len _ _ hzr.1; have key : ∃ w', (Builtin.clear_ #[t] ty #[a.eval x]).run P w = .ok (.tuple #[]) w' ∧ OwnR P w' L (O j) true e' (l.take lo ++ List.replicate (l.length - lo) z) (tmOf a j) ∧ Same w L w' L (optB (O j)) ∧ GrownS w w' (optB (O j)) ∧ w'.heap.size = w.heap.size := by
    have same0 : lo = l.length → OwnR P w L (O j) true e' (l.take lo ++ List.replicate (l.length - lo) z) (tmOf a j) := by
      rintro rfl; simp only [List.take_length, Nat.sub_self, List.replicate_zero, List.append_nil]; exact ⟨css, _, g1, g2, g3, g4, g5⟩
    rcases h5 with ⟨h5, h6⟩ | ⟨g, c, A, h5, h6, h7⟩
    · rw [h6]; have hl0 : l.length = 0 := by
        rcases g4.2 with ⟨_, hn⟩ | ⟨g, cp, cur, hv, _⟩
        · exact hn
        · rw [h5] at hv; cases hv
      exact ⟨w, by simp [Builtin.clear_, run_underlying ht], same0 (by omega), Same.refl _ _ _, GrownS.refl _ _, rfl⟩
    · rw [h6]; by_cases hlo : lo = l.length
      · refine ⟨w, ?_, same0 hlo, Same.refl _ _ _, GrownS.refl _ _, rfl⟩; subst hlo; simp [Builtin.clear_, run_underlying ht]
      · obtain rfl := h7 (by omega); have hO := g5 g (by rw [h5]; rfl); rcases g4.2 with ⟨hv, hn⟩ | ⟨g', cp, cur, hv, hh, hnc, hcm, hcs, htk⟩
        · omega
        · rw [h5] at hv; simp only [Value.slice.injEq, Option.some.injEq, Addr.mk.injEq, and_true, true_and] at hv; obtain ⟨rfl, rfl⟩ := hv; have hzc : (Builtin.zeroCells zv.cells (l.length - lo)).toList = (List.replicate (l.length - lo) zv.cells.toList).flatten := by
            exact zeroCells_flat _ _
          have hzl : (Builtin.zeroCells zv.cells (l.length - lo)).toList.length = (l.length - lo) * width z := by
            rw [hzc, flatten_sized (sz := width z) (fun c hc => by rw [(List.mem_replicate.1 hc).2]; exact zl), List.length_replicate]
          have hmul : lo * width z + (l.length - lo) * width z = l.length * width z := by rw [← Nat.add_mul]; congr 1; omega
          have hle : l.length * width z ≤ cur.size := Nat.le_trans (Nat.mul_le_mul_right _ hnc) hcs; obtain ⟨w', C', f1, f2, f3, f4, f5⟩ := run_storeCells (P := P) (off := lo * width z) (Builtin.zeroCells zv.cells (l.length - lo)).toList 0 w cur hh (by unfold mk; split <;> simp) (by rw [hzl]; omega) (by
            rw [hzc]; intro u hu; obtain ⟨c', hc', hu⟩ := List.mem_flatten.1 hu; rw [(List.mem_replicate.1 hc').2] at hu; exact Rep.one _ _ hzr.1 u hu)
          have hLg : ∀ q, ¬ L g q := fun q hq => by have := (hO.2 q).1 hq; simp at this
          have hS : Same w L w' L (optB (O j)) := by rw [hO.1]; exact Same.write f4 hLg hR.lok
          refine ⟨w', ?_, ?_, hS, by rw [hO.1]; exact .of f4 (run_drawn _ f1), f5⟩
          · have hn0 : ∃ k, l.length - lo = k + 1 := ⟨l.length - lo - 1, by omega⟩; obtain ⟨k, hk⟩ := hn0; rw [hk] at f1 ⊢; simp [Builtin.clear_, run_underlying ht, hzv, f1]
          · have hsplit : css.flatten = (css.take lo).flatten ++ (css.drop lo).flatten := by rw [← List.flatten_append, List.take_append_drop]
            have htl : (css.take lo).flatten.length = lo * width z := by
              rw [flatten_sized (fun c hc => g3 c (List.mem_of_mem_take hc)), List.length_take, g2.count, Nat.min_eq_left h4]
            have hnl : (l.take lo ++ List.replicate (l.length - lo) z).length = l.length := by simp; omega
            have hrz : ∀ k, RepL w' L (List.replicate k z) (List.replicate k zv.cells.toList) := by
              intro k
              induction k with
              | zero => simp [RepL]
              | succ k ih => simp only [List.replicate_succ, RepL]; exact ⟨_, _, rfl, Rep.mono hS.ext _ _ hzr.1, ih⟩
            refine ⟨css.take lo ++ List.replicate (l.length - lo) zv.cells.toList, width z, g1, (RepL.mono hS.ext _ _ (g2.take lo)).append (hrz _), fun c' hc' => ?_, ⟨?_, .inr ⟨g, c, C', ?_, ?_, by rw [hnl]; exact hnc, hcm, ?_, ?_⟩⟩, fun q hq => ?_⟩
            · rcases List.mem_append.1 hc' with hc' | hc'
              · exact g3 c' (List.mem_of_mem_take hc')
              · rw [(List.mem_replicate.1 hc').2]; exact zl
            · rw [hnl, List.flatten_append, List.length_append, htl, ← hzc, hzl, hmul]
            · rw [hnl]; exact h5
            · have : C'.size = cur.size := by
                rw [← Array.length_toList, f3]; simp only [List.length_append, List.length_take, List.length_drop, Array.length_toList, hzl]; omega
              rw [this]; exact f2
            · have : C'.size = cur.size := by
                rw [← Array.length_toList, f3]; simp only [List.length_append, List.length_take, List.length_drop, Array.length_toList, hzl]; omega
              rw [this]; exact hcs
            · rw [hnl, f3, List.flatten_append, ← hzc, Nat.add_zero]; have e1 : cur.toList.take (lo * width z) = (css.take lo).flatten := by
                have : cur.toList.take (lo * width z) = (cur.toList.take (l.length * width z)).take (lo * width z) := by rw [List.take_take, Nat.min_eq_left (by omega)]
                rw [this, htk, hsplit, ← htl, List.take_left]
              rw [e1]; have e2 : ((css.take lo).flatten ++ (Builtin.zeroCells zv.cells (l.length - lo)).toList).length = l.length * width z := by rw [List.length_append, htl, hzl, hmul]
              rw [← e2, List.take_left]
            · have := g5 q hq; exact ⟨this.1, fun p => by simpa using this.2 p⟩
  obtain ⟨w', hrun, hown, hS, hG, hsz'⟩ := key; have hj1 := hR.putOwn j (.own true e' (l.take lo ++ List.replicate (l.length - lo) z)) (tmOf a j) (O j) (optB (O j)) hS (hR.grown.then hG (fun g hg => (hR.olt j g hg).2)) (by omega) (fun b q hq => by rw [hsz']; exact hR.lok b q hq)
    (fun g hg => (hR.olt j g hg).2) (fun i g hi hO e => hi (hR.inj i j g hO e)) (fun g hg => ⟨by rw [hsz']; exact (hR.olt j g hg).1, (hR.olt j g hg).2, fun i hi e => hi (hR.inj i j g e hg)⟩) hown
  rw [setv_same] at hj1; exact ⟨w', _, hrun, hj1⟩
theorem s_clear {t e e' : Nat} {x : Operand} (ho : o.op = .call { callee := .builtin .clear, args := #[x], argTypes := #[t] }) (ht : P.underlying t = some (.slice e)) {j lo : Nat} {l : List D} (hx : aval σ x = .sub j lo) (hj : σ j = .own true e' l) (he : ety e' = e)
    {z : D} (hz : zeroD P e = some z) (hw : szOf P e = some (width z)) (h : K (put (put σ j (.own true e' (l.take lo ++ List.replicate (l.length - lo) z))) d (.tup []))) : o.wp P a w (Good P w0 L0 row n K) Q := by
  obtain ⟨w', O', hrun, hj1⟩ := clear_core (ty := o.type) hR ht hx hj he hz hw; refine val_step hd hlt hsz hdef (v := .tuple #[]) (w' := w') ?_ (hj1.putPure d (.tup []) _ ⟨[], rfl, rfl⟩) h; simp only [execOp, ho, resolve, invoke, builtin, Sem.run_bind, Sem.run_pure, Result.andThen_ok, List.map_toArray, List.map_cons, List.map_nil, hrun]
omit hd hlt in
theorem s_clearN (hd : o.dst = none) {t e e' : Nat} {x : Operand} (ho : o.op = .call { callee := .builtin .clear, args := #[x], argTypes := #[t] }) (ht : P.underlying t = some (.slice e)) {j lo : Nat} {l : List D} (hx : aval σ x = .sub j lo) (hj : σ j = .own true e' l) (he : ety e' = e)
    {z : D} (hz : zeroD P e = some z) (hw : szOf P e = some (width z)) (h : K (put σ j (.own true e' (l.take lo ++ List.replicate (l.length - lo) z)))) : o.wp P a w (Good P w0 L0 row n K) Q := by
  obtain ⟨w', O', hrun, hj1⟩ := clear_core (ty := o.type) hR ht hx hj he hz hw; unfold Oper.wp; have : (execOp a.eval o).run P w = .ok (.value (.tuple #[])) w' := by
    simp only [execOp, ho, resolve, invoke, builtin, Sem.run_bind, Sem.run_pure, Result.andThen_ok, List.map_toArray, List.map_cons, List.map_nil, hrun]
  rw [this]; simp only [Oper.upon, hd, Act.put]; exact ⟨L, O', _, hj1, hdef, hsz, h⟩
end
theorem OwnR.self {og : Option Nat} {m : Bool} {e : TypeId} {l : List D} {v : Value} (h : OwnR P w L og m e l v) : OwnR P w L v.ownBlock m e l v := by
  obtain ⟨css, sz, h1, h2, h3, h4, h5⟩ := h; exact ⟨css, sz, h1, h2, h3, h4, fun g hg => ⟨hg, (h5 g hg).2⟩⟩
theorem OwnR.lift {og og' : Option Nat} {m : Bool} {e : TypeId} {l : List D} {v : Value} (h : OwnR P w L og m e l v) (hg : ∀ g, v.ownBlock = some g → og' = some g) : OwnR P w L og' m e l v := by
  obtain ⟨css, sz, h1, h2, h3, h4, h5⟩ := h; exact ⟨css, sz, h1, h2, h3, h4, fun g hv => ⟨hg g hv, (h5 g hv).2⟩⟩
theorem OwnR.blk {og : Option Nat} {e : TypeId} {l : List D} {v : Value} (h : OwnR P w L og true e l v) {g : Nat} (hg : v.ownBlock = some g) : og = some g ∧ ∀ q, ¬ L g q := by
  obtain ⟨css, sz, h1, h2, h3, h4, h5⟩ := h; exact ⟨(h5 g hg).1, fun q hq => by have := ((h5 g hg).2 q).1 hq; simp at this⟩
def CtrI (P : Program) (f : FuncId) (e : TypeId) (l : List D) (rest : List AV) (l' : List D) : Prop :=
  Enters P f ∧ ∀ (w : World) (L : Nat → Nat → Prop) (og : Option Nat) (v : Value) (vals : List Value), (∀ b q, L b q → b < w.heap.size) → GL P w L → OwnR P w L og true e l v → RCs P w L none rest vals →
    Calls P f (v :: vals).toArray w fun x w' => ∃ L', x = .returned (.tuple #[]) ∧ GrownS w w' (optB og) ∧ (∀ b q, L' b q → b < w'.heap.size) ∧ (∀ b q, b < w.heap.size → ¬ optB og b → (L' b q ↔ L b q)) ∧ OwnR P w' L' og true e l' v
def flatD : D → Bool
  | .bool _ => true
  | .int _ _ => true
  | .str _ => true
  | .nilp => true
  | .raw _ => true
  | _ => false
theorem flat_rep {d : D} (hf : flatD d = true) {v : Value} (h : RepV w L d v) : RepV w' L' d v := by
  refine ⟨?_, h.2⟩; have := h.1; cases d <;> simp [flatD] at hf <;> simpa only [Rep] using this
def lendA (σ : St) (x : Operand) : Option AV :=
  match aval σ x with
  | .bor _ true _ l => some (.d (.sl l))
  | y => (asD y).map .d
def lendsA (σ : St) : List Operand → Option (List AV)
  | [] => some []
  | x :: xs => match lendA σ x, lendsA σ xs with
    | some y, some ys => some (y :: ys)
    | _, _ => none
def plainA (σ : St) : List Operand → Option (List AV)
  | [] => some []
  | x :: xs => match asD (aval σ x), plainA σ xs with
    | some y, some ys => some (.d y :: ys)
    | _, _ => none
theorem plain_ok (hR : Rel P w0 L0 row w L O σ (tmOf a)) : ∀ (xs : List Operand) (xa : List AV), plainA σ xs = some xa → RCs P w L none xa (xs.map a.eval)
  | [], xa, h => by simp only [plainA, Option.some.injEq] at h; subst h; simp [RCs]
  | x :: xs, xa, h => by
    simp only [plainA] at h; split at h
    · rename_i y ys hy hys
      simp only [Option.some.injEq] at h; subst h; simp only [List.map_cons, RCs]; exact ⟨_, _, rfl, by simpa only [RC] using aval_asD hR hy, plain_ok hR xs ys hys⟩
    · cases h
def rawA (σ : St) (x : Operand) : Option AV := match x with
  | .const (.slice none 0 0) => some (.d (.raw (.slice none 0 0)))
  | x => match asD (aval σ x) with
    | some y => some (.d y)
    | none => none
def rawsA (σ : St) : List Operand → Option (List AV)
  | [] => some []
  | x :: xs => match rawA σ x, rawsA σ xs with
    | some y, some ys => some (y :: ys)
    | _, _ => none
theorem raws_ok (hR : Rel P w0 L0 row w L O σ (tmOf a)) : ∀ (xs : List Operand) (xa : List AV), rawsA σ xs = some xa → RCs P w L none xa (xs.map a.eval)
  | [], xa, h => by simp only [rawsA, Option.some.injEq] at h; subst h; simp [RCs]
  | x :: xs, xa, h => by
    simp only [rawsA] at h; split at h
    · rename_i y ys hy hys
      simp only [Option.some.injEq] at h; subst h; simp only [List.map_cons, RCs]; refine ⟨_, _, rfl, ?_, raws_ok hR xs ys hys⟩; unfold rawA at hy; split at hy
      · simp only [Option.some.injEq] at hy; subst hy
        show RepV w L (.raw (.slice none 0 0)) (.slice none 0 0)
        exact RepV.raw rfl rfl
      · split at hy
        · rename_i y' hy'
          simp only [Option.some.injEq] at hy; subst hy; simpa only [RC] using aval_asD hR hy'
        · cases hy
    · cases h
section
variable (hd : o.dst = some d) (hlt : d < n) (hsz : a.tmps.size = n) (hdef : a.defers = []) (hR : Rel P w0 L0 row w L O σ (tmOf a))
include hd hlt hsz hdef hR
theorem s_callRaw {f : Operand} {args : Array Operand} {ts : Array TypeId} (ho : o.op = .call { callee := .value f, args, argTypes := ts }) {g : FuncId} {caps : List D} (hf : aval σ f = .d (.clo g caps)) (hc : ∀ c ∈ caps, c.isAgg = false)
    {xa : List AV} (ha : rawsA σ args.toList = some xa) {r : AV} (hfn : Ctr P g (xa ++ caps.map .d) r) (b : Bool) (h : K (put σ d (demote b r))) :
    o.wp P a w (Good P w0 L0 row n K) Q := by
  obtain ⟨css, hcs, hfv⟩ := clo_inv (aval_d hR hf); have hexec : (execOp a.eval o).run P w = .ok (.enter g (args.map a.eval ++ css.flatten.toArray)) w := by
    simp only [execOp, ho, resolve, hfv, Deferred.ofValue, Sem.run_bind, Sem.run_pure, Result.andThen_ok, invoke, Array.empty_append, hfn.1 _ w]
  have hvals : (args.map a.eval ++ css.flatten.toArray) = (args.toList.map a.eval ++ css.flatten).toArray := by
    apply Array.ext'; simp
  unfold Oper.wp; rw [hexec, Oper.upon_enter, hvals]; refine (hfn.2 w L none _ hR.lok hR.gl (by simp) (RCs.append (raws_ok hR args.toList xa ha) (caps_vals hcs hc none))).mono ?_; rintro e w' ⟨v, L', og', rfl, hgr, hlok', hold', hog', hrc⟩
  show Good P w0 L0 row n K (a.put o.dst v) w'
  obtain ⟨L2, hrc2, hlok2, hold2, hext2⟩ := hrc.demote b hlok' (fun g hg => (hog' g hg).1); have hS : Same w L w' L2 (optB none) := by
    have hL : ∀ c q, c < w.heap.size → ¬ optB none c → (L2 c q ↔ L c q) := fun c q hc hne => by
      refine (hold2 c q (fun e => ?_)).trans (hold' c q hc hne); rcases (hog' c e.symm).2 with h1 | h1
      · omega
      · cases h1
    refine ⟨fun c q hq => ?_, fun c hc hne => hgr.block c hc hne, hL⟩; have hc := hR.lok c q hq; have hne : ¬ optB none c := fun e => by simp [optB] at e
    refine ⟨(hL c q hc hne).2 hq, fun u hu => ?_⟩; simp only [World.cell?] at hu ⊢; rw [hgr.block c hc hne]; exact hu
  refine ⟨L2, setv O d og', put σ d (Vw.demote b r), ?_, ?_, ?_, h⟩
  · rw [hd, tmOf_put (by omega)]; refine hR.putOwn d (Vw.demote b r) v og' (optB none) hS (hR.grown.then hgr (fun g hg => by simp [optB] at hg)) hgr.size hlok2 (fun g hg => by simp [optB] at hg) (fun i g _ hi e => by simp [optB] at e) (fun g hg => ?_) (RC.toRA hrc2 _ _ _ _); refine ⟨(hog' g hg).1, ?_, fun i _ hi => ?_⟩
    · rcases (hog' g hg).2 with h1 | h1
      · exact .inl (Nat.le_trans hR.grown.size h1)
      · cases h1
    · rcases (hog' g hg).2 with h1 | h1
      · have := (hR.olt i g hi).1; omega
      · cases h1
  · rw [hd]; simpa [Act.put] using hdef
  · rw [hd]; simpa [Act.put] using hsz
end
def Ctr2 (P : Program) (f : FuncId) (e : TypeId) (l : List D) (mid : List AV) (e2 : TypeId) (l2 : List D) (r : AV) : Prop :=
  Enters P f ∧ ∀ (w : World) (L : Nat → Nat → Prop) (og og2 : Option Nat) (v v2 : Value) (vals : List Value), (∀ b q, L b q → b < w.heap.size) → GL P w L → OwnR P w L og true e l v → OwnR P w L og2 true e2 l2 v2 → v.ownBlock = og → v2.ownBlock = og2 →
    (∀ g, og = some g → og2 ≠ some g) → (∀ g, some g = og ∨ some g = og2 → g < w.heap.size) → RCs P w L none mid vals →
    Calls P f (v :: (vals ++ [v2])).toArray w fun x w' => ∃ v' L' og', x = .returned v' ∧ GrownS w w' (fun b => some b = og ∨ some b = og2) ∧ (∀ b q, L' b q → b < w'.heap.size) ∧ (∀ b q, b < w.heap.size → ¬ (some b = og ∨ some b = og2) → (L' b q ↔ L b q)) ∧
      (∀ g, og' = some g → g < w'.heap.size ∧ (w.heap.size ≤ g ∨ some g = og ∨ some g = og2)) ∧ RC P w' L' og' r v'
section
variable (hd : o.dst = some d) (hlt : d < n) (hsz : a.tmps.size = n) (hdef : a.defers = []) (hR : Rel P w0 L0 row w L O σ (tmOf a))
include hd hlt hsz hdef hR
theorem s_call2 {f x z : Operand} {ys : List Operand} {args : Array Operand} {ts : Array TypeId} (ho : o.op = .call { callee := .value f, args, argTypes := ts }) (hargs : args.toList = x :: (ys ++ [z])) {g : FuncId} (hf : aval σ f = .d (.clo g []))
    {j j2 : Nat} {e e2 : TypeId} {l l2 : List D} (hx : aval σ x = .bor j true e l) (hz : aval σ z = .bor j2 true e2 l2) (hjj : j ≠ j2)
    {xa : List AV} (ha : plainA σ ys = some xa) {r : AV} (hfn : Ctr2 P g e l xa e2 l2 r) (b : Bool) (h : K (put (put (put σ j .undef) j2 .undef) d (demote b r))) :
    o.wp P a w (Good P w0 L0 row n K) Q := by
  obtain ⟨css, hcs, hfv⟩ := clo_inv (aval_d hR hf); simp only [RepL] at hcs; subst hcs; have hvals : args.map a.eval = (a.eval x :: (ys.map a.eval ++ [a.eval z])).toArray := by
    apply Array.ext'; simp [hargs]
  have hexec : (execOp a.eval o).run P w = .ok (.enter g (args.map a.eval)) w := by
    simp only [execOp, ho, resolve, hfv, Deferred.ofValue, Sem.run_bind, Sem.run_pure, Result.andThen_ok, invoke, Array.empty_append, hfn.1 _ w, List.flatten_nil, Array.append_empty]
  have h1 := aval_ok hR x; rw [hx] at h1; obtain ⟨h1, h2⟩ := h1; have h3 := aval_ok hR z; rw [hz] at h3; obtain ⟨h3, h4⟩ := h3; have s1 := hR.slots j; rw [h1] at s1; obtain ⟨cs1, z1, p1, p2, p3, p4, p5⟩ : OwnR P w L (O j) true e l (tmOf a j) := s1; have s2 := hR.slots j2; rw [h3] at s2; obtain ⟨cs2, z2, q1, q2, q3, q4, q5⟩ : OwnR P w L (O j2) true e2 l2 (tmOf a j2) := s2; generalize hog : (tmOf a j).ownBlock = og at *; generalize hog2 : (tmOf a j2).ownBlock = og2 at *; have hO1 : ∀ g, og = some g → O j = some g := fun g hg => (p5 g hg).1
  have hO2 : ∀ g, og2 = some g → O j2 = some g := fun g hg => (q5 g hg).1
  have hne : ∀ g, og = some g → og2 ≠ some g := fun g hg hg2 => hjj (hR.inj j j2 g (hO1 g hg) (hO2 g hg2))
  have hown : ∀ g, some g = og ∨ some g = og2 → ∃ i, (i = j ∨ i = j2) ∧ O i = some g := fun g hg => hg.elim (fun h => ⟨j, .inl rfl, hO1 g h.symm⟩) fun h => ⟨j2, .inr rfl, hO2 g h.symm⟩
  have holt : ∀ g, some g = og ∨ some g = og2 → g < w.heap.size ∧ (w0.heap.size ≤ g ∨ row g) ∧ ∀ q, ¬ L g q := fun g hg => by
    obtain ⟨i, _, hi⟩ := hown g hg; refine ⟨(hR.olt i g hi).1, (hR.olt i g hi).2, fun q hq => ?_⟩; rcases hg with hg | hg
    · have := ((p5 g hg.symm).2 q).1 hq; simp at this
    · have := ((q5 g hg.symm).2 q).1 hq; simp at this
  unfold Oper.wp; rw [hexec, Oper.upon_enter, hvals, h2, h4]; refine (hfn.2 w L og og2 _ _ _ hR.lok hR.gl ⟨cs1, z1, p1, p2, p3, p4, fun g hg => ⟨by rw [← hog]; exact hg, (p5 g (by rw [← hog]; exact hg)).2⟩⟩ ⟨cs2, z2, q1, q2, q3, q4, fun g hg => ⟨by rw [← hog2]; exact hg, (q5 g (by rw [← hog2]; exact hg)).2⟩⟩ hog hog2 hne (fun g hg => (holt g hg).1) (plain_ok hR ys xa ha)).mono ?_; rintro e' w' ⟨v, L', og', rfl, hgr, hlok', hold', hog', hrc⟩
  show Good P w0 L0 row n K (a.put o.dst v) w'
  obtain ⟨L2, hrc2, hlok2, hold2, hext2⟩ := hrc.demote b hlok' (fun g hg => (hog' g hg).1); have hS : Same w L w' L2 (fun b => some b = og ∨ some b = og2) := by
    have hL : ∀ c q, c < w.heap.size → ¬ (some c = og ∨ some c = og2) → (L2 c q ↔ L c q) := fun c q hc hne => by
      refine (hold2 c q (fun e => ?_)).trans (hold' c q hc hne); rcases (hog' c e.symm).2 with h1 | h1
      · omega
      · exact hne h1
    refine ⟨fun c q hq => ?_, fun c hc hne => hgr.block c hc hne, hL⟩; have hc := hR.lok c q hq; have hne : ¬ (some c = og ∨ some c = og2) := fun e => (holt c e).2.2 q hq
    refine ⟨(hL c q hc hne).2 hq, fun u hu => ?_⟩; simp only [World.cell?] at hu ⊢; rw [hgr.block c hc hne]; exact hu
  have hR2 := (hR.forget j).forget j2; have hO12 : ∀ i g, some g = og ∨ some g = og2 → setv (setv O j none) j2 none i ≠ some g := fun i g hg hi => by
    obtain ⟨i', hi', hi2⟩ := hown g hg; simp only [setv] at hi; split at hi
    · cases hi
    · split at hi
      · cases hi
      · have := hR.inj i i' g hi hi2; rcases hi' with rfl | rfl <;> contradiction
  refine ⟨L2, setv (setv (setv O j none) j2 none) d og', put (put (put σ j .undef) j2 .undef) d (Vw.demote b r), ?_, ?_, ?_, h⟩
  · rw [hd, tmOf_put (by omega)]; refine hR2.putOwn d (Vw.demote b r) v og' (fun b => some b = og ∨ some b = og2) hS (hR.grown.then hgr (fun g hg => (holt g hg).2.1)) hgr.size hlok2 (fun g hg => (holt g hg).2.1) (fun i g _ hi e => hO12 i g e hi) (fun g hg => ?_) (RC.toRA hrc2 _ _ _ _); refine ⟨(hog' g hg).1, ?_, fun i _ hi => ?_⟩
    · rcases (hog' g hg).2 with h1 | h1
      · exact .inl (Nat.le_trans hR.grown.size h1)
      · exact (holt g h1).2.1
    · rcases (hog' g hg).2 with h1 | h1
      · have := (hR2.olt i g hi).1; omega
      · exact hO12 i g h1 hi
  · rw [hd]; simpa [Act.put] using hdef
  · rw [hd]; simpa [Act.put] using hsz
end
theorem OwnR.lend {og : Option Nat} {e : TypeId} {l : List D} {v : Value} (h : OwnR P w L og true e l v) (hx : Ext w L w L') (hl : ∀ g, v.ownBlock = some g → ∀ q, L' g q) : RepV w L' (.sl l) v := by
  obtain ⟨css, sz, h1, h2, h3, h4, h5⟩ := h; rcases h4.2 with ⟨hv, hn⟩ | ⟨g, cap, cur, hv, hh, hnc, hcm, hsz, ht⟩
  · subst hv; have hl : l = [] := List.eq_nil_of_length_eq_zero hn; subst hl; exact nil_rep
  · subst hv; refine ⟨?_, rfl⟩; simp only [Rep]; refine ⟨some ⟨g, 0, none⟩, cap, css, sz, rfl, RepL.mono hx _ _ h2, h3, hnc, fun _ => ⟨g, 0, rfl, fun k u hk => ?_⟩⟩; have hk1 := hk; rw [← ht, List.getElem?_take] at hk1; split at hk1
    · refine ⟨?_, hl g rfl _⟩; simp only [World.cell?, hh]; simpa using hk1
    · cases hk1
def lent (σ : St) (tm : Nat → Value) (b : Nat) : Prop := ∃ j e l, σ j = .own true e l ∧ (tm j).ownBlock = some b
theorem lends_ok (hR : Rel P w0 L0 row w L O σ (tmOf a)) (hx : Ext w L w L') (hl : ∀ b, lent σ (tmOf a) b → ∀ q, L' b q) : ∀ (xs : List Operand) (xa : List AV), lendsA σ xs = some xa → RCs P w L' none xa (xs.map a.eval)
  | [], xa, h => by simp only [lendsA, Option.some.injEq] at h; subst h; simp [RCs]
  | x :: xs, xa, h => by
    simp only [lendsA] at h; split at h
    · rename_i y ys hy hys
      simp only [Option.some.injEq] at h; subst h; simp only [List.map_cons, RCs]; refine ⟨_, _, rfl, ?_, lends_ok hR hx hl xs ys hys⟩; simp only [lendA] at hy; have h1 := aval_ok hR x; have other : ∀ z, aval σ x = z → (asD z).map AV.d = some y → RC P w L' none y (a.eval x) := by
        intro z hz h2; simp only [Option.map_eq_some_iff] at h2; obtain ⟨u, hu, rfl⟩ := h2; have := aval_asD hR (x := x) (by rw [hz]; exact hu); simpa only [RC] using this.mono hx
      split at hy
      · rename_i j e l hxv
        simp only [Option.some.injEq] at hy; subst hy; rw [hxv] at h1; obtain ⟨h2, h3⟩ := h1; have h4 := hR.slots j; rw [h2] at h4; have h4' : OwnR P w L (O j) true e l (tmOf a j) := h4; rw [h3]; simp only [RC]; exact h4'.lend hx (fun g hg => hl g ⟨j, e, l, h2, hg⟩)
      · exact other _ rfl hy
    · cases h
section
variable (hd : o.dst = some d) (hlt : d < n) (hsz : a.tmps.size = n) (hdef : a.defers = []) (hR : Rel P w0 L0 row w L O σ (tmOf a))
include hd hlt hsz hdef hR
theorem s_callLend {f : Operand} {args : Array Operand} {ts : Array TypeId} (ho : o.op = .call { callee := .value f, args, argTypes := ts }) {g : FuncId} {caps : List D} (hf : aval σ f = .d (.clo g caps)) (hc : ∀ c ∈ caps, c.isAgg = false)
    {xa : List AV} (ha : lendsA σ args.toList = some xa) {y : D} (hy : flatD y = true) (hfn : Ctr P g (xa ++ caps.map .d) (.d y)) (h : K (put σ d (.d y))) :
    o.wp P a w (Good P w0 L0 row n K) Q := by
  obtain ⟨css, hcs, hfv⟩ := clo_inv (aval_d hR hf); have hexec : (execOp a.eval o).run P w = .ok (.enter g (args.map a.eval ++ css.flatten.toArray)) w := by
    simp only [execOp, ho, resolve, hfv, Deferred.ofValue, Sem.run_bind, Sem.run_pure, Result.andThen_ok, invoke, Array.empty_append, hfn.1 _ w]
  have hvals : (args.map a.eval ++ css.flatten.toArray) = (args.toList.map a.eval ++ css.flatten).toArray := by
    apply Array.ext'; simp
  unfold Oper.wp; rw [hexec, Oper.upon_enter, hvals]; have hlent : ∀ b, lent σ (tmOf a) b → b < w.heap.size ∧ ∀ q, ¬ L b q := by
    rintro b ⟨j, e, l, hj, hb⟩; have h4 := hR.slots j; rw [hj] at h4; obtain ⟨_, _, _, _, _, _, g5⟩ : OwnR P w L (O j) true e l (tmOf a j) := h4; have h5 := g5 b hb; exact ⟨(hR.olt j b h5.1).1, fun q hq => by have := (h5.2 q).1 hq; simp at this⟩
  have hext : Ext w L w (fun b q => L b q ∨ lent σ (tmOf a) b) := fun b q hq => ⟨.inl hq, fun _ hv => hv⟩
  refine (hfn.2 w (fun b q => L b q ∨ lent σ (tmOf a) b) none _ (fun b q hq => hq.elim (hR.lok b q) (fun h => (hlent b h).1)) (hR.gl.mono hext) (by simp) (RCs.append (lends_ok hR hext (fun b hb q => .inr hb) args.toList xa ha) (caps_vals (RepL.mono hext _ _ hcs) hc none))).mono ?_; rintro e w' ⟨v, L', og', rfl, hgr, hlok', hold', hog', hrc⟩
  show Good P w0 L0 row n K (a.put o.dst v) w'
  have hgr' : GrownS w w' noB := hgr.sub (fun b hb => by simp [optB] at hb); have hL : ∀ b q, b < w.heap.size → ((L' b q ∧ ¬ lent σ (tmOf a) b) ↔ L b q) := by
    intro b q hb; have := hold' b q hb (by simp [optB]); rw [this]; constructor
    · rintro ⟨h1 | h1, h2⟩
      · exact h1
      · exact absurd h1 h2
    · intro h1; exact ⟨.inl h1, fun h2 => (hlent b h2).2 q h1⟩
  have hS : Same w L w' (fun b q => L' b q ∧ ¬ lent σ (tmOf a) b) noB := by
    refine ⟨fun b q hq => ?_, fun b hb hne => hgr'.block b hb hne, fun b q hb _ => hL b q hb⟩; have hb := hR.lok b q hq; refine ⟨(hL b q hb).2 hq, fun u hu => ?_⟩; simp only [World.cell?] at hu ⊢; rw [hgr'.block b hb id]; exact hu
  have hrv : RepV w' L' y v := hrc; refine ⟨fun b q => L' b q ∧ ¬ lent σ (tmOf a) b, setv O d none, put σ d (.d y), ?_, ?_, ?_, h⟩
  · rw [hd, tmOf_put (by omega)]; exact hR.putOwn d (.d y) v none noB hS (hR.grown.then hgr' (fun _ h => h.elim)) hgr.size (fun b q hq => hlok' b q hq.1) (fun _ h => h.elim) (fun _ _ _ _ h => h) (by simp) (by simpa only [kill, RA, RC] using flat_rep hy hrv)
  · rw [hd]; simpa [Act.put] using hdef
  · rw [hd]; simpa [Act.put] using hsz
theorem s_callI {f x : Operand} {xs : List Operand} {args : Array Operand} {ts : Array TypeId} (ho : o.op = .call { callee := .value f, args, argTypes := ts }) (hargs : args.toList = x :: xs) {g : FuncId} {caps : List D} (hf : aval σ f = .d (.clo g caps)) (hc : ∀ c ∈ caps, c.isAgg = false)
    {j : Nat} {e : TypeId} {l l' : List D} (hj : ownOf (σ j) = some (e, l)) (hx : a.eval x = valOf (σ j) (tmOf a j)) {xa : List AV} (ha : plainA σ xs = some xa) (hfn : CtrI P g e l (xa ++ caps.map .d) l') (h : K (put (put σ j (setOwn e l' (σ j))) d (.tup []))) :
    o.wp P a w (Good P w0 L0 row n K) Q := by
  obtain ⟨css, hcs, hfv⟩ := clo_inv (aval_d hR hf); have hexec : (execOp a.eval o).run P w = .ok (.enter g (args.map a.eval ++ css.flatten.toArray)) w := by
    simp only [execOp, ho, resolve, hfv, Deferred.ofValue, Sem.run_bind, Sem.run_pure, Result.andThen_ok, invoke, Array.empty_append, hfn.1 _ w]
  have hvals : (args.map a.eval ++ css.flatten.toArray) = (a.eval x :: (xs.map a.eval ++ css.flatten)).toArray := by
    apply Array.ext'; simp [hargs]
  unfold Oper.wp; rw [hexec, Oper.upon_enter, hvals, hx]; have hV := hR.owned hj; generalize hVe : valOf (σ j) (tmOf a j) = V at hV; refine (hfn.2 w L V.ownBlock _ _ hR.lok hR.gl hV.self (RCs.append (plain_ok hR xs xa ha) (caps_vals hcs hc none))).mono ?_; rintro e' w' ⟨L', rfl, hgr, hlok', hold', hown⟩
  show Good P w0 L0 row n K (a.put o.dst (.tuple #[])) w'
  have hO : ∀ b, optB V.ownBlock b → O j = some b := fun b hb => (hV.blk hb).1
  have hext : Same w L w' L' (optB V.ownBlock) := by
    refine ⟨fun b q hq => ?_, fun b hb hne => hgr.block b hb hne, fun b q hb hne => hold' b q hb hne⟩; have hb := hR.lok b q hq; have hbj : ¬ optB V.ownBlock b := fun hb => (hV.blk hb).2 q hq
    refine ⟨(hold' b q hb hbj).2 hq, fun u hu => ?_⟩; simp only [World.cell?] at hu ⊢; rw [hgr.block b hb hbj]; exact hu
  have hj1 := hR.putOwn j (setOwn e l' (σ j)) (tmOf a j) (O j) (optB V.ownBlock) hext (hR.grown.then hgr (fun b hb => (hR.olt j b (hO b hb)).2)) hgr.size hlok' (fun b hb => (hR.olt j b (hO b hb)).2) (fun i b hi hi2 e => hi (hR.inj i j b hi2 (hO b e)))
    (fun b hb => ⟨Nat.lt_of_lt_of_le (hR.olt j b hb).1 hgr.size, (hR.olt j b hb).2, fun i hi e => hi (hR.inj i j b e hb)⟩) (setOwn_ok hj (by rw [hVe]; exact hown.lift (fun g hg => by simpa [setv] using hO g hg)) j)
  rw [setv_same] at hj1; refine ⟨L', setv (setv O j (O j)) d none, put (put σ j (setOwn e l' (σ j))) d (.tup []), ?_, ?_, ?_, h⟩
  · rw [hd, tmOf_put (by omega)]; exact hj1.putPure d (.tup []) (.tuple #[]) ⟨[], rfl, rfl⟩
  · rw [hd]; simpa [Act.put] using hdef
  · rw [hd]; simpa [Act.put] using hsz
theorem s_callHs {f x : Operand} {xs : List Operand} {args : Array Operand} {ts : Array TypeId} (ho : o.op = .call { callee := .value f, args, argTypes := ts }) (hargs : args.toList = x :: xs) {g : FuncId} {caps : List D} (hf : aval σ f = .d (.clo g caps)) (hc : ∀ c ∈ caps, c.isAgg = false)
    {j : Nat} {e e' : TypeId} {l l' : List D} {u : Value} (hx : aval σ x = .d (.raw u)) (hj : σ j = .hs u e l) {xa : List AV} (ha : plainA σ xs = some xa) (hfn : Ctr P g (.own true e l :: (xa ++ caps.map .d)) (.own true e' l'))
    (h : ∀ A c, K (put (put σ j (.hs (.slice A l'.length c) e' l')) d (.d (.raw (.slice A l'.length c))))) :
    o.wp P a w (Good P w0 L0 row n K) Q := by
  obtain ⟨css, hcs, hfv⟩ := clo_inv (aval_d hR hf); have hexec : (execOp a.eval o).run P w = .ok (.enter g (args.map a.eval ++ css.flatten.toArray)) w := by
    simp only [execOp, ho, resolve, hfv, Deferred.ofValue, Sem.run_bind, Sem.run_pure, Result.andThen_ok, invoke, Array.empty_append, hfn.1 _ w]
  have hvals : (args.map a.eval ++ css.flatten.toArray) = (a.eval x :: (xs.map a.eval ++ css.flatten)).toArray := by
    apply Array.ext'; simp [hargs]
  unfold Oper.wp; rw [hexec, Oper.upon_enter, hvals, (aval_d hR hx).raw_inv]; have h4 := hR.slots j; rw [hj] at h4; have hV : OwnR P w L (O j) true e l u := h4; have hO : ∀ b, u.ownBlock = some b → O j = some b := fun b hb => (hV.blk hb).1
  have hrest := RCs.append (plain_ok hR xs xa ha) (caps_vals hcs hc none); have hargs' : RCs P w L u.ownBlock (.own true e l :: (xa ++ caps.map .d)) (u :: (xs.map a.eval ++ css.flatten)) := by
    simp only [RCs]; refine ⟨_, _, rfl, by simpa only [RC] using hV.self, ?_⟩; have lift : ∀ (xs : List AV) (vs : List Value), (∀ x ∈ xs, ∃ y, x = .d y) → RCs P w L none xs vs → RCs P w L u.ownBlock xs vs := by
      intro xs
      induction xs with
      | nil => intro vs _ h; simpa [RCs] using h
      | cons x xs ih =>
        intro vs hx h; simp only [RCs] at h ⊢; obtain ⟨v, us, rfl, h1, h2⟩ := h; obtain ⟨y, rfl⟩ := hx x (by simp); exact ⟨v, us, rfl, by simpa only [RC] using h1, ih us (fun z hz => hx z (by simp [hz])) h2⟩
    refine lift _ _ (fun z hz => ?_) hrest; rcases List.mem_append.1 hz with hz | hz
    · have pl : ∀ (xs : List Operand) (xa : List AV), plainA σ xs = some xa → ∀ z ∈ xa, ∃ y, z = .d y := by
        intro xs
        induction xs with
        | nil => intro xa h z hz; simp only [plainA, Option.some.injEq] at h; subst h; simp at hz
        | cons x xs ih =>
          intro xa h z hz; simp only [plainA] at h; split at h
          · rename_i y ys hy hys
            simp only [Option.some.injEq] at h; subst h; rcases List.mem_cons.1 hz with hz | hz
            · exact ⟨y, hz⟩
            · exact ih ys hys z hz
          · cases h
      exact pl _ _ ha z hz
    · obtain ⟨y, _, rfl⟩ := List.mem_map.1 hz; exact ⟨y, rfl⟩
  refine (hfn.2 w L u.ownBlock _ hR.lok hR.gl (fun b hb => ⟨(hR.olt j b (hO b hb)).1, (hV.blk hb).2⟩) hargs').mono ?_; rintro e1 w' ⟨v, L', og', rfl, hgr, hlok', hold', hog', hrc⟩
  show Good P w0 L0 row n K (a.put o.dst v) w'
  have hrc' : OwnR P w' L' og' true e' l' v := hrc; have hext : Same w L w' L' (optB u.ownBlock) := by
    refine ⟨fun b q hq => ?_, fun b hb hne => hgr.block b hb hne, fun b q hb hne => hold' b q hb hne⟩; have hb := hR.lok b q hq; have hbj : ¬ optB u.ownBlock b := fun hb => (hV.blk hb).2 q hq
    refine ⟨(hold' b q hb hbj).2 hq, fun u hu => ?_⟩; simp only [World.cell?] at hu ⊢; rw [hgr.block b hb hbj]; exact hu
  have hj1 := hR.putOwn j (.hs v e' l') (tmOf a j) og' (optB u.ownBlock) hext (hR.grown.then hgr (fun b hb => (hR.olt j b (hO b hb)).2)) hgr.size hlok' (fun b hb => (hR.olt j b (hO b hb)).2) (fun i b hi hi2 e => hi (hR.inj i j b hi2 (hO b e)))
    (fun b hb => by
      refine ⟨(hog' b hb).1, ?_, fun i hi e => ?_⟩
      · rcases (hog' b hb).2 with h9 | h9
        · exact .inl (Nat.le_trans hR.grown.size h9)
        · exact (hR.olt j b (hO b h9)).2
      · rcases (hog' b hb).2 with h9 | h9
        · have := (hR.olt i b e).1; omega
        · exact hi (hR.inj i j b e (hO b h9))) hrc'
  rw [setv_same] at hj1; obtain ⟨A, c, rfl⟩ := hrc'.shape; refine ⟨L', setv (setv O j og') d none, _, ?_, ?_, ?_, h A c⟩
  · rw [hd, tmOf_put (by omega)]; exact hj1.putPure d (.d (.raw _)) _ (RepV.raw (by simp [Value.oneCell']) rfl)
  · rw [hd]; simpa [Act.put] using hdef
  · rw [hd]; simpa [Act.put] using hsz
end
def hblk : AV → Option Nat
  | .hs u _ _ => u.ownBlock
  | .hb (.pointer (some ad)) _ _ => some ad.block
  | .hm (.map (some g)) _ _ _ => some g
  | _ => none
def isH : AV → Bool
  | .hs _ _ _ => true
  | .hb _ _ _ => true
  | .hm _ _ _ _ => true
  | _ => false
def RH (P : Program) (w : World) (L : Nat → Nat → Prop) (x : AV) : Prop := isH x = true ∧ RC P w L (hblk x) x undef
def apartB : List (Option Nat) → Prop
  | [] => True
  | x :: xs => (∀ g, x = some g → some g ∉ xs) ∧ apartB xs
def CtrG (P : Program) (f : FuncId) (args hs : List AV) (Post : AV → List AV → Prop) : Prop :=
  Enters P f ∧ ∀ (w : World) (L : Nat → Nat → Prop) (vals : List Value), (∀ b q, L b q → b < w.heap.size) → GL P w L → RCs P w L none args vals → (∀ x ∈ hs, RH P w L x) → apartB (hs.map hblk) →
    Calls P f vals.toArray w fun e w' => ∃ v L' og r hs', e = .returned v ∧ GrownS w w' (fun b => some b ∈ hs.map hblk) ∧ (∀ b q, L' b q → b < w'.heap.size) ∧ (∀ b q, b < w.heap.size → some b ∉ hs.map hblk → (L' b q ↔ L b q)) ∧
      (∀ g, some g ∈ og :: hs'.map hblk → g < w'.heap.size ∧ (w.heap.size ≤ g ∨ some g ∈ hs.map hblk)) ∧ apartB (og :: hs'.map hblk) ∧ RC P w' L' og r v ∧ (∀ x ∈ hs', RH P w' L' x) ∧ Post r hs'
def putH (σ : St) : List Nat → Nat → List AV → St
  | _, _, [] => σ
  | k :: ks, b, x :: xs => putH (put σ k x) ks b xs
  | [], b, x :: xs => putH (put σ b x) [] (b + 1) xs
theorem RH.step {touch : Nat → Prop} {x : AV} (hs : Same w L w' L' touch) (hog : ∀ g, hblk x = some g → g < w.heap.size ∧ ¬ touch g) (h : RH P w L x) : RH P w' L' x := ⟨h.1, h.2.step hs hog⟩
theorem Rel.putName (h : Rel P w0 L0 row w L O σ tm) (k : Nat) (x : AV) (hx : RH P w L x) (hb : ∀ g, hblk x = some g → g < w.heap.size ∧ (w0.heap.size ≤ g ∨ row g) ∧ ∀ i, i ≠ k → O i ≠ some g) : Rel P w0 L0 row w L (setv O k (hblk x)) (put σ k x) tm := by
  have := h.putOwn k x (tm k) (hblk x) noB (Same.refl w L _) h.grown (Nat.le_refl _) h.lok (fun _ h => h.elim) (fun _ _ _ _ h => h) hb (by
    obtain ⟨h1, h2⟩ := hx; cases x <;> simp [isH] at h1 <;> exact h2)
  rwa [setv_same] at this
theorem Rel.putNames : ∀ (xs : List AV) (ks : List Nat) (b : Nat) {O : Nat → Option Nat} {σ : St}, Rel P w0 L0 row w L O σ tm → (∀ x ∈ xs, RH P w L x) → apartB (xs.map hblk) →
    (∀ g, some g ∈ xs.map hblk → g < w.heap.size ∧ (w0.heap.size ≤ g ∨ row g) ∧ ∀ i, O i ≠ some g) → ∃ O', Rel P w0 L0 row w L O' (putH σ ks b xs) tm
  | [], ks, b, O, σ, h, _, _, _ => ⟨O, by cases ks <;> exact h⟩
  | x :: xs, k :: ks, b, O, σ, h, hx, ha, hb => by
    have h1 := h.putName k x (hx x (by simp)) (fun g hg => by have := hb g (by simp [hg]); exact ⟨this.1, this.2.1, fun i _ => this.2.2 i⟩); refine Rel.putNames xs ks b h1 (fun y hy => hx y (by simp [hy])) ha.2 (fun g hg => ?_); have := hb g (by simp only [List.map_cons, List.mem_cons]; exact .inr hg); refine ⟨this.1, this.2.1, fun i hi => ?_⟩; simp only [setv] at hi; split at hi
    · exact ha.1 g hi hg
    · exact this.2.2 i hi
  | x :: xs, [], b, O, σ, h, hx, ha, hb => by
    have h1 := h.putName b x (hx x (by simp)) (fun g hg => by have := hb g (by simp [hg]); exact ⟨this.1, this.2.1, fun i _ => this.2.2 i⟩); refine Rel.putNames xs [] (b + 1) h1 (fun y hy => hx y (by simp [hy])) ha.2 (fun g hg => ?_); have := hb g (by simp only [List.map_cons, List.mem_cons]; exact .inr hg); refine ⟨this.1, this.2.1, fun i hi => ?_⟩; simp only [setv] at hi; split at hi
    · exact ha.1 g hi hg
    · exact this.2.2 i hi
theorem RC.self {og : Option Nat} {x : AV} (hx : isH x = true) {v : Value} (h : RC P w L og x v) : RH P w L x ∧ ∀ g, hblk x = some g → og = some g := by
  cases x <;> simp [isH] at hx
  case hs u e l =>
    have h' : OwnR P w L og true e l u := h; exact ⟨⟨rfl, h'.self⟩, fun g hg => (h'.blk hg).1⟩
  case hb u e y =>
    obtain ⟨g, C, h1, h2, h3⟩ : BoxT w L og e y u := h; subst h2; exact ⟨⟨rfl, ⟨g, C, rfl, rfl, h3⟩⟩, fun g' hg' => by simp only [hblk, ptr] at hg'; rw [← hg']; exact h1⟩
  case hm u kt m E =>
    obtain ⟨g, m', es, clk, h1, h2, h3⟩ : MapT P w L og kt m E u := h; subst h2; exact ⟨⟨rfl, ⟨g, m', es, clk, rfl, rfl, h3⟩⟩, fun g' hg' => by simp only [hblk] at hg'; rw [← hg']; exact h1⟩
def takeH (σ : St) : List Nat → St
  | [] => σ
  | k :: ks => takeH (put σ k .undef) ks
theorem Rel.takeH : ∀ (ks : List Nat) {O : Nat → Option Nat} {σ : St}, Rel P w0 L0 row w L O σ tm → (∀ k ∈ ks, isH (σ k) = true) → ks.Nodup →
    (∀ x ∈ ks.map σ, RH P w L x) ∧ apartB ((ks.map σ).map hblk) ∧ ∃ O', Rel P w0 L0 row w L O' (Vw.takeH σ ks) tm ∧ (∀ i g, O' i = some g → O i = some g) ∧
      ∀ g, some g ∈ (ks.map σ).map hblk → (w0.heap.size ≤ g ∨ row g) ∧ g < w.heap.size ∧ (∀ q, ¬ L g q) ∧ (∀ i, O' i ≠ some g) ∧ ∃ k ∈ ks, O k = some g
  | [], O, σ, h, _, _ => ⟨by simp, trivial, O, h, fun _ _ h => h, by simp⟩
  | k :: ks, O, σ, h, hH, hn => by
    have hk := hH k (by simp); have hs := h.slots k; have hrc : RC P w L (O k) (σ k) (tm k) := by
      cases hx : σ k <;> rw [hx] at hs hk <;> simp [isH] at hk <;> exact hs
    obtain ⟨r1, r2⟩ := hrc.self hk; have h1 := h.forget k; rw [List.nodup_cons] at hn; have hsame : ∀ i ∈ ks, put σ k .undef i = σ i := fun i hi => by
      have hne : i ≠ k := fun e => hn.1 (e ▸ hi)
      have hHi := hH i (by simp [hi]); simp only [put, if_neg hne]; cases hx : σ i <;> rw [hx] at hHi <;> simp [isH] at hHi <;> rfl
    have hmap : ks.map (put σ k .undef) = ks.map σ := List.map_congr_left hsame; obtain ⟨q1, q2, O', q3, q4, q5⟩ := Rel.takeH ks h1 (fun i hi => by rw [hsame i hi]; exact hH i (by simp [hi])) hn.2; rw [hmap] at q1 q2 q5; have q4' : ∀ i g, O' i = some g → O i = some g ∧ i ≠ k := fun i g hi => by
      have := q4 i g hi; simp only [setv] at this; split at this
      · cases this
      · exact ⟨this, by assumption⟩
    have hLk : ∀ g, hblk (σ k) = some g → ∀ q, ¬ L g q := by
      intro g hg; cases hx : σ k <;> rw [hx] at hk hg hrc <;> simp [isH] at hk
      case hs u e l => exact ((show OwnR P w L (O k) true e l u from hrc).blk hg).2
      case hb u e y =>
        obtain ⟨g', C, e1, e2, e3, e4, e5⟩ : BoxT w L (O k) e y u := hrc; subst e2; simp only [hblk, ptr, Option.some.injEq] at hg; subst hg; exact e5
      case hm u kt m E =>
        obtain ⟨g', m', es, clk, e1, e2, e3, e4, e5⟩ : MapT P w L (O k) kt m E u := hrc; subst e2; simp only [hblk, Option.some.injEq] at hg; subst hg; exact e4
    refine ⟨?_, ⟨?_, q2⟩, O', q3, fun i g hi => (q4' i g hi).1, ?_⟩
    · intro x hx; simp only [List.map_cons, List.mem_cons] at hx; rcases hx with rfl | hx
      · exact r1
      · exact q1 x hx
    · intro g hg hm; obtain ⟨_, _, _, _, k', hk', hO'⟩ := q5 g hm; simp only [setv] at hO'; split at hO'
      · cases hO'
      · rename_i hne
        exact hne (h.inj k' k g hO' (r2 g hg))
    · intro g hg; simp only [List.map_cons, List.mem_cons] at hg; rcases hg with hg | hg
      · have e1 := r2 g hg.symm; exact ⟨(h.olt k g e1).2, (h.olt k g e1).1, hLk g hg.symm, fun i hi => (q4' i g hi).2 (h.inj i k g (q4' i g hi).1 e1), k, by simp, e1⟩
      · obtain ⟨e1, e2, e3, e4, k', hk', e5⟩ := q5 g hg; simp only [setv] at e5; split at e5
        · cases e5
        · exact ⟨e1, e2, e3, e4, k', by simp [hk'], e5⟩
section
variable (hd : o.dst = some d) (hlt : d < n) (hsz : a.tmps.size = n) (hdef : a.defers = []) (hR : Rel P w0 L0 row w L O σ (tmOf a))
include hd hlt hsz hdef hR
theorem s_callG {f : Operand} {args : Array Operand} {ts : Array TypeId} (ho : o.op = .call { callee := .value f, args, argTypes := ts }) {g : FuncId} {caps : List D} (hf : aval σ f = .d (.clo g caps)) (hc : ∀ c ∈ caps, c.isAgg = false)
    {xa : List AV} (ha : plainA σ args.toList = some xa) (ks : List Nat) (hks : ∀ k ∈ ks, isH (σ k) = true) (hnd : ks.Nodup) (b : Nat) {Post : AV → List AV → Prop} (hfn : CtrG P g (xa ++ caps.map .d) (ks.map σ) Post)
    (h : ∀ r hs', Post r hs' → K (putH (put (takeH σ ks) d r) ks b hs')) :
    o.wp P a w (Good P w0 L0 row n K) Q := by
  obtain ⟨css, hcs, hfv⟩ := clo_inv (aval_d hR hf); have hexec : (execOp a.eval o).run P w = .ok (.enter g (args.map a.eval ++ css.flatten.toArray)) w := by
    simp only [execOp, ho, resolve, hfv, Deferred.ofValue, Sem.run_bind, Sem.run_pure, Result.andThen_ok, invoke, Array.empty_append, hfn.1 _ w]
  have hvals : (args.map a.eval ++ css.flatten.toArray) = (args.toList.map a.eval ++ css.flatten).toArray := by
    apply Array.ext'; simp
  unfold Oper.wp; rw [hexec, Oper.upon_enter, hvals]; obtain ⟨t1, t2, O1, t3, t4, t5⟩ := hR.takeH ks hks hnd; refine (hfn.2 w L _ hR.lok hR.gl (RCs.append (plain_ok hR _ xa ha) (caps_vals hcs hc none)) t1 t2).mono ?_; rintro e w' ⟨v, L', og, r, hs', rfl, hgr, hlok', hold', hog', hap, hrc, hrh, hpost⟩
  show Good P w0 L0 row n K (a.put o.dst v) w'
  have hS : Same w L w' L' (fun b => some b ∈ (ks.map σ).map hblk) := by
    refine ⟨fun b q hq => ?_, fun b hb hne => hgr.block b hb hne, fun b q hb hne => hold' b q hb hne⟩; have hb := hR.lok b q hq; have hbj : some b ∉ (ks.map σ).map hblk := fun hb => (t5 b hb).2.2.1 q hq
    refine ⟨(hold' b q hb hbj).2 hq, fun u hu => ?_⟩; simp only [World.cell?] at hu ⊢; rw [hgr.block b hb hbj]; exact hu
  have hfresh : ∀ g, some g ∈ og :: hs'.map hblk → g < w'.heap.size ∧ (w0.heap.size ≤ g ∨ row g) ∧ ∀ i, O1 i ≠ some g := fun g hg => by
    have := hog' g hg; refine ⟨this.1, ?_, fun i hi => ?_⟩
    · rcases this.2 with h9 | h9
      · exact .inl (Nat.le_trans hR.grown.size h9)
      · exact (t5 g h9).1
    · rcases this.2 with h9 | h9
      · have := (t3.olt i g hi).1; omega
      · exact (t5 g h9).2.2.2.1 i hi
  have h1 := t3.putOwn d r v og _ hS (hR.grown.then hgr (fun b hb => (t5 b hb).1)) hgr.size hlok' (fun b hb => (t5 b hb).1) (fun i b _ hi hb => (t5 b hb).2.2.2.1 i hi) (fun g hg => by
    have := hfresh g (by simp [hg]); exact ⟨this.1, this.2.1, fun i _ => this.2.2 i⟩) (RC.toRA hrc _ _ _ _)
  obtain ⟨O2, h2⟩ := Rel.putNames hs' ks b h1 hrh hap.2 (fun g hg => by
    have := hfresh g (by simp only [List.mem_cons]; exact .inr hg); refine ⟨this.1, this.2.1, fun i hi => ?_⟩; simp only [setv] at hi; split at hi
    · exact hap.1 g hi hg
    · exact this.2.2 i hi)
  refine ⟨L', O2, _, ?_, ?_, ?_, h r hs' hpost⟩
  · rw [hd, tmOf_put (by omega)]; exact h2
  · rw [hd]; simpa [Act.put] using hdef
  · rw [hd]; simpa [Act.put] using hsz
end
mutual
inductive Fz (hs : List AV) : D → D → Prop
  | same (d : D) : Fz hs d d
  | sl {u : Value} {e : TypeId} {l : List D} : AV.hs u e l ∈ hs → Fz hs (.raw u) (.sl l)
  | nil : Fz hs (.raw (.slice none 0 0)) (.sl [])
  | agg {ds ds' : List D} : FzL hs ds ds' → Fz hs (.agg ds) (.agg ds')
inductive FzL (hs : List AV) : List D → List D → Prop
  | nil : FzL hs [] []
  | cons {d d' : D} {ds ds' : List D} : Fz hs d d' → FzL hs ds ds' → FzL hs (d :: ds) (d' :: ds')
end
theorem FzL.len {hs : List AV} : ∀ {ds ds' : List D}, FzL hs ds ds' → ds.length = ds'.length
  | _, _, .nil => rfl
  | _, _, .cons _ h => by simp [h.len]
def withH (P : Program) (L : Nat → Nat → Prop) (hs : List AV) : Nat → Nat → Prop := fun b o => L b o ∨ ∃ u e l sz, AV.hs u e l ∈ hs ∧ u.ownBlock = some b ∧ (P.info? (ety e)).map (·.size) = some sz ∧ o < l.length * sz
theorem withH_ext (hs : List AV) : Ext w L w (withH P L hs) := fun _ _ h => ⟨.inl h, fun _ h => h⟩
theorem apart_mem : ∀ {hs : List AV}, apartB (hs.map hblk) → ∀ {x y : AV}, x ∈ hs → y ∈ hs → ∀ {g : Nat}, hblk x = some g → hblk y = some g → x = y
  | [], _, x, _, hx, _, _, _, _ => by simp at hx
  | z :: hs, h, x, y, hx, hy, g, h1, h2 => by
    rcases List.mem_cons.1 hx with rfl | hx2
    · rcases List.mem_cons.1 hy with rfl | hy2
      · rfl
      · exact absurd (List.mem_map.2 ⟨y, hy2, h2⟩) (h.1 g h1)
    · rcases List.mem_cons.1 hy with rfl | hy2
      · exact absurd (List.mem_map.2 ⟨x, hx2, h1⟩) (h.1 g h2)
      · exact apart_mem h.2 hx2 hy2 h1 h2
theorem withH_at {hs : List AV} (hr : ∀ x ∈ hs, RH P w L x) (ha : apartB (hs.map hblk)) {u : Value} {e : TypeId} {l : List D} (hm : AV.hs u e l ∈ hs) : RepV w (withH P L hs) (.sl l) u := by
  obtain ⟨css, sz, h1, h2, h3, h4, h5⟩ : OwnR P w L u.ownBlock true e l u := (hr _ hm).2; refine OwnR.at_ (P := P) (og := u.ownBlock) (e := e) ⟨css, sz, h1, RepL.mono (withH_ext hs) _ _ h2, h3, h4, fun g hg => ⟨hg, fun o => ⟨fun hL => ⟨rfl, ?_⟩, fun h => ?_⟩⟩⟩
  · rcases hL with hL | ⟨u', e', l', sz', hm', hb', hs', ho'⟩
    · exact absurd (((h5 g hg).2 o).1 hL).1 (by simp)
    · have := apart_mem ha hm hm' (g := g) hg hb'; simp only [AV.hs.injEq] at this; obtain ⟨rfl, rfl, rfl⟩ := this; rw [h1] at hs'; simp only [Option.some.injEq] at hs'; subst hs'; exact ho'
  · exact .inr ⟨u, e, l, sz, hm, hg, h1, h.2⟩
mutual
theorem Rep.fz {hs : List AV} (hr : ∀ x ∈ hs, RH P w L x) (ha : apartB (hs.map hblk)) : ∀ {d d' : D} {cs : List Value}, Fz hs d d' → Rep w L d cs → Rep w (withH P L hs) d' cs
  | _, _, _, .same d, h => Rep.mono (withH_ext hs) _ _ h
  | _, _, _, .sl hm, h => by
    simp only [Rep] at h; obtain ⟨rfl, h2, h3⟩ := h; exact (withH_at hr ha hm).cell rfl
  | _, _, _, .nil, h => by
    simp only [Rep] at h; obtain ⟨rfl, _, _⟩ := h; exact nil_rep.cell rfl
  | _, _, _, .agg hL, h => by
    simp only [Rep] at h ⊢; obtain ⟨css, h1, h2⟩ := h; exact ⟨css, RepL.fz hr ha hL h1, h2⟩
theorem RepL.fz {hs : List AV} (hr : ∀ x ∈ hs, RH P w L x) (ha : apartB (hs.map hblk)) : ∀ {ds ds' : List D} {css : List (List Value)}, FzL hs ds ds' → RepL w L ds css → RepL w (withH P L hs) ds' css
  | _, _, _, .nil, h => h
  | _, _, _, .cons h1 h2, h => by
    simp only [RepL] at h ⊢; obtain ⟨c, cs, e, h3, h4⟩ := h; exact ⟨c, cs, e, Rep.fz hr ha h1 h3, RepL.fz hr ha h2 h4⟩
end
theorem Fz.agg_eq {hs : List AV} {d d' : D} (h : Fz hs d d') : vIsAgg undef = vIsAgg undef ∧ d.isAgg = d'.isAgg := by
  refine ⟨rfl, ?_⟩; cases h <;> rfl
section
variable (hd : o.dst = some d) (hlt : d < n) (hsz : a.tmps.size = n) (hdef : a.defers = []) (hR : Rel P w0 L0 row w L O σ (tmOf a))
include hd hlt hsz hdef hR
theorem s_loadFz {t : TypeId} {x : Operand} (ho : o.op = .load t x) {y y' : D} (hx : derefO P σ x = some y) (ht : tyk P t = some (y.isAgg, width y)) (ks : List Nat) (hks : ∀ k ∈ ks, isH (σ k) = true) (hnd : ks.Nodup) (hfz : Fz (ks.map σ) y y')
    (h : K (put (takeH σ ks) d (.d y'))) : o.wp P a w (Good P w0 L0 row n K) Q := by
  obtain ⟨b, off, cs, h1, h2, h3⟩ := derefO_ok hR hx; obtain ⟨v, hv, hr⟩ := run_loadVar ht h2 h3; obtain ⟨hrh, hap, O', hR', _, hg⟩ := Rel.takeH ks hR hks hnd; have hrun : (execOp a.eval o).run P w = .ok (.value v) w := by
    simp only [execOp, ho, h1, Instr.loadAt, Instr.sureAddr, Sem.run_bind, Sem.run_pure, Result.andThen_ok, hv]
  have hwH : ∀ c q, withH P L (ks.map σ) c q → ¬ L c q → some c ∈ (ks.map σ).map hblk := fun c q hq hn => by
    rcases hq with hq | ⟨u, e, l, sz, hm, hb, _, _⟩
    · exact absurd hq hn
    · exact List.mem_map.2 ⟨_, hm, hb⟩
  have hS : Same w L w (withH P L (ks.map σ)) (fun c => some c ∈ (ks.map σ).map hblk) :=
    ⟨withH_ext _, fun _ _ _ => rfl, fun c q hc hne => ⟨fun hq => by
      by_cases hl : L c q
      · exact hl
      · exact absurd (hwH c q hq hl) hne, fun hq => .inl hq⟩⟩
  refine val_step hd hlt hsz hdef hrun (hR'.putOwn d (.d y') v none (fun c => some c ∈ (ks.map σ).map hblk) hS hR.grown (Nat.le_refl _) (fun c q hq => ?_) (fun c hc => (hg c hc).1) (fun i g _ hi hc => (hg g hc).2.2.2.1 i hi) (fun g hg => by cases hg) ?_) h
  · by_cases hl : L c q
    · exact hR.lok c q hl
    · exact (hg c (hwH c q hq hl)).2.1
  · show RepV w (withH P L (ks.map σ)) y' v
    exact ⟨Rep.fz hrh hap hfz hr.1, by rw [hr.2]; exact hfz.agg_eq.2⟩
end
end Go.Vw
namespace Go.Vw
open Go.RowKit Go.Proofs
def mget (m : List (D × D)) (k : D) : Option D := (m.find? fun p => keyEq p.1 k).map (·.2)
def mset (m : List (D × D)) (k v : D) : List (D × D) := if m.any (fun p => keyEq p.1 k) then m.map (fun p => if keyEq p.1 k then (p.1, v) else p) else m ++ [(k, v)]
def mdel (m : List (D × D)) (k : D) : List (D × D) := m.filter fun p => !keyEq p.1 k
variable {P : Program} {w0 : World} {L0 : Nat → Nat → Prop} {row : Nat → Prop} {n : Nat} {K : St → Prop} {Q : Exit → Act → World → Prop}
  {w w' : World} {L L' : Nat → Nat → Prop} {O O' : Nat → Option Nat} {σ σ' : St} {a : Act} {o : Oper} {d : Nat} {v : Value} {tm : Nat → Value}
theorem keyEq_eq {x y : D} (h : keyEq x y = true) : x = y := by
  unfold keyEq at h; split at h <;> simp_all
theorem keyEq_self {u : Option TypeDesc} {k : D} (h : keyFit u k = true) : keyEq k k = true := by
  unfold keyFit at h; split at h <;> simp_all [keyEq]
theorem keyFit_some {u : Option TypeDesc} {k : D} (h : keyFit u k = true) : ∃ dd, u = some dd := by
  cases u with
  | none => simp [keyFit] at h
  | some dd => exact ⟨dd, rfl⟩
theorem keyFit_isKey {dd : TypeDesc} {k : D} (h : keyFit (some dd) k = true) (hr : RepV w L k v) : MapKept.IsKey dd v := by
  unfold keyFit at h; split at h
  · rename_i s h1; cases h1; rw [hr.str_inv]; trivial
  · rename_i k k' n h1; cases h1; rw [hr.int_inv]; simp only [decide_eq_true_eq] at h; exact h.symm
  · rename_i b h1; cases h1; rw [hr.bool_inv]; trivial
  · cases h
theorem key_inj {u : Option TypeDesc} {k k' : D} {v v' : Value} (h : keyFit u k = true) (h' : keyFit u k' = true) (hr : RepV w L k v) (hr' : RepV w L k' v') (e : v = v') : k = k' := by
  subst e; cases u with
  | none => simp [keyFit] at h
  | some dd =>
    cases dd <;> cases k <;> simp [keyFit] at h <;> cases k' <;> simp [keyFit] at h'
    · have e1 := hr.bool_inv; have e2 := hr'.bool_inv; rw [e1] at e2; simpa using e2
    · have e1 := hr.int_inv; have e2 := hr'.int_inv; rw [e1] at e2; simpa using e2
    · have e1 := hr.str_inv; have e2 := hr'.str_inv; rw [e1] at e2; simpa using e2
theorem EntR.len : ∀ {m : List (D × D)} {es : List MapEntry}, EntR w L m es → es.length = m.length
  | [], _, h => by simp only [EntR] at h; subst h; rfl
  | p :: m, _, h => by
    obtain ⟨e, es', rfl, _, _, h4⟩ := h; simp [h4.len]
theorem EntR.get : ∀ {m : List (D × D)} {es : List MapEntry} {i : Nat} {e : MapEntry}, EntR w L m es → es[i]? = some e → ∃ p, m[i]? = some p ∧ RepV w L p.1 e.key ∧ RepV w L p.2 e.val
  | [], _, i, e, h, hi => by simp only [EntR] at h; subst h; simp at hi
  | p :: m, _, 0, e, h, hi => by
    obtain ⟨e', es', rfl, h2, h3, h4⟩ := h; simp only [List.getElem?_cons_zero, Option.some.injEq] at hi; subst hi; exact ⟨p, rfl, h2, h3⟩
  | p :: m, _, i + 1, e, h, hi => by
    obtain ⟨e', es', rfl, h2, h3, h4⟩ := h; simp only [List.getElem?_cons_succ] at hi; simpa using h4.get hi
theorem EntR.at_ : ∀ {m : List (D × D)} {es : List MapEntry} {i : Nat} {p : D × D}, EntR w L m es → m[i]? = some p → ∃ e, es[i]? = some e ∧ RepV w L p.1 e.key ∧ RepV w L p.2 e.val
  | [], _, i, e, h, hi => by simp at hi
  | p :: m, _, 0, e, h, hi => by
    obtain ⟨e', es', rfl, h2, h3, h4⟩ := h; simp only [List.getElem?_cons_zero, Option.some.injEq] at hi; subst hi; exact ⟨e', rfl, h2, h3⟩
  | p :: m, _, i + 1, e, h, hi => by
    obtain ⟨e', es', rfl, h2, h3, h4⟩ := h; simp only [List.getElem?_cons_succ] at hi; simpa using h4.at_ hi
theorem EntR.append : ∀ {m m2 : List (D × D)} {es es2 : List MapEntry}, EntR w L m es → EntR w L m2 es2 → EntR w L (m ++ m2) (es ++ es2)
  | [], _, _, _, h, h2 => by simp only [EntR] at h; subst h; simpa using h2
  | p :: m, _, _, _, h, h2 => by
    obtain ⟨e', es', rfl, g2, g3, g4⟩ := h; exact ⟨e', _, rfl, g2, g3, g4.append h2⟩
theorem EntR.set : ∀ {m : List (D × D)} {es : List MapEntry} {i : Nat} {p : D × D} {e : MapEntry}, EntR w L m es → RepV w L p.1 e.key → RepV w L p.2 e.val → EntR w L (m.set i p) (es.set i e)
  | [], _, _, _, _, h, _, _ => by simp only [EntR] at h; subst h; simp [EntR]
  | q :: m, _, 0, _, e, h, h1, h2 => by
    obtain ⟨e', es', rfl, g2, g3, g4⟩ := h; exact ⟨e, es', rfl, h1, h2, g4⟩
  | q :: m, _, i + 1, _, e, h, h1, h2 => by
    obtain ⟨e', es', rfl, g2, g3, g4⟩ := h; exact ⟨e', _, rfl, g2, g3, g4.set h1 h2⟩
theorem EntR.erase : ∀ {m : List (D × D)} {es : List MapEntry} {i : Nat}, EntR w L m es → EntR w L (m.eraseIdx i) (es.eraseIdx i)
  | [], _, _, h => by simp only [EntR] at h; subst h; simp [EntR]
  | q :: m, _, 0, h => by
    obtain ⟨e', es', rfl, g2, g3, g4⟩ := h; exact g4
  | q :: m, _, i + 1, h => by
    obtain ⟨e', es', rfl, g2, g3, g4⟩ := h; exact ⟨e', _, rfl, g2, g3, g4.erase⟩
theorem EntR.find {m : List (D × D)} {es : List MapEntry} {dd : TypeDesc} {k : D} (h : EntR w L m es) (hf : ∀ p ∈ m, keyFit (some dd) p.1 = true) (hk : keyFit (some dd) k = true) (hr : RepV w L k v) :
    (Instr.findNow dd v es 0 = some none ∧ ∀ p ∈ m, p.1 ≠ k) ∨ ∃ (j : Nat) (e : MapEntry) (x : D), Instr.findNow dd v es 0 = some (some (j, e.val)) ∧ es[j]? = some e ∧ e.key = v ∧ m[j]? = some (k, x) ∧ RepV w L x e.val := by
  have hks : ∀ e ∈ es, MapKept.IsKey dd e.key := fun e he => by
    obtain ⟨i, hi⟩ := List.getElem?_of_mem he; obtain ⟨p, hp, h1, _⟩ := h.get hi; exact keyFit_isKey (hf p (List.mem_of_getElem? hp)) h1
  rcases MapKept.findNow_spec (keyFit_isKey hk hr) es 0 hks with ⟨h1, h2⟩ | ⟨j, e, h1, h2, h3⟩
  · refine .inl ⟨h1, fun p hp e => ?_⟩; obtain ⟨i, hi⟩ := List.getElem?_of_mem hp; obtain ⟨e1, he, g1, _⟩ := h.at_ hi; subst e; refine h2 e1 (List.mem_of_getElem? he) ?_; have : ∀ {k : D} {v v' : Value}, keyFit (some dd) k = true → RepV w L k v → RepV w L k v' → v' = v := fun {k v v'} hk h h' => by
      unfold keyFit at hk; split at hk
      · rw [h.str_inv, h'.str_inv]
      · rw [h.int_inv, h'.int_inv]
      · rw [h.bool_inv, h'.bool_inv]
      · cases hk
    exact this hk hr g1
  · obtain ⟨p, hp, g1, g2⟩ := h.get h2; refine .inr ⟨j, e, p.2, by simpa using h1, h2, h3, ?_, g2⟩; have := key_inj (hf p (List.mem_of_getElem? hp)) hk g1 hr h3; rw [hp, ← this]
theorem mget_none {m : List (D × D)} {k : D} (h : ∀ p ∈ m, p.1 ≠ k) : mget m k = none := by
  have : m.find? (fun p => keyEq p.1 k) = none := by
    rw [List.find?_eq_none]; intro p hp e; exact h p hp (keyEq_eq e)
  simp [mget, this]
theorem mget_mem {u : Option TypeDesc} {m : List (D × D)} {k x : D} (hn : (m.map (·.1)).Nodup) (hk : keyFit u k = true) (h : (k, x) ∈ m) : mget m k = some x := by
  induction m with
  | nil => simp at h
  | cons p m ih =>
    rw [List.map_cons, List.nodup_cons] at hn; rcases List.mem_cons.1 h with rfl | h
    · simp [mget, keyEq_self hk]
    · have hne : keyEq p.1 k = false := by
        cases he : keyEq p.1 k with
        | false => rfl
        | true => exact absurd (keyEq_eq he ▸ List.mem_map.2 ⟨_, h, rfl⟩) hn.1
      have := ih hn.2 h; simp only [mget, List.find?_cons, hne] at this ⊢; exact this
theorem mset_at {u : Option TypeDesc} {k x y : D} (hk : keyFit u k = true) : ∀ {m : List (D × D)} {j : Nat}, (m.map (·.1)).Nodup → m[j]? = some (k, x) → m.map (fun p => if keyEq p.1 k then (p.1, y) else p) = m.set j (k, y)
  | [], j, _, h => by simp at h
  | p :: m, 0, hn, h => by
    simp only [List.getElem?_cons_zero, Option.some.injEq] at h; subst h; rw [List.map_cons, List.nodup_cons] at hn; have : m.map (fun p => if keyEq p.1 k then (p.1, y) else p) = m := by
      refine (List.map_congr_left (fun q hq => ?_)).trans (List.map_id m); cases he : keyEq q.1 k with
      | false => rfl
      | true => exact absurd (keyEq_eq he ▸ List.mem_map.2 ⟨q, hq, rfl⟩) hn.1
    simp [keyEq_self hk, this]
  | p :: m, j + 1, hn, h => by
    simp only [List.getElem?_cons_succ] at h; rw [List.map_cons, List.nodup_cons] at hn; have hne : keyEq p.1 k = false := by
      cases he : keyEq p.1 k with
      | false => rfl
      | true => exact absurd (keyEq_eq he ▸ List.mem_map.2 ⟨_, List.mem_of_getElem? h, rfl⟩) hn.1
    simp [hne, mset_at hk hn.2 h]
theorem mdel_at {u : Option TypeDesc} {k x : D} (hk : keyFit u k = true) : ∀ {m : List (D × D)} {j : Nat}, (m.map (·.1)).Nodup → m[j]? = some (k, x) → m.filter (fun p => !keyEq p.1 k) = m.eraseIdx j
  | [], j, _, h => by simp at h
  | p :: m, 0, hn, h => by
    simp only [List.getElem?_cons_zero, Option.some.injEq] at h; subst h; rw [List.map_cons, List.nodup_cons] at hn; have : m.filter (fun p => !keyEq p.1 k) = m := List.filter_eq_self.2 (fun q hq => by
      cases he : keyEq q.1 k with
      | false => rfl
      | true => exact absurd (keyEq_eq he ▸ List.mem_map.2 ⟨q, hq, rfl⟩) hn.1)
    simp [keyEq_self hk, this]
  | p :: m, j + 1, hn, h => by
    simp only [List.getElem?_cons_succ] at h; rw [List.map_cons, List.nodup_cons] at hn; have hne : keyEq p.1 k = false := by
      cases he : keyEq p.1 k with
      | false => rfl
      | true => exact absurd (keyEq_eq he ▸ List.mem_map.2 ⟨_, List.mem_of_getElem? h, rfl⟩) hn.1
    simp [hne, mdel_at hk hn.2 h]
theorem any_key {u : Option TypeDesc} {m : List (D × D)} {k x : D} (hk : keyFit u k = true) (h : (k, x) ∈ m) : m.any (fun p => keyEq p.1 k) = true := List.any_eq_true.2 ⟨_, h, keyEq_self hk⟩
theorem any_nokey {m : List (D × D)} {k : D} (h : ∀ p ∈ m, p.1 ≠ k) : m.any (fun p => keyEq p.1 k) = false := by
  rw [List.any_eq_false]; intro p hp e; exact h p hp (keyEq_eq e)
theorem mset_keys (m : List (D × D)) (k y : D) : (mset m k y).map (·.1) = if m.any (fun p => keyEq p.1 k) then m.map (·.1) else m.map (·.1) ++ [k] := by
  unfold mset; split
  · rw [List.map_map]; refine List.map_congr_left (fun p _ => ?_); simp only [Function.comp_apply]; split <;> rfl
  · simp
theorem mset_nodup {m : List (D × D)} {k y : D} (hn : (m.map (·.1)).Nodup) {u : Option TypeDesc} (hk : keyFit u k = true) : ((mset m k y).map (·.1)).Nodup := by
  rw [mset_keys]; split
  · exact hn
  · rename_i h
    refine List.nodup_append.2 ⟨hn, by simp, fun x hx z hz => ?_⟩; simp only [List.mem_singleton] at hz; subst hz; rintro rfl; obtain ⟨p, hp, rfl⟩ := List.mem_map.1 hx; exact h (any_key hk hp)
theorem mset_fit {m : List (D × D)} {k y : D} {u : Option TypeDesc} (hf : ∀ p ∈ m, keyFit u p.1 = true) (hk : keyFit u k = true) : ∀ p ∈ mset m k y, keyFit u p.1 = true := by
  intro p hp; have : p.1 ∈ (mset m k y).map (·.1) := List.mem_map.2 ⟨p, hp, rfl⟩; rw [mset_keys] at this; have old : p.1 ∈ m.map (·.1) → keyFit u p.1 = true := fun h => by
    obtain ⟨q, hq, e⟩ := List.mem_map.1 h; rw [← e]; exact hf q hq
  split at this
  · exact old this
  · rcases List.mem_append.1 this with h | h
    · exact old h
    · rw [List.mem_singleton.1 h]; exact hk
theorem perm_any {α : Type} {l l' : List α} (h : List.Perm l l') (f : α → Bool) : l.any f = l'.any f := by
  rw [Bool.eq_iff_iff, List.any_eq_true, List.any_eq_true]; exact ⟨fun ⟨x, hx, e⟩ => ⟨x, h.mem_iff.1 hx, e⟩, fun ⟨x, hx, e⟩ => ⟨x, h.mem_iff.2 hx, e⟩⟩
theorem mset_perm {m m' : List (D × D)} (h : List.Perm m' m) (k y : D) : List.Perm (mset m' k y) (mset m k y) := by
  unfold mset; rw [perm_any h]; split
  · exact h.map _
  · exact h.append_right _
theorem mdel_perm {m m' : List (D × D)} (h : List.Perm m' m) (k : D) : List.Perm (mdel m' k) (mdel m k) := h.filter _
theorem mget_perm {u : Option TypeDesc} {m m' : List (D × D)} (h : List.Perm m' m) (hn : (m.map (·.1)).Nodup) {k : D} (hk : keyFit u k = true) : mget m' k = mget m k := by
  by_cases hx : ∃ x, (k, x) ∈ m
  · obtain ⟨x, hx⟩ := hx; rw [mget_mem hn hk hx, mget_mem ((h.map _).nodup_iff.2 hn) hk (h.mem_iff.2 hx)]
  · have h0 : ∀ p ∈ m, p.1 ≠ k := fun p hp e => hx ⟨p.2, by rw [← e]; exact hp⟩
    rw [mget_none h0, mget_none (fun p hp => h0 p (h.mem_iff.1 hp))]
def fieldTy (P : Program) (s f : Nat) : Option (TypeId × Nat) :=
  match P.underlying s with
  | some (.struct fs) => (fs[f]?).map fun x => (x.type, x.offset)
  | _ => none
theorem run_fieldV {P : Program} {w : World} {L : Nat → Nat → Prop} {s f : Nat} {ds : List D} {v : Value} (hv : RepV w L (.agg ds) v) {y : D} (hy : ds[f]? = some y) {q : TypeId × Nat} (hq : fieldTy P s f = some q) (ht : tyk P q.1 = some (y.isAgg, width y)) (ho : q.2 = widths (ds.take f)) :
    ∃ u, (Instr.field s v f).run P w = .ok u w ∧ RepV w L y u := by
  obtain ⟨h1, h2⟩ := hv; obtain ⟨cs, rfl⟩ : ∃ cs, v = .agg cs := by
    cases v with
    | agg cs => exact ⟨cs, rfl⟩
    | _ => simp [vIsAgg, D.isAgg] at h2
  simp only [Rep] at h1; obtain ⟨css, h4, h1⟩ := h1; simp only [Value.cells] at h1; obtain ⟨pre, c, post, h5, h6, h7⟩ := h4.flat_at hy; have hcl : c.length = width y := Rep.len y c h7; unfold fieldTy at hq; split at hq
  · rename_i fs hu
    obtain ⟨x, hx, rfl⟩ := Option.map_eq_some_iff.1 hq; simp only at ht ho; have hcs : cs.toList = pre ++ (c ++ post) := by rw [h1, h5, List.append_assoc]
    have hrun : ∀ r, (part x.type cs x.offset).run P w = r → (Instr.field s (.agg cs) f).run P w = r := fun r hr => by
      simp only [Instr.field, Sem.run_bind, run_underlying hu, Result.andThen_ok, hx, asAgg, Sem.run_pure, hr]
    cases ha : y.isAgg with
    | true =>
      rw [ha] at ht; refine ⟨.agg (cs.extract x.offset (x.offset + width y)), hrun _ ?_, ?_, by simp [vIsAgg, ha]⟩
      · simp only [part, Sem.run_bind, run_isAgg_tyk ht, Result.andThen_ok, if_true, run_sizeOf_tyk ht, Sem.run_pure]
      · have : List.take (width y) (List.drop x.offset cs.toList) = c := by
          rw [hcs, ho, ← h6, ← hcl]; simp
        simp only [Value.cells, Array.toList_extract, List.extract_eq_take_drop, Nat.add_sub_cancel_left, this]; exact h7
    | false =>
      rw [ha] at ht; obtain ⟨u, hu', hv'⟩ := rep_one h7 ha; refine ⟨u, hrun _ ?_, RepV.of_cell (by rw [← hu']; exact h7) ha hv'⟩; have : cs[x.offset]? = some u := by
        rw [← Array.getElem?_toList, hcs, ho, ← h6, List.getElem?_append_right (Nat.le_refl _), Nat.sub_self, hu']; rfl
      simp only [part, Sem.run_bind, run_isAgg_tyk ht, Result.andThen_ok, Bool.false_eq_true, if_false, this, Sem.run_pure]
  · cases hq
def lookR (c : Bool) (z : D) (r : Option D) : AV :=
  match c, r with
  | true, some x => .tup [.d x, .d (.bool true)]
  | true, none => .tup [.d z, .d (.bool false)]
  | false, some x => .d x
  | false, none => .d z
theorem RepV.tup2 {x y : D} {vx vy : Value} {O : Nat → Option Nat} {σ : St} {tm : Nat → Value} (hx : RepV w L x vx) (hy : RepV w L y vy) : RA P w L O σ tm none (.tup [.d x, .d y]) (.tuple #[vx, vy]) := by
  simp only [RA, RC, RCs]; exact ⟨[vx, vy], rfl, vx, [vy], rfl, hx, vy, [], rfl, hy, rfl⟩
theorem Rel.mapT (h : Rel P w0 L0 row w L O σ tm) {j : Nat} {u : Value} {kt : TypeId} {m : List (D × D)} {E : Option (List (D × Nat) × Nat)} (hj : σ j = .hm u kt m E) : MapT P w L (O j) kt m E u := by
  have h1 := h.slots j; rw [hj] at h1; exact h1
theorem Rel.mapSet (h : Rel P w0 L0 row w L O σ tm) {j g : Nat} {kt : TypeId} {m m1 m2 : List (D × D)} {E : Option (List (D × Nat) × Nat)} {es2 : Array MapEntry} {clk2 : Nat} (hj : σ j = .hm (.map (some g)) kt m E)
    (hp : List.Perm m1 m2) (he : EntR w L m1 es2.toList) (hn : (m2.map (·.1)).Nodup) (hf : ∀ p ∈ m2, keyFit (P.underlying kt) p.1 = true) (hb : (es2.toList.map (·.born)).Nodup) (hc : ∀ e ∈ es2.toList, e.born < clk2) :
    ∃ O', Rel P w0 L0 row { w with heap := w.heap.setIfInBounds g (.map es2 clk2) } L O' (put σ j (.hm (.map (some g)) kt m2 none)) tm := by
  obtain ⟨g', m', es, clk, h1, h2, h3, h4, h5⟩ := h.mapT hj; simp only [Value.map.injEq, Option.some.injEq] at h2; subst h2; have hg := h.olt j g h1; have hset := MapKept.heap_set (o' := .map es2 clk2) h3; have hS : Same w L { w with heap := w.heap.setIfInBounds g (.map es2 clk2) } L (optB (some g)) := by
    refine ⟨fun b q hq => ⟨hq, fun v hv => ?_⟩, fun b _ hne => hset.2 b (fun e => hne (by rw [e]; rfl)), fun _ _ _ _ => Iff.rfl⟩; have hne : b ≠ g := fun e => h4 q (e ▸ hq)
    simp only [World.cell?] at hv ⊢; rw [hset.2 b hne]; exact hv
  have := h.putOwn (w' := { w with heap := w.heap.setIfInBounds g (.map es2 clk2) }) j (.hm (.map (some g)) kt m2 none) (tm j) (O j) (optB (some g)) hS
    (h.grown.then ⟨rfl, rfl, rfl, by simp, fun k hk hne => hset.2 k (fun e => hne (show some g = some k by rw [e])), Nat.le_refl _⟩ (fun q hq => by obtain rfl : g = q := (by simpa [optB] using hq); exact hg.2)) (by simp)
    (fun b q hq => by simpa using h.lok b q hq) (fun q hq => by obtain rfl : g = q := (by simpa [optB] using hq); exact hg.2) (fun i q hi hO e => hi (h.inj i j q hO (by rw [h1]; exact e)))
    (fun q hq => ⟨by simpa using (h.olt j q hq).1, (h.olt j q hq).2, fun i hi e => hi (h.inj i j q e hq)⟩)
    (by
      show MapT P { w with heap := w.heap.setIfInBounds g (.map es2 clk2) } L (O j) kt m2 none (.map (some g))
      exact ⟨g, m1, es2, clk2, h1, rfl, hset.1, h4, hp, he.mono hS.ext, hn, hf, hb, hc, by simp⟩)
  rw [setv_same] at this; exact ⟨_, this⟩
theorem mapUpdate_core (hR : Rel P w0 L0 row w L O σ (tmOf a)) {t kt vt : TypeId} (ht : P.underlying t = some (.map kt vt)) {j : Nat} {u : Value} {m m2 : List (D × D)} {E : Option (List (D × Nat) × Nat)} (hj : σ j = .hm u kt m E)
    {k y : D} {vk vy : Value} (hk : keyFit (P.underlying kt) k = true) (hrk : RepV w L k vk) (hry : RepV w L y vy) (hp : List.Perm m2 (mset m k y)) :
    ∃ w' O', (Instr.mapUpdate t u vk vy).run P w = .ok () w' ∧ Rel P w0 L0 row w' L O' (put σ j (.hm u kt m2 none)) (tmOf a) := by
  obtain ⟨g, m', es, clk, h1, rfl, h3, h4, h5, h6, h7, h8, h9, h10, h11⟩ := hR.mapT hj; obtain ⟨dd, hdd⟩ := keyFit_some hk; have h8' : ∀ p ∈ m', keyFit (some dd) p.1 = true := fun p hp => by rw [← hdd]; exact h8 p (h5.mem_iff.1 hp)
  have hn' : (m'.map (·.1)).Nodup := (h5.map _).nodup_iff.2 h7; have hk' : keyFit (some dd) k = true := by rw [← hdd]; exact hk
  have hn2 : (m2.map (·.1)).Nodup := (hp.map _).nodup_iff.2 (mset_nodup h7 hk); have hf2 : ∀ p ∈ m2, keyFit (P.underlying kt) p.1 = true := fun p hp' => mset_fit h8 hk p (hp.mem_iff.1 hp')
  have hpm : List.Perm (mset m' k y) m2 := (mset_perm h5 k y).trans hp.symm; have hK := keyFit_isKey hk' hrk; rcases h6.find h8' hk' hrk with ⟨f1, f2⟩ | ⟨i, e, x, f1, f2, f3, f4, f5⟩
  · have hms : mset m' k y = m' ++ [(k, y)] := by unfold mset; rw [any_nokey f2]; simp
    rw [hms] at hpm; obtain ⟨O', hR'⟩ := hR.mapSet (es2 := es.push { key := vk, val := vy, born := clk }) (clk2 := clk + 1) hj hpm (by rw [Array.toList_push]; exact h6.append ⟨_, [], rfl, hrk, hry, rfl⟩) hn2 hf2
      (by
        rw [Array.toList_push, List.map_append]; refine List.nodup_append.2 ⟨h9, by simp, fun x hx z hz => ?_⟩; simp only [List.map_cons, List.map_nil, List.mem_singleton] at hz; subst hz; obtain ⟨e, he, rfl⟩ := List.mem_map.1 hx; exact Nat.ne_of_lt (h10 e he))
      (by
        intro e he; rw [Array.toList_push] at he; rcases List.mem_append.1 he with he | he
        · exact Nat.lt_succ_of_lt (h10 e he)
        · rw [List.mem_singleton.1 he]; exact Nat.lt_succ_self _)
    refine ⟨_, O', ?_, hR'⟩; simp [Instr.mapUpdate, run_underlying ht, MapKept.run_getObj_map h3, MapKept.run_checkKey hdd hK, MapKept.run_findKey hdd f1, MapKept.run_setObj_map _ h3, Result.andThen]
  · have hi : es[i]? = some e := (by simpa using f2); have hms : mset m' k y = m'.set i (k, y) := by
      unfold mset; rw [if_pos (any_key hk (List.mem_of_getElem? f4)), mset_at hk hn' f4]
    rw [hms] at hpm; have hto : (es.modify i fun e => { e with key := vk, val := vy }).toList = es.toList.set i { e with key := vk, val := vy } := by
      apply List.ext_getElem?
      intro q; simp only [Array.getElem?_toList, Array.getElem?_modify, List.getElem?_set, Array.length_toList]; have hlt : i < es.size := (Array.getElem?_eq_some_iff.1 hi).1; by_cases hq : i = q
      · subst hq; have he : es[i] = e := (Array.getElem?_eq_some_iff.1 hi).2; simp [hlt, he]
      · simp [hq]
    have hborn : (es.toList.set i { e with key := vk, val := vy }).map (·.born) = es.toList.map (·.born) := by
      apply List.ext_getElem?
      intro q; simp only [List.getElem?_map, List.getElem?_set]; have hlt : i < es.toList.length := (List.getElem?_eq_some_iff.1 f2).1; by_cases hq : i = q
      · subst hq; have hlt' : i < es.size := (by simpa using hlt); have he : es[i] = e := (Array.getElem?_eq_some_iff.1 hi).2; simp [hlt', he]
      · simp [hq]
    obtain ⟨O', hR'⟩ := hR.mapSet (es2 := es.modify i fun e => { e with key := vk, val := vy }) (clk2 := clk) hj hpm (by rw [hto]; exact h6.set hrk hry) hn2 hf2 (by rw [hto, hborn]; exact h9)
      (by
        intro e' he'; have : e'.born ∈ es.toList.map (·.born) := by rw [← hborn, ← hto]; exact List.mem_map.2 ⟨e', he', rfl⟩
        obtain ⟨e2, he2, hb⟩ := List.mem_map.1 this; rw [← hb]; exact h10 e2 he2)
    refine ⟨_, O', ?_, hR'⟩; simp [Instr.mapUpdate, run_underlying ht, MapKept.run_getObj_map h3, MapKept.run_checkKey hdd hK, MapKept.run_findKey hdd f1, hi, f3, MapKept.run_keyThatStays hK, MapKept.run_setObj_map _ h3, Result.andThen]
theorem mapDelete_core (hR : Rel P w0 L0 row w L O σ (tmOf a)) {t kt vt ty : TypeId} {ts : Array TypeId} (hts : ts[0]? = some t) (ht : P.underlying t = some (.map kt vt)) {j : Nat} {u : Value} {m m2 : List (D × D)} {E : Option (List (D × Nat) × Nat)} (hj : σ j = .hm u kt m E)
    {k : D} {vk : Value} (hk : keyFit (P.underlying kt) k = true) (hrk : RepV w L k vk) (hp : List.Perm m2 (mdel m k)) :
    ∃ w' O', (Builtin.delete_ ts ty #[u, vk]).run P w = .ok (.tuple #[]) w' ∧ Rel P w0 L0 row w' L O' (put σ j (.hm u kt m2 none)) (tmOf a) := by
  obtain ⟨g, m', es, clk, h1, rfl, h3, h4, h5, h6, h7, h8, h9, h10, h11⟩ := hR.mapT hj; obtain ⟨dd, hdd⟩ := keyFit_some hk; have h8' : ∀ p ∈ m', keyFit (some dd) p.1 = true := fun p hp => by rw [← hdd]; exact h8 p (h5.mem_iff.1 hp)
  have hn' : (m'.map (·.1)).Nodup := (h5.map _).nodup_iff.2 h7; have hk' : keyFit (some dd) k = true := by rw [← hdd]; exact hk
  have hsub : ∀ p ∈ m2, p ∈ m := fun p hp' => (List.mem_filter.1 (hp.mem_iff.1 hp')).1
  have hn2 : (m2.map (·.1)).Nodup := (hp.map _).nodup_iff.2 ((List.filter_sublist.map _).nodup h7); have hf2 : ∀ p ∈ m2, keyFit (P.underlying kt) p.1 = true := fun p hp' => h8 p (hsub p hp')
  have hpm : List.Perm (mdel m' k) m2 := (mdel_perm h5 k).trans hp.symm; have hK := keyFit_isKey hk' hrk; rcases h6.find h8' hk' hrk with ⟨f1, f2⟩ | ⟨i, e, x, f1, f2, f3, f4, f5⟩
  · have hms : mdel m' k = m' := List.filter_eq_self.2 (fun p hp => by
      cases he : keyEq p.1 k with
      | false => rfl
      | true => exact absurd (keyEq_eq he) (f2 p hp))
    rw [hms] at hpm; obtain ⟨O', hR'⟩ := hR.mapSet (es2 := es) (clk2 := clk) hj hpm h6 hn2 hf2 h9 h10; refine ⟨_, O', ?_, hR'⟩; simp [Builtin.delete_, hts, run_underlying ht, MapKept.run_getObj_map h3, MapKept.run_checkKey hdd hK, MapKept.run_findKey hdd f1, MapKept.run_setObj_map _ h3, Result.andThen]
  · have hlt : i < es.size := by have := (List.getElem?_eq_some_iff.1 f2).1; simpa using this
    have hms : mdel m' k = m'.eraseIdx i := mdel_at hk hn' f4; rw [hms] at hpm; have hto : (es.eraseIdxIfInBounds i).toList = es.toList.eraseIdx i := by
      unfold Array.eraseIdxIfInBounds; rw [dif_pos hlt, Array.toList_eraseIdx]
    have hsl : (es.toList.eraseIdx i).Sublist es.toList := List.eraseIdx_sublist _ _; obtain ⟨O', hR'⟩ := hR.mapSet (es2 := es.eraseIdxIfInBounds i) (clk2 := clk) hj hpm (by rw [hto]; exact h6.erase) hn2 hf2 (by rw [hto]; exact (hsl.map _).nodup h9)
      (by rw [hto]; exact fun e he => h10 e (hsl.subset he))
    refine ⟨_, O', ?_, hR'⟩; simp [Builtin.delete_, hts, run_underlying ht, MapKept.run_getObj_map h3, MapKept.run_checkKey hdd hK, MapKept.run_findKey hdd f1, MapKept.run_setObj_map _ h3, Result.andThen]
section
variable (hd : o.dst = some d) (hlt : d < n) (hsz : a.tmps.size = n) (hdef : a.defers = []) (hR : Rel P w0 L0 row w L O σ (tmOf a))
include hd hlt hsz hdef hR
theorem s_makeMap {t kt : TypeId} (ho : o.op = .makeMap t none) {j : Nat} (hj : σ j = .undef) (h : ∀ g, K (put (put σ j (.hm (.map (some g)) kt [] none)) d (.d (.raw (.map (some g)))))) : o.wp P a w (Good P w0 L0 row n K) Q := by
  have h1 := hR.putNew (.map #[] 0) 0 j (.hm (.map (some w.heap.size)) kt [] none) (tmOf a j) (by
    refine ⟨w.heap.size, [], #[], 0, rfl, rfl, heap_alloc_new w _, fun q hq => ?_, List.Perm.refl _, rfl, by simp, by simp, by simp, by simp, by simp⟩; rcases hq with hq | hq
    · have := hR.lok _ _ hq; omega
    · omega)
  rw [setv_same] at h1; refine val_step hd hlt hsz hdef (v := .map (some w.heap.size)) (w' := w.alloc (.map #[] 0)) ?_ (h1.putPure d (.d (.raw (.map (some w.heap.size)))) _ (RepV.raw (by simp [Value.oneCell']) rfl)) (h w.heap.size); simp [execOp, ho, Instr.makeMap, newObj]; rfl
theorem s_lookup {t kt vt : TypeId} {x i : Operand} {c : Bool} (ho : o.op = .lookup t x i c) (ht : P.underlying t = some (.map kt vt)) {u : Value} (hx : aval σ x = .d (.raw u)) {j : Nat} {m : List (D × D)} {E : Option (List (D × Nat) × Nat)} (hj : σ j = .hm u kt m E)
    {k z : D} (hi : asD (aval σ i) = some k) (hk : keyFit (P.underlying kt) k = true) (hz : zeroD P vt = some z) (h : K (put σ d (lookR c z (mget m k)))) : o.wp P a w (Good P w0 L0 row n K) Q := by
  have hu : a.eval x = u := (aval_d hR hx).raw_inv; have hrk := aval_asD hR hi; obtain ⟨g, m', es, clk, h1, rfl, h3, h4, h5, h6, h7, h8, h9, h10, h11⟩ := hR.mapT hj; obtain ⟨dd, hdd⟩ := keyFit_some hk; have h8' : ∀ p ∈ m', keyFit (some dd) p.1 = true := fun p hp => by rw [← hdd]; exact h8 p (h5.mem_iff.1 hp)
  have hk' : keyFit (some dd) k = true := by rw [← hdd]; exact hk
  have hn' : (m'.map (·.1)).Nodup := (h5.map _).nodup_iff.2 h7; have hK := keyFit_isKey hk' hrk; obtain ⟨zv, hzv, hzr, _⟩ := zeroD_ok hz w L; rw [← mget_perm h5 h7 hk] at h; rcases h6.find h8' hk' hrk with ⟨f1, f2⟩ | ⟨i', e, x', f1, f2, f3, f4, f5⟩
  · rw [mget_none f2] at h; cases c with
    | true =>
      refine pure_step hd hlt hsz hdef hR (x := .tup [.d z, .d (.bool false)]) (v := .tuple #[zv, .bool false]) ?_ (RepV.tup2 hzr RepV.bool) h; simp [execOp, ho, hu, Instr.lookup, run_underlying ht, MapKept.run_getObj_map h3, MapKept.run_checkKey hdd hK, MapKept.run_findKey hdd f1, hzv, Result.andThen]
    | false =>
      refine pure_step hd hlt hsz hdef hR (x := .d z) (v := zv) ?_ hzr h; simp [execOp, ho, hu, Instr.lookup, run_underlying ht, MapKept.run_getObj_map h3, MapKept.run_checkKey hdd hK, MapKept.run_findKey hdd f1, hzv, Result.andThen]
  · rw [mget_mem hn' hk (List.mem_of_getElem? f4)] at h; cases c with
    | true =>
      refine pure_step hd hlt hsz hdef hR (x := .tup [.d x', .d (.bool true)]) (v := .tuple #[e.val, .bool true]) ?_ (RepV.tup2 f5 RepV.bool) h; simp [execOp, ho, hu, Instr.lookup, run_underlying ht, MapKept.run_getObj_map h3, MapKept.run_checkKey hdd hK, MapKept.run_findKey hdd f1, Result.andThen]
    | false =>
      refine pure_step hd hlt hsz hdef hR (x := .d x') (v := e.val) ?_ f5 h; simp [execOp, ho, hu, Instr.lookup, run_underlying ht, MapKept.run_getObj_map h3, MapKept.run_checkKey hdd hK, MapKept.run_findKey hdd f1, Result.andThen]
theorem s_lookupN {t kt vt : TypeId} {x i : Operand} {c : Bool} (ho : o.op = .lookup t x i c) (ht : P.underlying t = some (.map kt vt)) (hx : aval σ x = .d (.raw (.map none)))
    {k z : D} (hi : asD (aval σ i) = some k) (hk : keyFit (P.underlying kt) k = true) (hz : zeroD P vt = some z) (h : K (put σ d (lookR c z none))) : o.wp P a w (Good P w0 L0 row n K) Q := by
  have hu : a.eval x = .map none := (aval_d hR hx).raw_inv; have hrk := aval_asD hR hi; obtain ⟨dd, hdd⟩ := keyFit_some hk; have hk' : keyFit (some dd) k = true := by rw [← hdd]; exact hk
  have hK := keyFit_isKey hk' hrk; obtain ⟨zv, hzv, hzr, _⟩ := zeroD_ok hz w L; have h6 : EntR w L [] [] := (by simp [EntR]); rcases h6.find (fun p hp => by cases hp) hk' hrk with ⟨f1, f2⟩ | ⟨i', e, x', f1, f2, f3, f4, f5⟩
  · cases c with
    | true =>
      refine pure_step hd hlt hsz hdef hR (x := .tup [.d z, .d (.bool false)]) (v := .tuple #[zv, .bool false]) ?_ (RepV.tup2 hzr RepV.bool) h; simp [execOp, ho, hu, Instr.lookup, run_underlying ht, MapKept.run_checkKey hdd hK, MapKept.run_findKey hdd f1, hzv, Result.andThen]
    | false =>
      refine pure_step hd hlt hsz hdef hR (x := .d z) (v := zv) ?_ hzr h; simp [execOp, ho, hu, Instr.lookup, run_underlying ht, MapKept.run_checkKey hdd hK, MapKept.run_findKey hdd f1, hzv, Result.andThen]
  · cases f4
theorem s_fieldV {s f : Nat} {x : Operand} (ho : o.op = .field s x f) {ds : List D} (hx : aval σ x = .d (.agg ds)) {y : D} (hy : ds[f]? = some y) {q : TypeId × Nat} (hq : fieldTy P s f = some q) (ht : tyk P q.1 = some (y.isAgg, width y)) (hw : q.2 = widths (ds.take f))
    (h : K (put σ d (.d y))) : o.wp P a w (Good P w0 L0 row n K) Q := by
  obtain ⟨u, hu, hr⟩ := run_fieldV (aval_d hR hx) hy hq ht hw; refine pure_step hd hlt hsz hdef hR (x := .d y) (v := u) ?_ hr h; simp only [execOp, ho, Sem.run_bind, hu, Result.andThen_ok, Sem.run_pure]
theorem s_lenM {t kt vt : TypeId} {x : Operand} (ho : o.op = .call { callee := .builtin .len, args := #[x], argTypes := #[t] }) (ht : P.underlying t = some (.map kt vt)) {u : Value} (hx : aval σ x = .d (.raw u)) {j : Nat} {kt' : TypeId} {m : List (D × D)}
    {E : Option (List (D × Nat) × Nat)} (hj : σ j = .hm u kt' m E) (h : K (put σ d (.d (.int .i64 m.length)))) : o.wp P a w (Good P w0 L0 row n K) Q := by
  have hu : a.eval x = u := (aval_d hR hx).raw_inv; obtain ⟨g, m', es, clk, h1, rfl, h3, h4, h5, h6, h7⟩ := hR.mapT hj; have hl : es.size = m.length := by rw [← h5.length_eq, ← h6.len]; simp
  refine pure_step hd hlt hsz hdef hR (x := .d (.int .i64 m.length)) (v := goInt es.size) ?_ (by rw [hl]; exact RepV.int) h; simp [execOp, ho, hu, resolve, invoke, builtin, Builtin.len_, run_underlying ht, MapKept.run_getObj_map h3, Result.andThen]
theorem s_delete {t t' kt vt : TypeId} {x i : Operand} (ho : o.op = .call { callee := .builtin .delete, args := #[x, i], argTypes := #[t, t'] }) (ht : P.underlying t = some (.map kt vt)) {u : Value} (hx : aval σ x = .d (.raw u)) {j : Nat} {m m2 : List (D × D)}
    {E : Option (List (D × Nat) × Nat)} (hj : σ j = .hm u kt m E) {k : D} (hi : asD (aval σ i) = some k) (hk : keyFit (P.underlying kt) k = true) (hp : List.Perm m2 (mdel m k)) (h : K (put (put σ j (.hm u kt m2 none)) d (.tup []))) : o.wp P a w (Good P w0 L0 row n K) Q := by
  have hu : a.eval x = u := (aval_d hR hx).raw_inv; obtain ⟨w', O', hrun, hR'⟩ := mapDelete_core (ts := #[t, t']) (ty := o.type) hR rfl ht hj hk (aval_asD hR hi) hp; refine val_step hd hlt hsz hdef (v := .tuple #[]) (w' := w') ?_ (hR'.putPure d (.tup []) _ ⟨[], rfl, rfl⟩) h; simp [execOp, ho, hu, resolve, invoke, builtin, hrun, Result.andThen]
end
section
variable (hd : o.dst = none) (hsz : a.tmps.size = n) (hdef : a.defers = []) (hR : Rel P w0 L0 row w L O σ (tmOf a))
include hd hsz hdef hR
theorem s_deleteN {t t' kt vt : TypeId} {x i : Operand} (ho : o.op = .call { callee := .builtin .delete, args := #[x, i], argTypes := #[t, t'] }) (ht : P.underlying t = some (.map kt vt)) {u : Value} (hx : aval σ x = .d (.raw u)) {j : Nat} {m m2 : List (D × D)}
    {E : Option (List (D × Nat) × Nat)} (hj : σ j = .hm u kt m E) {k : D} (hi : asD (aval σ i) = some k) (hk : keyFit (P.underlying kt) k = true) (hp : List.Perm m2 (mdel m k)) (h : K (put σ j (.hm u kt m2 none))) : o.wp P a w (Good P w0 L0 row n K) Q := by
  have hu : a.eval x = u := (aval_d hR hx).raw_inv; obtain ⟨w', O', hrun, hR'⟩ := mapDelete_core (ts := #[t, t']) (ty := o.type) hR rfl ht hj hk (aval_asD hR hi) hp; unfold Oper.wp; have : (execOp a.eval o).run P w = .ok (.value (.tuple #[])) w' := by
    simp [execOp, ho, hu, resolve, invoke, builtin, hrun, Result.andThen]
  rw [this]; simp only [Oper.upon, hd, Act.put]; exact ⟨L, O', _, hR', hdef, hsz, h⟩
theorem s_mapUpdate {t kt vt : TypeId} {x i y : Operand} (ho : o.op = .mapUpdate t x i y ∨ o.op = .insert t x i y) (ht : P.underlying t = some (.map kt vt)) {u : Value} (hx : aval σ x = .d (.raw u)) {j : Nat} {m m2 : List (D × D)}
    {E : Option (List (D × Nat) × Nat)} (hj : σ j = .hm u kt m E) {k z : D} (hi : asD (aval σ i) = some k) (hk : keyFit (P.underlying kt) k = true) (hy : asD (aval σ y) = some z) (hp : List.Perm m2 (mset m k z)) (h : K (put σ j (.hm u kt m2 none))) :
    o.wp P a w (Good P w0 L0 row n K) Q := by
  have hu : a.eval x = u := (aval_d hR hx).raw_inv; obtain ⟨w', O', hrun, hR'⟩ := mapUpdate_core hR ht hj hk (aval_asD hR hi) (aval_asD hR hy) hp; refine skip_step hd hsz hdef (w' := w') ?_ hR' h; rcases ho with ho | ho <;> simp [execOp, ho, hu, hrun, Result.andThen]
end
theorem stamps_keys {m : List (D × D)} {es : List MapEntry} (h : es.length = m.length) : (stampsOf m es).map (·.1) = m.map (·.1) := by
  unfold stampsOf; rw [← List.unzip_fst, List.unzip_zip_left (by simp [h])]
theorem bornOf_at {u : Option TypeDesc} : ∀ {m : List (D × D)} {es : List MapEntry} {i : Nat} {p : D × D} {e : MapEntry}, (m.map (·.1)).Nodup → (∀ p ∈ m, keyFit u p.1 = true) → m[i]? = some p → es[i]? = some e → bornOf (stampsOf m es) p.1 = e.born
  | [], _, _, _, _, _, _, h, _ => by simp at h
  | _ :: _, [], _, _, _, _, _, _, h => by simp at h
  | q :: m, e' :: es, 0, p, e, _, hf, h1, h2 => by
    simp only [List.getElem?_cons_zero, Option.some.injEq] at h1 h2; subst h1; subst h2; simp [bornOf, stampsOf, keyEq_self (hf q (by simp))]
  | q :: m, e' :: es, i + 1, p, e, hn, hf, h1, h2 => by
    simp only [List.getElem?_cons_succ] at h1 h2; rw [List.map_cons, List.nodup_cons] at hn; have hne : keyEq q.1 p.1 = false := by
      cases he : keyEq q.1 p.1 with
      | false => rfl
      | true => exact absurd (keyEq_eq he ▸ List.mem_map.2 ⟨_, List.mem_of_getElem? h1, rfl⟩) hn.1
    have := bornOf_at (u := u) hn.2 (fun p hp => hf p (List.mem_cons_of_mem _ hp)) h1 h2; simp only [bornOf, stampsOf, List.map_cons, List.zip_cons_cons, List.find?_cons, hne] at this ⊢; exact this
theorem nodup_at {α : Type} {l : List α} (hn : l.Nodup) {i j : Nat} {x : α} (hi : l[i]? = some x) (hj : l[j]? = some x) : i = j := by
  obtain ⟨h1, h2⟩ := List.getElem?_eq_some_iff.1 hi; obtain ⟨h3, h4⟩ := List.getElem?_eq_some_iff.1 hj; rcases Nat.lt_trichotomy i j with h | h | h
  · exact absurd (h2.trans h4.symm) ((List.pairwise_iff_getElem.1 hn) i j h1 h3 h)
  · exact h
  · exact absurd (h4.trans h2.symm) ((List.pairwise_iff_getElem.1 hn) j i h3 h1 h)
section
variable (hd : o.dst = some d) (hlt : d < n) (hsz : a.tmps.size = n) (hdef : a.defers = []) (hR : Rel P w0 L0 row w L O σ (tmOf a))
include hd hlt hsz hdef hR
theorem s_rangeM {t kt vt : TypeId} {x : Operand} (ho : o.op = .range t x) (ht : P.underlying t = some (.map kt vt)) {u : Value} (hx : aval σ x = .d (.raw u)) {j : Nat} {m : List (D × D)} {E : Option (List (D × Nat) × Nat)} (hj : σ j = .hm u kt m E)
    (h : ∀ E, K (put (put σ j (.hm u kt m (some E))) d (.mit u E []))) : o.wp P a w (Good P w0 L0 row n K) Q := by
  have hu : a.eval x = u := (aval_d hR hx).raw_inv; obtain ⟨g, m', es, clk, h1, rfl, h3, h4, h5, h6, h7, h8, h9, h10, h11⟩ := hR.mapT hj; have hR1 := hR.putOwn j (.hm (.map (some g)) kt m (some (stampsOf m' es.toList, clk))) (tmOf a j) (O j) noB (Same.refl w L _) hR.grown (Nat.le_refl _) hR.lok (fun _ h => h.elim) (fun _ _ _ _ h => h)
    (fun q hq => ⟨(hR.olt j q hq).1, (hR.olt j q hq).2, fun i hi e => hi (hR.inj i j q e hq)⟩)
    (show MapT P w L (O j) kt m (some (stampsOf m' es.toList, clk)) (.map (some g)) from ⟨g, m', es, clk, h1, rfl, h3, h4, h5, h6, h7, h8, h9, h10, by simp⟩)
  rw [setv_same] at hR1; have hR2 := hR1.putNew (.mapIter (some g) clk #[] clk) 0 d (.mit (.map (some g)) (stampsOf m' es.toList, clk) []) (.pointer (some ⟨w.heap.size, 0, none⟩)) ⟨w.heap.size, g, rfl, rfl, rfl, heap_alloc_new w _, by simp⟩; refine val_step hd hlt hsz hdef ?_ hR2 (h _); simp [execOp, ho, hu, run_range_map w t kt vt g es clk ht h3, Result.andThen]
theorem s_nextM {t : Nat} (ho : o.op = .next (.tmp t) false) {u : Value} {E : List (D × Nat) × Nat} {seen : List D} (ht : σ t = .mit u E seen) {j : Nat} {kt : TypeId} {m : List (D × D)} (hj : σ j = .hm u kt m (some E))
    (h1 : ∀ k v, (k, v) ∈ m → k ∉ seen → K (put (put σ t (.mit u E (seen ++ [k]))) d (.tup [.d (.bool true), .d k, .d v]))) (h0 : (∀ p ∈ m, p.1 ∈ seen) → K (put (put σ j (.hm u kt m none)) d (.tup [.d (.bool false)]))) :
    o.wp P a w (Good P w0 L0 row n K) Q := by
  obtain ⟨g, m', es, clk, f1, rfl, f3, f4, f5, f6, f7, f8, f9, f10, f11⟩ := hR.mapT hj; have hE := f11 E rfl; subst hE; have hs := hR.slots t; rw [ht] at hs; obtain ⟨r, g', e1, e2, e3, e4, e5⟩ := hs; simp only [Value.map.injEq, Option.some.injEq] at e3; subst e3; simp only at e4 e5; have hn' : (m'.map (·.1)).Nodup := (f5.map _).nodup_iff.2 f7; have hf' : ∀ p ∈ m', keyFit (P.underlying kt) p.1 = true := fun p hp => f8 p (f5.mem_iff.1 hp)
  have hrg := (hR.olt t r e1); have hev : a.eval (.tmp t) = .pointer (some ⟨r, 0, none⟩) := e2; rw [stamps_keys f6.len] at e5; rcases run_next_at (P := P) w o.type r g clk clk _ es clk e4 f3 f10 (Nat.le_refl _) with ⟨hL, hrun⟩ | ⟨e, he, w1, hw1, hrun⟩
  · have hR1 := hR.putOwn j (.hm (.map (some g)) kt m none) (tmOf a j) (O j) noB (Same.refl w L _) hR.grown (Nat.le_refl _) hR.lok (fun _ h => h.elim) (fun _ _ _ _ h => h)
      (fun q hq => ⟨(hR.olt j q hq).1, (hR.olt j q hq).2, fun i hi e => hi (hR.inj i j q e hq)⟩)
      (show MapT P w L (O j) kt m none (.map (some g)) from ⟨g, m', es, clk, f1, rfl, f3, f4, f5, f6, f7, f8, f9, f10, by simp⟩)
    rw [setv_same] at hR1; have hR2 := hR1.putPure d (.tup [.d (.bool false)]) (.tuple #[.bool false]) (by
      simp only [RA, RC, RCs]; exact ⟨[.bool false], rfl, _, [], rfl, RepV.bool, rfl⟩)
    refine val_step hd hlt hsz hdef (v := .tuple #[.bool false]) (w' := w) (by simp [execOp, ho, hev, hrun, Result.andThen]) hR2 (h0 fun p hp => ?_); obtain ⟨i, hi⟩ := List.getElem?_of_mem (f5.mem_iff.2 hp); obtain ⟨en, hen, _⟩ := f6.at_ hi; have hseen := all_seen es _ hL en (List.mem_of_getElem? hen); rw [Array.contains_iff_mem] at hseen; simp only [List.mem_toArray, List.mem_map] at hseen; obtain ⟨k', hk', hb⟩ := hseen; obtain ⟨p', hp', rfl⟩ := List.mem_map.1 (e5 k' hk'); obtain ⟨i', hi'⟩ := List.getElem?_of_mem hp'; obtain ⟨en', hen', _⟩ := f6.at_ hi'; rw [bornOf_at hn' hf' hi' hen'] at hb; have : i' = i := nodup_at f9 (x := en'.born) (by rw [List.getElem?_map, hen']; rfl) (by rw [List.getElem?_map, hen, hb]; rfl); subst this; rw [hi] at hi'; simp only [Option.some.injEq] at hi'; rw [hi']; exact hk'
  · obtain ⟨he1, he2⟩ := mem_left he; obtain ⟨i, hi⟩ := List.getElem?_of_mem he1; obtain ⟨p, hp, g1, g2⟩ := f6.get hi; have hbo := bornOf_at hn' hf' hp hi; have hns : p.1 ∉ seen := fun hs => by
      have : (seen.map (bornOf (stampsOf m' es.toList))).toArray.contains e.born = true := by
        rw [Array.contains_iff_mem]; simp only [List.mem_toArray, List.mem_map]; exact ⟨p.1, hs, hbo⟩
      rw [this] at he2; cases he2
    have hRw : Rel P w0 L0 row w1 L O σ (tmOf a) := by
      rcases hw1 with rfl | rfl
      · exact hR
      · exact hR.drew
    have hw1h : w1.heap = w.heap := by rcases hw1 with rfl | rfl <;> rfl
    have hset := MapKept.heap_set (w := w1) (o' := .mapIter (some g) clk ((seen.map (bornOf (stampsOf m' es.toList))).toArray.push e.born) clk) (r := r) (by rw [hw1h]; exact e4); have hLr : ∀ b q, L b q → b ≠ r ∨ w1.cell? ⟨b, q, none⟩ = none := fun b q _ => by
      by_cases hb : b = r
      · subst hb; right; simp [World.cell?, hw1h, e4]
      · exact .inl hb
    have hS : Same w1 L (ChangeMaps.setBlock w1 r (.mapIter (some g) clk ((seen.map (bornOf (stampsOf m' es.toList))).toArray.push e.born) clk)) L (optB (some r)) := by
      refine ⟨fun b q hq => ⟨hq, fun v hv => ?_⟩, fun b _ hne => hset.2 b (fun e => hne (show some r = some b by rw [e])), fun _ _ _ _ => Iff.rfl⟩; rcases hLr b q hq with hne | hne
      · simp only [World.cell?] at hv ⊢
        show (match (w1.heap.setIfInBounds r _)[b]? with | some (.cells c _ _) => _ | _ => none) = some v
        rw [hset.2 b hne]; exact hv
      · rw [hne] at hv; cases hv
    have hR2 := hRw.putOwn (w' := ChangeMaps.setBlock w1 r (.mapIter (some g) clk ((seen.map (bornOf (stampsOf m' es.toList))).toArray.push e.born) clk)) t (.mit (.map (some g)) (stampsOf m' es.toList, clk) (seen ++ [p.1])) (tmOf a t) (O t) (optB (some r)) hS
      (hRw.grown.then ⟨rfl, rfl, rfl, by simp [ChangeMaps.setBlock], fun k hk hne => hset.2 k (fun e => hne (show some r = some k by rw [e])), Nat.le_refl _⟩ (fun q hq => by obtain rfl : r = q := (by simpa [optB] using hq); exact hrg.2)) (by simp [ChangeMaps.setBlock])
      (fun b q hq => by simpa [ChangeMaps.setBlock] using hRw.lok b q hq) (fun q hq => by obtain rfl : r = q := (by simpa [optB] using hq); exact hrg.2) (fun i q hi hO e => hi (hR.inj i t q hO (by rw [e1]; exact e)))
      (fun q hq => ⟨by simpa [ChangeMaps.setBlock] using (hRw.olt t q hq).1, (hRw.olt t q hq).2, fun i hi e => hi (hR.inj i t q e hq)⟩)
      (by
        refine ⟨r, g, e1, e2, rfl, ?_, ?_⟩
        · show (w1.heap.setIfInBounds r _)[r]? = _
          rw [hset.1]; simp [hbo]
        · intro k hk; rw [stamps_keys f6.len]; rcases List.mem_append.1 hk with hk | hk
          · exact e5 k hk
          · rw [List.mem_singleton.1 hk]; exact List.mem_map.2 ⟨p, List.mem_of_getElem? hp, rfl⟩)
    rw [setv_same] at hR2; refine val_step hd hlt hsz hdef (v := .tuple #[.bool true, e.key, e.val]) ?_ (hR2.putPure d (.tup [.d (.bool true), .d p.1, .d p.2]) _ ?_) (h1 p.1 p.2 (f5.mem_iff.1 (List.mem_of_getElem? hp)) hns)
    · simp [execOp, ho, hev, hrun, Result.andThen]
    · simp only [RA, RC, RCs]; have hx1 : Ext w L (ChangeMaps.setBlock w1 r (.mapIter (some g) clk ((seen.map (bornOf (stampsOf m' es.toList))).toArray.push e.born) clk)) L := fun b q hq => ⟨hq, fun v hv => (hS.ext b q hq).2 v (by
        have : w1.cell? ⟨b, q, none⟩ = w.cell? ⟨b, q, none⟩ := (by simp [World.cell?, hw1h]); rw [this]; exact hv)⟩
      exact ⟨[.bool true, e.key, e.val], rfl, _, _, rfl, RepV.bool, _, _, rfl, g1.mono hx1, _, _, rfl, g2.mono hx1, rfl⟩
theorem s_entryM {t : Nat} (ho : o.op = .entry (.tmp t)) {u : Value} {E : List (D × Nat) × Nat} {seen : List D} (ht : σ t = .mit u E seen) {j : Nat} {kt : TypeId} {m : List (D × D)} (hj : σ j = .hm u kt m (some E)) {s2 : List D} {k v : D} (hs : seen = s2 ++ [k]) (hm : (k, v) ∈ m)
    (h : K (put σ d (.tup [.d k, .d v]))) : o.wp P a w (Good P w0 L0 row n K) Q := by
  obtain ⟨g, m', es, clk, f1, rfl, f3, f4, f5, f6, f7, f8, f9, f10, f11⟩ := hR.mapT hj; have hE := f11 E rfl; subst hE; have hst := hR.slots t; rw [ht] at hst; obtain ⟨r, g', e1, e2, e3, e4, e5⟩ := hst; simp only [Value.map.injEq, Option.some.injEq] at e3; subst e3; subst hs; simp only at e4; have hn' : (m'.map (·.1)).Nodup := (f5.map _).nodup_iff.2 f7; have hf' : ∀ p ∈ m', keyFit (P.underlying kt) p.1 = true := fun p hp => f8 p (f5.mem_iff.1 hp)
  obtain ⟨i, hi⟩ := List.getElem?_of_mem (f5.mem_iff.2 hm); obtain ⟨e, he, g1, g2⟩ := f6.at_ hi; have hbo := bornOf_at hn' hf' hi he; simp only at hbo; have hev : a.eval (.tmp t) = .pointer (some ⟨r, 0, none⟩) := e2; have hseen : ((s2 ++ [k]).map (bornOf (stampsOf m' es.toList))).toArray = ((s2.map (bornOf (stampsOf m' es.toList))).toArray).push e.born := by
    apply Array.ext'
    simp [hbo]
  rw [hseen] at e4; have hrun := run_entry_at (P := P) w r g clk _ es clk e e4 f3 (List.mem_of_getElem? he) f9; refine pure_step hd hlt hsz hdef hR (x := .tup [.d k, .d v]) (v := .tuple #[e.key, e.val]) ?_ (RepV.tup2 g1 g2) h; simp [execOp, ho, hev, hrun, Result.andThen]
end
def putR (σ : St) (d : Option Nat) (r : AV) : St := match d with
  | some d => put σ d r
  | none => σ
theorem callG_core (hlt : ∀ d, o.dst = some d → d < n) (hsz : a.tmps.size = n) (hdef : a.defers = []) (hR : Rel P w0 L0 row w L O σ (tmOf a)) {g : FuncId} {vals : List Value} {xa : List AV} (hexec : (execOp a.eval o).run P w = .ok (.enter g vals.toArray) w) (hvals : RCs P w L none xa vals)
    (ks : List Nat) (hks : ∀ k ∈ ks, isH (σ k) = true) (hnd : ks.Nodup) (b : Nat) {Post : AV → List AV → Prop} (hfn : CtrG P g xa (ks.map σ) Post)
    (h : ∀ r hs', Post r hs' → K (putH (putR (takeH σ ks) o.dst r) ks b hs')) :
    o.wp P a w (Good P w0 L0 row n K) Q := by
  unfold Oper.wp; rw [hexec, Oper.upon_enter]; obtain ⟨t1, t2, O1, t3, t4, t5⟩ := hR.takeH ks hks hnd; refine (hfn.2 w L _ hR.lok hR.gl hvals t1 t2).mono ?_; rintro e w' ⟨v, L', og, r, hs', rfl, hgr, hlok', hold', hog', hap, hrc, hrh, hpost⟩
  show Good P w0 L0 row n K (a.put o.dst v) w'
  have hS : Same w L w' L' (fun b => some b ∈ (ks.map σ).map hblk) := by
    refine ⟨fun b q hq => ?_, fun b hb hne => hgr.block b hb hne, fun b q hb hne => hold' b q hb hne⟩; have hb := hR.lok b q hq; have hbj : some b ∉ (ks.map σ).map hblk := fun hb => (t5 b hb).2.2.1 q hq
    refine ⟨(hold' b q hb hbj).2 hq, fun u hu => ?_⟩; simp only [World.cell?] at hu ⊢; rw [hgr.block b hb hbj]; exact hu
  have hfresh : ∀ g, some g ∈ og :: hs'.map hblk → g < w'.heap.size ∧ (w0.heap.size ≤ g ∨ row g) ∧ ∀ i, O1 i ≠ some g := fun g hg => by
    have := hog' g hg; refine ⟨this.1, ?_, fun i hi => ?_⟩
    · rcases this.2 with h9 | h9
      · exact .inl (Nat.le_trans hR.grown.size h9)
      · exact (t5 g h9).1
    · rcases this.2 with h9 | h9
      · have := (t3.olt i g hi).1; omega
      · exact (t5 g h9).2.2.2.1 i hi
  have hmid : ∃ O2, Rel P w0 L0 row w' L' O2 (putR (takeH σ ks) o.dst r) (tmOf (a.put o.dst v)) ∧ ∀ g, some g ∈ hs'.map hblk → ∀ i, O2 i ≠ some g := by
    cases hd : o.dst with
    | some d =>
      have h1 := t3.putOwn d r v og _ hS (hR.grown.then hgr (fun b hb => (t5 b hb).1)) hgr.size hlok' (fun b hb => (t5 b hb).1) (fun i b _ hi hb => (t5 b hb).2.2.2.1 i hi) (fun g hg => by
        have := hfresh g (by simp [hg]); exact ⟨this.1, this.2.1, fun i _ => this.2.2 i⟩) (RC.toRA hrc _ _ _ _)
      refine ⟨_, by rw [tmOf_put (show d < a.tmps.size by rw [hsz]; exact hlt d hd)]; exact h1, fun g hg i hi => ?_⟩; simp only [setv] at hi; split at hi
      · exact hap.1 g hi hg
      · exact (hfresh g (by simp only [List.mem_cons]; exact .inr hg)).2.2 i hi
    | none =>
      refine ⟨O1, ⟨hR.grown.then hgr (fun b hb => (t5 b hb).1), hlok', t3.gl.mono hS.ext, fun b q hb hr => ?_, fun i => ?_, t3.inj, fun i g hi => ⟨Nat.lt_of_lt_of_le (t3.olt i g hi).1 hgr.size, (t3.olt i g hi).2⟩⟩, fun g hg i => (hfresh g (by simp only [List.mem_cons]; exact .inr hg)).2.2 i⟩
      · have hb' : b < w.heap.size := Nat.lt_of_lt_of_le hb t3.grown.size; refine (hS.lim b q hb' (fun e => ?_)).trans (t3.old b q hb hr); rcases (t5 b e).1 with h1 | h1
        · omega
        · exact hr h1
      · exact RA.step (og := O1 i) hS (fun g hg => ⟨(t3.olt i g hg).1, fun hm => (t5 g hm).2.2.2.1 i hg⟩) (t3.slots i)
  obtain ⟨O2, h1, h1b⟩ := hmid; obtain ⟨O3, h2⟩ := Rel.putNames hs' ks b h1 hrh hap.2 (fun g hg => by
    have := hfresh g (by simp only [List.mem_cons]; exact .inr hg); exact ⟨this.1, this.2.1, h1b g hg⟩)
  refine ⟨L', O3, _, h2, ?_, ?_, h r hs' hpost⟩
  · cases o.dst <;> simpa [Act.put] using hdef
  · cases o.dst <;> simpa [Act.put] using hsz
theorem s_callGB (hlt : ∀ d, o.dst = some d → d < n) (hsz : a.tmps.size = n) (hdef : a.defers = []) (hR : Rel P w0 L0 row w L O σ (tmOf a)) {f : Operand} {args : Array Operand} {ts : Array TypeId} (ho : o.op = .call { callee := .value f, args, argTypes := ts }) {g : FuncId} {first : List D} (hf : aval σ f = .d (.bnd g first))
    {xa : List AV} (ha : plainA σ args.toList = some xa) (ks : List Nat) (hks : ∀ k ∈ ks, isH (σ k) = true) (hnd : ks.Nodup) (b : Nat) {Post : AV → List AV → Prop} (hfn : CtrG P g (first.map .d ++ xa) (ks.map σ) Post)
    (h : ∀ r hs', Post r hs' → K (putH (putR (takeH σ ks) o.dst r) ks b hs')) :
    o.wp P a w (Good P w0 L0 row n K) Q := by
  obtain ⟨vs, hvs, hfv⟩ := bnd_inv (P := P) (aval_d hR hf); have hexec : (execOp a.eval o).run P w = .ok (.enter g (vs.toArray ++ args.map a.eval)) w := by
    simp only [execOp, ho, resolve, hfv, Deferred.ofValue, Sem.run_bind, Sem.run_pure, Result.andThen_ok, invoke, Array.append_empty, hfn.1 _ w]
  have hvals : (vs.toArray ++ args.map a.eval) = (vs ++ args.toList.map a.eval).toArray := by
    apply Array.ext'; simp
  rw [hvals] at hexec; exact callG_core hlt hsz hdef hR hexec (RCs.append hvs (plain_ok hR _ xa ha)) ks hks hnd b hfn h
theorem s_callGN (hlt : ∀ d, o.dst = some d → d < n) (hsz : a.tmps.size = n) (hdef : a.defers = []) (hR : Rel P w0 L0 row w L O σ (tmOf a)) {f : Operand} {args : Array Operand} {ts : Array TypeId} (ho : o.op = .call { callee := .value f, args, argTypes := ts }) {g : FuncId} {caps : List D} (hf : aval σ f = .d (.clo g caps)) (hc : ∀ c ∈ caps, c.isAgg = false)
    {xa : List AV} (ha : plainA σ args.toList = some xa) (ks : List Nat) (hks : ∀ k ∈ ks, isH (σ k) = true) (hnd : ks.Nodup) (b : Nat) {Post : AV → List AV → Prop} (hfn : CtrG P g (xa ++ caps.map .d) (ks.map σ) Post)
    (h : ∀ r hs', Post r hs' → K (putH (putR (takeH σ ks) o.dst r) ks b hs')) :
    o.wp P a w (Good P w0 L0 row n K) Q := by
  obtain ⟨css, hcs, hfv⟩ := clo_inv (aval_d hR hf); have hexec : (execOp a.eval o).run P w = .ok (.enter g (args.map a.eval ++ css.flatten.toArray)) w := by
    simp only [execOp, ho, resolve, hfv, Deferred.ofValue, Sem.run_bind, Sem.run_pure, Result.andThen_ok, invoke, Array.empty_append, hfn.1 _ w]
  have hvals : (args.map a.eval ++ css.flatten.toArray) = (args.toList.map a.eval ++ css.flatten).toArray := by
    apply Array.ext'; simp
  rw [hvals] at hexec; exact callG_core hlt hsz hdef hR hexec (RCs.append (plain_ok hR _ xa ha) (caps_vals hcs hc none)) ks hks hnd b hfn h
def LookK (P : Program) (t : TypeId) (u : Value) (k : D) (c : Bool) (σ : St) (C : AV → Prop) : Prop :=
  (∃ j kt vt z m E, 1000000 ≤ j ∧ P.underlying t = some (.map kt vt) ∧ σ j = .hm u kt m E ∧ keyFit (P.underlying kt) k = true ∧ zeroD P vt = some z ∧ C (lookR c z (mget m k))) ∨
    (u = .map none ∧ ∃ kt vt z, P.underlying t = some (.map kt vt) ∧ keyFit (P.underlying kt) k = true ∧ zeroD P vt = some z ∧ C (lookR c z none))
def LenK (P : Program) (t : TypeId) (u : Value) (σ : St) (C : AV → Prop) : Prop :=
  ∃ j kt vt kt' m E, 1000000 ≤ j ∧ P.underlying t = some (.map kt vt) ∧ σ j = .hm u kt' m E ∧ C (.d (.int .i64 ((m : List (D × D)).length : Nat)))
def MakeK (σ : St) (d : Nat) (K : St → Prop) : Prop := ∃ (kt : TypeId) (h : Nat), σ h = .undef ∧ ∀ g, K (put (put σ h (.hm (.map (some g)) kt [] none)) d (.d (.raw (.map (some g)))))
def UpdK (P : Program) (t : TypeId) (u : Value) (k z : D) (σ : St) (K : St → Prop) : Prop :=
  ∃ j kt vt m m2 E, P.underlying t = some (.map kt vt) ∧ σ j = .hm u kt m E ∧ keyFit (P.underlying kt) k = true ∧ List.Perm m2 (mset m k z) ∧ K (put σ j (.hm u kt m2 none))
def DelK (P : Program) (t : TypeId) (u : Value) (k : D) (σ : St) (K : St → Prop) : Prop :=
  ∃ j kt vt m m2 E, P.underlying t = some (.map kt vt) ∧ σ j = .hm u kt m E ∧ keyFit (P.underlying kt) k = true ∧ List.Perm m2 (mdel m k) ∧ K (put σ j (.hm u kt m2 none))
def RngK (P : Program) (t : TypeId) (u : Value) (σ : St) (d : Nat) (K : St → Prop) : Prop :=
  ∃ j kt vt m E, P.underlying t = some (.map kt vt) ∧ σ j = .hm u kt m E ∧ ∀ E', K (put (put σ j (.hm u kt m (some E'))) d (.mit u E' []))
def NxtK (t : Nat) (u : Value) (E : List (D × Nat) × Nat) (seen : List D) (σ : St) (d : Nat) (K : St → Prop) : Prop :=
  ∃ (j : Nat) (kt : TypeId) (m : List (D × D)), σ j = .hm u kt m (some E) ∧ (∀ k v, (k, v) ∈ m → k ∉ seen → K (put (put σ t (.mit u E (seen ++ [k]))) d (.tup [.d (.bool true), .d k, .d v]))) ∧
    ((∀ p ∈ m, p.1 ∈ seen) → K (put (put σ j (.hm u kt m none)) d (.tup [.d (.bool false)])))
def EntK (u : Value) (E : List (D × Nat) × Nat) (seen : List D) (σ : St) (d : Nat) (K : St → Prop) : Prop :=
  ∃ (j : Nat) (kt : TypeId) (m : List (D × D)) (s2 : List D) (k v : D), σ j = .hm u kt m (some E) ∧ seen = s2 ++ [k] ∧ (k, v) ∈ m ∧ K (put σ d (.tup [.d k, .d v]))
def GivO (P : Program) (g : FuncId) (args : List AV) (σ : St) (d : Option Nat) (K : St → Prop) : Prop :=
  ∃ ks b Post, (∀ k ∈ ks, isH (σ k) = true) ∧ ks.Nodup ∧ CtrG P g args (ks.map σ) Post ∧ ∀ r hs', Post r hs' → K (putH (putR (takeH σ ks) d r) ks b hs')
end Go.Vw
namespace Go.Vw
open Go.RowKit Go.Proofs
def bindO {α : Type} (x : Option α) (f : α → Prop) : Prop :=
  match x with
  | some y => f y
  | none => False
@[simp] theorem bindO_some {α : Type} (y : α) (f : α → Prop) : bindO (some y) f = f y := rfl
@[simp] theorem bindO_none {α : Type} (f : α → Prop) : bindO none f = False := rfl
theorem bindO_ok {α : Type} {x : Option α} {f : α → Prop} (h : bindO x f) : ∃ y, x = some y ∧ f y := by
  cases x with
  | none => exact h.elim
  | some y => exact ⟨y, rfl, h⟩
def sliceE (P : Program) (t : TypeId) : Option TypeId :=
  match P.underlying t with
  | some (.slice e) => if e < 100000 then some e else none
  | _ => none
theorem sliceE_lt {P : Program} {t e : TypeId} (h : sliceE P t = some e) : e < 100000 := by
  unfold sliceE at h; split at h
  · split at h
    · simp only [Option.some.injEq] at h; subst h; assumption
    · cases h
  · cases h
theorem sliceE_ok {P : Program} {t e : TypeId} (h : sliceE P t = some e) : P.underlying t = some (.slice e) := by
  unfold sliceE at h; split at h
  · rename_i e' hu
    split at h
    · simp only [Option.some.injEq] at h; subst h; exact hu
    · cases h
  · cases h
def unbytes : List D → Option Str
  | [] => some []
  | .int .u8 m :: l => (match unbytes l with
    | some s => if 0 ≤ m ∧ m < 256 then some (UInt8.ofNat m.toNat :: s) else none
    | none => none)
  | _ :: _ => none
theorem unbytes_ok : ∀ {l : List D} {s : Str}, unbytes l = some s → l = s.map fun c => .int .u8 c.toNat
  | [], s, h => by simp only [unbytes, Option.some.injEq] at h; subst h; rfl
  | .int .u8 m :: l, s, h => by
    simp only [unbytes] at h; split at h
    · rename_i s' hs
      split at h
      · rename_i hm
        simp only [Option.some.injEq] at h; subst h; simp only [List.map_cons, unbytes_ok hs]; congr 2
        have : m.toNat % 256 = m.toNat := (by omega); simp [UInt8.toNat_ofNat', this]; omega
      · cases h
    · cases h
  | .int .i8 _ :: _, _, h => by simp [unbytes] at h
  | .int .i16 _ :: _, _, h => by simp [unbytes] at h
  | .int .i32 _ :: _, _, h => by simp [unbytes] at h
  | .int .i64 _ :: _, _, h => by simp [unbytes] at h
  | .int .u16 _ :: _, _, h => by simp [unbytes] at h
  | .int .u32 _ :: _, _, h => by simp [unbytes] at h
  | .int .u64 _ :: _, _, h => by simp [unbytes] at h
  | .bool _ :: _, _, h => by simp [unbytes] at h
  | .str _ :: _, _, h => by simp [unbytes] at h
  | .sl _ :: _, _, h => by simp [unbytes] at h
  | .agg _ :: _, _, h => by simp [unbytes] at h
  | .ref _ :: _, _, h => by simp [unbytes] at h
  | .clo _ _ :: _, _, h => by simp [unbytes] at h
  | .bnd _ _ :: _, _, h => by simp [unbytes] at h
  | .nilp :: _, _, h => by simp [unbytes] at h
  | .raw _ :: _, _, h => by simp [unbytes] at h
@[simp] theorem unbytes_bytesD (s : Str) : unbytes (bytesD s) = some s := by
  induction s with
  | nil => rfl
  | cons c s ih =>
    have hc := c.toNat_lt; have e : unbytes (bytesD (c :: s)) = (match unbytes (bytesD s) with
      | some s => if (0 : Int) ≤ c.toNat ∧ (c.toNat : Int) < 256 then some (UInt8.ofNat (c.toNat : Int).toNat :: s) else none
      | none => none) := rfl
    rw [e, ih]; have h2 : (0 : Int) ≤ c.toNat ∧ (c.toNat : Int) < 256 := (by omega); simp only [h2, and_self, if_true, Int.toNat_natCast, UInt8.ofNat_toNat]
def CallK (P : Program) (g : FuncId) (args : List AV) (σ : St) (d : Nat) (b : Bool) (K : St → Prop) : Prop := ∃ r, Ctr P g args r ∧ K (put σ d (demote b r))
def LendK (P : Program) (g : FuncId) (args : List AV) (σ : St) (d : Nat) (K : St → Prop) : Prop := ∃ y, flatD y = true ∧ Ctr P g args (.d y) ∧ K (put σ d (.d y))
def InK (P : Program) (g : FuncId) (x : AV) (rest : List AV) (σ : St) (d : Nat) (K : St → Prop) : Prop :=
  match x with
  | .bor j true e l => ∃ l', CtrI P g e l rest l' ∧ K (put (put σ j (.own true e l')) d (.tup []))
  | .d (.raw u) => ∃ h e l l', σ h = .hs u e l ∧ CtrI P g e l rest l' ∧ K (put (put σ h (.hs u e l')) d (.tup []))
  | _ => False
def NameK (P : Program) (g : FuncId) (x : AV) (rest : List AV) (σ : St) (d : Nat) (K : St → Prop) : Prop :=
  match x with
  | .d (.raw u) => ∃ h e l e' l', σ h = .hs u e l ∧ Ctr P g (.own true e l :: rest) (.own true e' l') ∧ ∀ A c, K (put (put σ h (.hs (.slice A l'.length c) e' l')) d (.d (.raw (.slice A l'.length c))))
  | _ => False
def GivK (P : Program) (g : FuncId) (args : List AV) (σ : St) (d : Nat) (K : St → Prop) : Prop :=
  ∃ ks b Post, (∀ k ∈ ks, isH (σ k) = true) ∧ ks.Nodup ∧ CtrG P g args (ks.map σ) Post ∧ ∀ r hs', Post r hs' → K (putH (put (takeH σ ks) d r) ks b hs')
def RawSq (u : Value) (σ : St) (C : List D → Prop) : Prop := ∃ j e l, σ j = .hs u e l ∧ C l
def seqK (v : AV) (σ : St) (C : List D → Prop) : Prop := match v with
  | .d (.raw u) => RawSq u σ C
  | v => bindO (seqOf v) C
theorem seqK_of {v : AV} {σ : St} {C : List D → Prop} {ds : List D} (h : seqOf v = some ds) : seqK v σ C = C ds := by
  unfold seqK; split
  · simp [seqOf] at h
  · rw [h]; rfl
def AppK (e : TypeId) (z : Nat × Nat) (ds : List D) (u : Value) (σ : St) (d : Nat) (K : St → Prop) : Prop :=
  ∃ h l, (σ h = .hs u e l ∨ (u = .slice none 0 0 ∧ l = [] ∧ σ h = .undef)) ∧ (∀ u ∈ ds, width u = z.1) ∧ (l.length + ds.length) * z.2 ≤ 140737488355328 ∧ l.length + ds.length ≤ 140737488355328 ∧
    ∀ A c, K (put (put σ h (.hs (.slice A (l ++ ds).length c) e (l ++ ds))) d (.d (.raw (.slice A (l ++ ds).length c))))
def AppSK (e : TypeId) (st : Str) (u : Value) (σ : St) (d : Nat) (K : St → Prop) : Prop :=
  ∃ h l, (σ h = .hs u e l ∨ (u = .slice none 0 0 ∧ l = [] ∧ σ h = .undef)) ∧ l.length + List.length st ≤ 140737488355328 ∧
    ∀ A c, K (put (put σ h (.hs (.slice A (l ++ bytesD st).length c) e (l ++ bytesD st))) d (.d (.raw (.slice A (l ++ bytesD st).length c))))
def nilN (σ : St) : Option (Nat × TypeId) → St
  | none => σ
  | some (k, e) => put σ k (.hs (.slice none 0 0) e [])
def nilOk (P : Program) (σ : St) : Option (Nat × TypeId) → Prop
  | none => True
  | some (k, e) => σ k = .undef ∧ (P.info? (ety e)).isSome = true
def NewK (P : Program) (e : TypeId) (z : D) (σ : St) (d : Nat) (K : St → Prop) : Prop :=
  ∃ h nk, nilOk P σ nk ∧ nilN σ nk h = .undef ∧ ∀ g, K (put (put (nilN σ nk) h (.hb (.pointer (some ⟨g, 0, none⟩)) e z)) d (.d (.raw (.pointer (some ⟨g, 0, none⟩)))))
def NewB (e : TypeId) (z : D) (σ : St) (d : Nat) (K : St → Prop) : Prop :=
  ∃ h, σ h = .undef ∧ ∀ g, K (put (put σ h (.hb (.pointer (some ⟨g, 0, none⟩)) e z)) d (.d (.raw (.pointer (some ⟨g, 0, none⟩)))))
theorem Rel.nilN {P : Program} {w0 w : World} {L0 L : Nat → Nat → Prop} {row : Nat → Prop} {O : Nat → Option Nat} {σ : St} {tm : Nat → Value} (h : Rel P w0 L0 row w L O σ tm) : ∀ {nk : Option (Nat × TypeId)}, nilOk P σ nk → ∃ O', Rel P w0 L0 row w L O' (nilN σ nk) tm
  | none, _ => ⟨O, h⟩
  | some (k, e), hk => by
    obtain ⟨_, hi⟩ := hk; obtain ⟨i, hi⟩ := Option.isSome_iff_exists.1 hi; refine ⟨_, h.putName k (.hs (.slice none 0 0) e []) ⟨rfl, ?_⟩ (fun g hg => by simp [hblk, Value.ownBlock] at hg)⟩; refine ⟨[], i.size, by rw [hi]; rfl, by simp [RepL], by simp, ⟨by simp, .inl ⟨rfl, rfl⟩⟩, fun g hg => by simp [Value.ownBlock] at hg⟩
def RawIx (e : TypeId) (m : Nat) (u : Value) (σ : St) (C : AV → Prop) : Prop := ∃ j e' l, 1000000 ≤ j ∧ σ j = .hs u e' l ∧ ety e' = e ∧ m < l.length ∧ C (.eadr j m [])
def RawFd (P : Program) (s f : Nat) (u : Value) (σ : St) (C : AV → Prop) : Prop := ∃ j e ds, 1000000 ≤ j ∧ σ j = .hb u e (.agg ds) ∧ f < ds.length ∧ fieldOff P s f = some (widths (ds.take f)) ∧ C (.adr j [f])
def RawCut (e : TypeId) (i : Nat) (u : Value) (σ : St) (d : Nat) (K : St → Prop) : Prop := ∃ j e' l, σ j = .hs u e' l ∧ ety e' = e ∧ i ≤ l.length ∧ K (put (put σ j .undef) d (.own true e' (l.take i)))
def ArrK (P : Program) (t : TypeId) (ds : List D) (m : Int) (C : Nat → Prop) : Prop :=
  ∃ n e sz, P.underlying t = some (.array n e) ∧ (P.info? e).map (·.size) = some sz ∧ ds.length = n ∧ (∀ y ∈ ds, width y = sz) ∧ 0 ≤ m ∧ m.toNat < n ∧ C m.toNat
def FrzL (y : D) (σ : St) (d : Nat) (K : St → Prop) : Prop := ∃ ks y', (∀ k ∈ ks, isH (σ k) = true) ∧ ks.Nodup ∧ Fz (ks.map σ) y y' ∧ K (put (takeH σ ks) d (.d y'))
def NamK (t : Nat) (e : TypeId) (l : List D) (σ : St) (d : Nat) (K : St → Prop) : Prop :=
  ∃ h, h ≠ t ∧ σ h = .undef ∧ ∀ A c, K (put (put (put σ t (.d (.raw (.slice A l.length c)))) h (.hs (.slice A l.length c) e l)) d (.d (.raw (.slice A l.length c))))
def UnK (t : Nat) (σ : St) (d : Nat) (K : St → Prop) : Prop :=
  ∃ u h e l, h ≠ t ∧ σ t = .d (.raw u) ∧ σ h = .hs u e l ∧ K (put (put (put σ h .undef) t (.own true e l)) d (.bor t true e l))
def In2K (P : Program) (g : FuncId) (x : AV) (mid : List AV) (z : AV) (σ : St) (d : Nat) (b : Bool) (K : St → Prop) : Prop :=
  match x, z with
  | .bor j true e l, .bor j2 true e2 l2 => j ≠ j2 ∧ ∃ r, Ctr2 P g e l mid e2 l2 r ∧ K (put (put (put σ j .undef) j2 .undef) d (demote b r))
  | _, _ => False
section
variable (P : Program) (F : Nat → Bool)
def vCall (c : Call) (d : Nat) (K : St → Prop) (σ : St) : Prop :=
  match c.callee, c.args.toList, c.argTypes.toList with
  | .builtin .len, [x], [t] => (match P.underlying t with
    | some (.slice _) => (match aval σ x with
      | .sub j lo => bindO (ownOf (σ j)) fun q => K (put σ d (.d (.int .i64 ((q.2.length - lo : Nat) : Int))))
      | y => bindO (lenOf y) fun l => K (put σ d (.d (.int .i64 l))))
    | some .string => (match aval σ x with
      | .d (.str s) => K (put σ d (.d (.int .i64 s.length)))
      | _ => False)
    | some (.map _ _) => (match aval σ x with
      | .d (.raw u) => LenK P t u σ fun y => K (put σ d y)
      | _ => False)
    | _ => False)
  | .builtin .delete, [x, i], [t, _] => (match aval σ x with
    | .d (.raw u) => bindO (asD (aval σ i)) fun k => DelK P t u k σ fun σ' => K (put σ' d (.tup []))
    | _ => False)
  | .builtin .append, [x, y], [t, t'] => if t' = t then bindO (sliceE P t) fun e => (match aval σ x with
    | .bor j m e' l => e' = e ∧ bindO (esz P e) fun z => seqK (aval σ y) σ fun ds => (∀ u ∈ ds, width u = z.1) ∧ (l.length + ds.length) * z.2 ≤ 140737488355328 ∧ l.length + ds.length ≤ 140737488355328 ∧
        K (put (put σ j (left m l)) d (.own m e (l ++ ds)))
    | .d (.raw u) => bindO (esz P e) fun z => bindO (seqOf (aval σ y)) fun ds => AppK e z ds u σ d K
    | .full l => bindO (esz P e) fun z => bindO (seqOf (aval σ y)) fun ds => (∀ u ∈ l, width u = z.1) ∧ (∀ u ∈ ds, width u = z.1) ∧ (l.length + ds.length) * z.2 ≤ 140737488355328 ∧ l.length + ds.length ≤ 140737488355328 ∧ K (put σ d (.d (.sl (l ++ ds))))
    | _ => False)
    else P.underlying t' = some .string ∧ bindO (sliceE P t) fun e => esz P e = some (1, 1) ∧ (match aval σ x, aval σ y with
    | .bor j m e' l, .d (.str st) => e' = e ∧ l.length + List.length st ≤ 140737488355328 ∧ K (put (put σ j (left m l)) d (.own m e (l ++ bytesD st)))
    | .d (.raw u), .d (.str st) => AppSK e st u σ d K
    | _, _ => False)
  | .builtin .min, [x, y], [t, _] => (match P.underlying t, aval σ x, aval σ y with
    | some (.int k), .d (.int k' p), .d (.int _ q) => k' = k ∧ K (put σ d (.d (.int k (if q < p then q else p))))
    | _, _, _ => False)
  | .builtin .max, [x, y], [t, _] => (match P.underlying t, aval σ x, aval σ y with
    | some (.int k), .d (.int k' p), .d (.int _ q) => k' = k ∧ K (put σ d (.d (.int k (if p < q then q else p))))
    | _, _, _ => False)
  | .builtin .clear, [x], [t] => bindO (sliceE P t) fun e => (match aval σ x with
    | .sub j lo => (match σ j with
      | .own true e' l => ety e' = e ∧ bindO (zeroD P e) fun z => szOf P e = some (width z) ∧ K (put (put σ j (.own true e' (l.take lo ++ List.replicate (l.length - lo) z))) d (.tup []))
      | _ => False)
    | _ => False)
  | .value f, xs, _ => (match aval σ f with
    | .d (.clo g caps) => (caps.all fun c => !c.isAgg) = true ∧
      if F (d + 2000000) then bindO (lendsA σ xs) fun xa => LendK P g (xa ++ caps.map .d) σ d K
      else if F (d + 3000000) then (match xs with
        | x :: ys => bindO (plainA σ ys) fun xa => InK P g (aval σ x) (xa ++ caps.map .d) σ d K
        | [] => False)
      else if F (d + 4000000) then (match xs with
        | x :: ys => bindO (plainA σ ys) fun xa => NameK P g (aval σ x) (xa ++ caps.map .d) σ d K
        | [] => False)
      else if F (d + 5000000) then bindO (plainA σ xs) fun xa => GivK P g (xa ++ caps.map .d) σ d K
      else if F (d + 10000000) then bindO (rawsA σ xs) fun xa => CallK P g (xa ++ caps.map .d) σ d (F d) K
      else if F (d + 12000000) then caps = [] ∧ (match xs with
        | [x, y, z] => bindO (plainA σ [y]) fun xa => In2K P g (aval σ x) xa (aval σ z) σ d (F d) K
        | _ => False)
      else (eaten σ xs).length ≤ 1 ∧ bindO (argsA σ xs) fun xa => CallK P g (xa ++ caps.map .d) (eat σ (eaten σ xs)) d (F d) K
    | .d (.bnd g first) => if F (d + 5000000) then bindO (plainA σ xs) fun xa => GivO P g (first.map .d ++ xa) σ (some d) K else eaten σ xs = [] ∧ bindO (argsA σ xs) fun xa => CallK P g (first.map .d ++ xa) σ d (F d) K
    | _ => False)
  | _, _, _ => False
def vMove (x : Operand) (ty : TypeId) (asg : Bool) (d : Nat) (K : St → Prop) (σ : St) : Prop :=
  match x with
  | .tmp t => (match σ t with
    | .own m e l => if asg then K (put (put σ t .undef) d (.own m e l)) else if F (d + 23000000) then K (put (put σ t .undef) d (.own m e l)) else if F (d + 21000000) then m = true ∧ NamK t e l σ d K else if F (d + 6000000) then m = true ∧ K (put (put σ t (.own false e l)) d (.bor t false e l)) else K (put σ d (.bor t m e l))
    | .tup l => K (put (put σ t .undef) d (.tup l))
    | _ => if F (d + 22000000) then UnK t σ d K else K (put σ d (aval σ x)))
  | .const (.slice none 0 0) => (match sliceE P ty with
    | some e => bindO (szOf P e) fun _ => K (put σ d (.own (F d) e []))
    | none => K (put σ d (aval σ x)))
  | _ => K (put σ d (aval σ x))
def vIndexAddr (t : TypeId) (x i : Operand) (d : Nat) (K : St → Prop) (σ : St) : Prop := match x with
  | .global g => (match gdat P g, aval σ i with
    | some (.agg ds), .d (.int _ m) => ArrK P t ds m fun q => bindO (ds[q]?) fun y => K (put σ d (.d (.ref y)))
    | _, _ => False)
  | x => match aval σ x with
  | .adr j p => (match aval σ i, boxOf (σ j) with
    | .d (.int _ m), some b => (match D.get p b with
      | some (.agg ds) => ArrK P t ds m fun q => K (put σ d (.adr j (p ++ [q])))
      | _ => False)
    | _, _ => False)
  | _ => bindO (sliceE P t) fun e => match aval σ i with
  | .d (.int _ m) => 0 ≤ m ∧ (match aval σ x with
    | .bor j true e' l => ety e' = e ∧ m.toNat < l.length ∧ K (put σ d (.eadr j m.toNat []))
    | .d (.raw u) => RawIx e m.toNat u σ fun y => K (put σ d y)
    | .sub j lo => bindO (ownOf (σ j)) fun q => ety q.1 = e ∧ lo + m.toNat < q.2.length ∧ K (put σ d (.eadr j (lo + m.toNat) []))
    | y => (match asD y with
      | some (.sl ds) => bindO (szOf P e) fun sz => bindO (ds[m.toNat]?) fun z => width z = sz ∧ K (put σ d (.d (.ref z)))
      | _ => False))
  | _ => False
def vFieldAddr (s : TypeId) (x : Operand) (f : Nat) (d : Nat) (K : St → Prop) (σ : St) : Prop :=
  match aval σ x with
  | .d (.ref (.agg ds)) => bindO (ds[f]?) fun y => fieldOff P s f = some (widths (ds.take f)) ∧ K (put σ d (.d (.ref y)))
  | .d (.raw u) => RawFd P s f u σ fun y => K (put σ d y)
  | .adr j p => (match boxOf (σ j) with
    | some b => (match D.get p b with
      | some (.agg ds) => f < ds.length ∧ fieldOff P s f = some (widths (ds.take f)) ∧ K (put σ d (.adr j (p ++ [f])))
      | _ => False)
    | _ => False)
  | .eadr j i p => (match ownOf (σ j) with
    | some (_, l) => bindO (l[i]?) fun y => (match D.get p y with
      | some (.agg ds) => f < ds.length ∧ fieldOff P s f = some (widths (ds.take f)) ∧ K (put σ d (.eadr j i (p ++ [f])))
      | _ => False)
    | _ => False)
  | _ => False
def vSlice (t : TypeId) (x : Operand) (lo hi : Option Operand) (d : Nat) (K : St → Prop) (σ : St) : Prop :=
  match P.underlying t with
  | some .string => (match aval σ x with
    | .d (.str s) => bindO (bnd σ lo 0) fun i => bindO (bnd σ hi s.length) fun j => i ≤ j ∧ j ≤ s.length ∧ K (put σ d (.d (.str ((s.drop i).take (j - i)))))
    | _ => False)
  | some (.slice e) => (match aval σ x with
    | .bor j true e' l => ety e' = e ∧ bindO (szOf P e) fun _ => (match lo, hi with
      | none, some y => bindO (bnd σ (some y) 0) fun i => i ≤ l.length ∧ K (put (put σ j .undef) d (.own true e' (l.take i)))
      | some y, none => bindO (bnd σ (some y) 0) fun i => i ≤ l.length ∧ K (put σ d (.sub j i))
      | _, _ => False)
    | z => (match asD z with
      | some (.sl ds) => bindO (szOf P e) fun sz => bindO (bnd σ lo 0) fun i => bindO (bnd σ hi ds.length) fun j => i ≤ j ∧ j ≤ ds.length ∧ (∀ y ∈ ds, width y = sz) ∧ K (put σ d (.d (.sl ((ds.drop i).take (j - i)))))
      | _ => False))
  | _ => False
def vSlice3 (t : TypeId) (x hi mx : Operand) (d : Nat) (K : St → Prop) (σ : St) : Prop :=
  match P.underlying t with
  | some (.slice e) => (match aval σ x with
    | .d (.raw u) => bindO (szOf P e) fun _ => bindO (bnd σ (some hi) 0) fun i => bindO (bnd σ (some mx) 0) fun j => i = j ∧ RawCut e i u σ d K
    | z => (match asD z with
      | some (.sl ds) => bindO (szOf P e) fun _ => bindO (bnd σ (some hi) 0) fun i => bindO (bnd σ (some mx) 0) fun j => i = j ∧ i ≤ ds.length ∧ K (put σ d (.full (ds.take i)))
      | _ => False))
  | _ => False
def vConvert (s t : TypeId) (x : Operand) (d : Nat) (K : St → Prop) (σ : St) : Prop :=
  match P.underlying s, P.underlying t with
  | some (.slice e), some .string => P.underlying e = some (.int .u8) ∧ bindO (seqOf (aval σ x)) fun l => bindO (unbytes l) fun st => K (put σ d (.d (.str st)))
  | some .string, some .string => (match aval σ x with
    | .d (.str st) => K (put σ d (.d (.str st)))
    | _ => False)
  | some .string, some (.slice e) => P.underlying e = some (.int .u8) ∧ szOf P e = some 1 ∧ (match aval σ x with
    | .d (.str st) => st.length ≤ 9223372036854775807 ∧ K (put σ d (.own (F d) (e + 100000) (bytesD st)))
    | _ => False)
  | some _, some (.int k') => (match aval σ x with
    | .d (.int _ m) => InR k' m ∧ K (put σ d (.d (.int k' m)))
    | _ => False)
  | _, _ => False
def vExtract (x : Operand) (i : Nat) (d : Nat) (K : St → Prop) (σ : St) : Prop :=
  match x with
  | .tmp t => (match σ t with
    | .tup l => (match l[i]? with
      | some (.d y) => K (put σ d (.d y))
      | some (.own m e k) => K (put (put σ t (.tup (l.map noOwn))) d (.own (m && F d) e k))
      | _ => False)
    | _ => False)
  | _ => False
def vNext (x : Operand) (d : Nat) (K : St → Prop) (σ : St) : Prop :=
  match x with
  | .tmp t => (match σ t with
    | .iter st pos => (pos < st.length → K (put (put σ t (.iter st (pos + (Utf8.decode ⟨st.toArray⟩ pos).2))) d (.tup [.d (.bool true), .d (.int .i64 pos), .d (.int .i32 (Utf8.decode ⟨st.toArray⟩ pos).1)]))) ∧
        (¬ pos < st.length → K (put σ d (.tup [.d (.bool false)])))
    | _ => False)
  | _ => False
def vNextM (x : Operand) (d : Nat) (K : St → Prop) (σ : St) : Prop :=
  match x with
  | .tmp t => (match σ t with
    | .mit u E seen => NxtK t u E seen σ d K
    | _ => False)
  | _ => False
def vEntryM (x : Operand) (d : Nat) (K : St → Prop) (σ : St) : Prop :=
  match x with
  | .tmp t => (match σ t with
    | .mit u E seen => EntK u E seen σ d K
    | _ => False)
  | _ => False
def vNilQ (op : BinOp) (t : TypeId) (x : AV) (d : Nat) (K : St → Prop) (σ : St) : Prop :=
  bindO (sliceE P t) fun _ => match asD x with
    | some (.sl l) => (l ≠ [] → K (put σ d (.d (.bool (isNe op))))) ∧ (l = [] → ∀ b, K (put σ d (.d (.bool b))))
    | _ => False
def FldK (P : Program) (s f : Nat) (x : AV) (C : AV → Prop) : Prop :=
  match x with
  | .d (.agg ds) => bindO (ds[f]?) fun y => bindO (fieldTy P s f) fun q => tyk P q.1 = some (y.isAgg, width y) ∧ q.2 = widths (ds.take f) ∧ C (.d y)
  | _ => False
def vopd (op : Op) (ty : TypeId) (d : Nat) (K : St → Prop) (σ : St) : Prop :=
  match op with
  | .move x => vMove P F x ty false d K σ
  | .assign x => vMove P F x ty true d K σ
  | .pick c x y => (match aval σ c with
    | .d (.bool b) => (b = true → K (put σ d (aval σ x))) ∧ (b = false → K (put σ d (aval σ y)))
    | _ => False)
  | .load t x => bindO (derefO P σ x) fun y => tyk P t = some (y.isAgg, width y) ∧ (if F (d + 13000000) then FrzL y σ d K else K (put σ d (.d y)))
  | .nilCheck x => bindO (sure σ (aval σ x)) fun _ => K (put σ d (aval σ x))
  | .alloc e => if F (d + 1000000) then bindO (zeroDX P true e) fun z => NewK P e z σ d K else bindO (zeroD P e) fun z => K (put σ d (.box z))
  | .box t x => if F (d + 1000000) then bindO (asD (aval σ x)) fun y => NewB t y σ d K else bindO (asD (aval σ x)) fun y => K (put σ d (.box y))
  | .makeSlice t x y => bindO (sliceE P t) fun e => bindO (zeroD P e) fun z => bindO (esz P e) fun s => width z = s.1 ∧ (match aval σ x, aval σ y with
    | .d (.int .i64 p), .d (.int .i64 q) => p = q ∧ 0 ≤ p ∧ p * s.2 ≤ 140737488355328 ∧ p ≤ 140737488355328 ∧ K (put σ d (.own (F d) e (List.replicate p.toNat z)))
    | _, _ => False)
  | .build t ps => bindO (if F (d + 1000000) then structDX P true t else structD P t) fun zs => bindO (partsD σ ps.toList) fun ys => fillFits zs ys ∧ K (put σ d (.d (.agg (fillD zs ys))))
  | .buildSlice t len ps => bindO (sliceE P t) fun e => bindO (esz P e) fun z => bindO (partsD σ ps.toList) fun ys => ys.map (·.1) = List.range len ∧ (∀ y ∈ ys.map (·.2), width y = z.1) ∧ len * z.1 ≤ 16777216 ∧
      K (put σ d (.own (F d) e (ys.map (·.2))))
  | .fieldAddr s x f => vFieldAddr P s x f d K σ
  | .indexAddr t x i => vIndexAddr P t x i d K σ
  | .index t x i => (match P.underlying t, aval σ x, aval σ i with
    | some .string, .d (.str s), .d (.int _ m) => 0 ≤ m ∧ bindO (s[m.toNat]?) fun c => K (put σ d (.d (.int .u8 c.toNat)))
    | _, _, _ => False)
  | .slice t x lo hi none => vSlice P t x lo hi d K σ
  | .slice t x none (some hi) (some mx) => vSlice3 P t x hi mx d K σ
  | .binOp op t x y _ => if nilQ op y = true then vNilQ P op t (aval σ x) d K σ else bindO (asD (aval σ x)) fun dx => bindO (asD (aval σ y)) fun dy => binS P t op dx dy fun r => K (put σ d (.d r))
  | .unOp .not _ x => (match aval σ x with
    | .d (.bool b) => K (put σ d (.d (.bool !b)))
    | _ => False)
  | .unOp .neg _ x => (match aval σ x with
    | .d (.int k m) => InR k (0 - m) ∧ K (put σ d (.d (.int k (0 - m))))
    | _ => False)
  | .convert s t x => vConvert P F s t x d K σ
  | .extract x i => vExtract F x i d K σ
  | .makeFunc (.func g) first caps => (match first.toList with
    | [] => capsK (fun σ' ds => K (put σ' d (.d (.clo g ds)))) caps.toList σ []
    | x :: xs => caps.toList = [] ∧ bndK (fun ds => K (put σ d (.d (.bnd g ds)))) σ (x :: xs) [])
  | .call c => vCall P F c d K σ
  | .range t x => (match aval σ x with
    | .d (.str st) => P.underlying t = some .string ∧ K (put σ d (.iter st 0))
    | .d (.raw u) => RngK P t u σ d K
    | _ => False)
  | .next x true => vNext x d K σ
  | .next x false => vNextM x d K σ
  | .entry x => vEntryM x d K σ
  | .makeMap _ none => MakeK σ d K
  | .lookup t x i c => (match aval σ x with
    | .d (.raw u) => bindO (asD (aval σ i)) fun k => LookK P t u k c σ fun y => K (put σ d y)
    | _ => False)
  | .field s x f => FldK P s f (aval σ x) fun y => K (put σ d y)
  | _ => False
def SubK (j : Nat) (σ σ' : St) (K : St → Prop) : Prop := ∃ k lo, σ k = .sub j lo ∧ k ≠ j ∧ K (put σ' k (.sub j lo))
def vStore (t : TypeId) (x y : Operand) (K : St → Prop) (σ : St) : Prop :=
  match aval σ x with
  | .adr j p => (match σ j with
    | .box b => bindO (D.get p b) fun z => bindO (asD (aval σ y)) fun u => width u = width z ∧ szOf P t = some (width u) ∧ K (put σ j (.box (D.upd p b u)))
    | .hb n e b => bindO (D.get p b) fun z => bindO (asD (aval σ y)) fun u => width u = width z ∧ szOf P t = some (width u) ∧ K (put σ j (.hb n e (D.upd p b u)))
    | _ => False)
  | .eadr j i p => (match σ j with
    | .own true e l => bindO (l[i]?) fun b => bindO (D.get p b) fun z => bindO (asD (aval σ y)) fun u => width u = width z ∧ szOf P t = some (width u) ∧ (if F 11000000 then SubK j σ (put σ j (.own true e (l.set i (D.upd p b u)))) K else K (put σ j (.own true e (l.set i (D.upd p b u)))))
    | .hs n e l => bindO (l[i]?) fun b => bindO (D.get p b) fun z => bindO (asD (aval σ y)) fun u => width u = width z ∧ szOf P t = some (width u) ∧ K (put σ j (.hs n e (l.set i (D.upd p b u))))
    | _ => False)
  | _ => False
def vCallN (c : Call) (K : St → Prop) (σ : St) : Prop :=
  match c.callee, c.args.toList, c.argTypes.toList with
  | .builtin .clear, [x], [t] => bindO (sliceE P t) fun e => (match aval σ x with
    | .sub j lo => (match σ j with
      | .own true e' l => ety e' = e ∧ bindO (zeroD P e) fun z => szOf P e = some (width z) ∧ K (put σ j (.own true e' (l.take lo ++ List.replicate (l.length - lo) z)))
      | _ => False)
    | _ => False)
  | .builtin .delete, [x, i], [t, _] => (match aval σ x with
    | .d (.raw u) => bindO (asD (aval σ i)) fun k => DelK P t u k σ K
    | _ => False)
  | .value f, xs, _ => (match aval σ f with
    | .d (.clo g caps) => (caps.all fun c => !c.isAgg) = true ∧ bindO (plainA σ xs) fun xa => GivO P g (xa ++ caps.map .d) σ none K
    | .d (.bnd g first) => bindO (plainA σ xs) fun xa => GivO P g (first.map .d ++ xa) σ none K
    | _ => False)
  | _, _, _ => False
def vUpd (t : TypeId) (x i y : Operand) (K : St → Prop) (σ : St) : Prop :=
  match aval σ x with
  | .d (.raw u) => bindO (asD (aval σ i)) fun k => bindO (asD (aval σ y)) fun z => UpdK P t u k z σ K
  | _ => False
def vop (o : Oper) (K : St → Prop) (σ : St) : Prop :=
  match o.dst with
  | some d => vopd P F o.op o.type d K σ
  | none => (match o.op with
    | .store t x y => vStore P F t x y K σ
    | .call c => vCallN P c K σ
    | .mapUpdate t x i y => vUpd P t x i y K σ
    | .insert t x i y => vUpd P t x i y K σ
    | _ => False)
def putO (σ : St) (d : Option Nat) : St :=
  match d with
  | some d => put σ d (.tup [])
  | none => σ
def vops (ops : Array Oper) : List Oper → (St → Prop) → St → Prop
  | [], K, σ => K σ
  | o :: rest, K, σ => match o.guard with
    | none => vop P F o (vops ops rest K) σ
    | some (j, want) => bindO ((ops[j]?).bind (·.dst)) fun t => (match σ t with
      | .d (.bool b) => (b = want → vop P F o (vops ops rest K) σ) ∧ (b ≠ want → vops ops rest K (putO σ o.dst))
      | .tup [] => vops ops rest K (putO σ o.dst)
      | _ => False)
def thenV (next : St → Prop) (Q : Exit → St → Prop) : Exit → St → Prop
  | .normal, σ => next σ
  | e, σ => Q e σ
def inBlockV (id : Nat) (Q : Exit → St → Prop) : Exit → St → Prop
  | .exit id', σ => if id' = id then Q .normal σ else Q (.exit id') σ
  | e, σ => Q e σ
end
variable {P : Program} {F : Nat → Bool} {w0 : World} {L0 : Nat → Nat → Prop} {row : Nat → Prop} {n : Nat} {K : St → Prop} {Q : Exit → Act → World → Prop}
  {w w' : World} {L L' : Nat → Nat → Prop} {O O' : Nat → Option Nat} {σ σ' : St} {a : Act} {o : Oper} {d : Nat} {v : Value} {tm : Nat → Value}
theorem put_put (σ : St) (d : Nat) (x y : AV) : put (put σ d x) d y = put σ d y := by
  have hk : ∀ z : AV, kill d (kill d z) = kill d z := by
    intro z; cases z with
    | bor j m e l => by_cases h : j = d <;> cases m <;> simp [kill, h]
    | adr j p => by_cases h : j = d <;> simp [kill, h]
    | eadr j i p => by_cases h : j = d <;> simp [kill, h]
    | sub j i => by_cases h : j = d <;> simp [kill, h]
    | _ => rfl
  funext i
  simp only [put]; by_cases h : i = d
  · simp [h]
  · simp [h, hk]
theorem Rel.demote (h : Rel P w0 L0 row w L O σ tm) {t : Nat} {e : TypeId} {l : List D} (ht : σ t = .own true e l) (b : Bool) : ∃ L', Rel P w0 L0 row w L' O (put σ t (.own b e l)) tm := by
  have h1 := h.slots t; rw [ht] at h1; have h1' : RC P w L (O t) (.own true e l) (tm t) := h1; obtain ⟨L', h2, h3, h4, h5⟩ := h1'.demote b h.lok (fun g hg => (h.olt t g hg).1); refine ⟨L', ?_⟩; have hS : Same w L w L' (optB (O t)) := ⟨h5, fun _ _ _ => rfl, fun c q _ hne => h4 c q (fun e => hne e.symm)⟩; have := h.putOwn t (.own b e l) (tm t) (O t) (optB (O t)) hS h.grown (Nat.le_refl _) h3 (fun g hg => (h.olt t g hg).2) (fun i g hi hO e => hi (h.inj i t g hO e))
    (fun g hg => ⟨(h.olt t g hg).1, (h.olt t g hg).2, fun i hi e => hi (h.inj i t g e hg)⟩) h2
  rwa [setv_id tm t, setv_id O t] at this
theorem seqK_ok (hR : Rel P w0 L0 row w L O σ (tmOf a)) {y : Operand} {C : List D → Prop} (h : seqK (aval σ y) σ C) : ∃ ds, SliceAt w L ds (a.eval y) ∧ C ds := by
  unfold seqK at h; split at h
  · rename_i u hu
    obtain ⟨j, e, l, hj, hC⟩ := h; have h1 := aval_ok hR y; rw [hu] at h1; have h2 : RepV w L (.raw u) (a.eval y) := h1; have h4 := hR.slots j; rw [hj] at h4; have hV : OwnR P w L (O j) true e l u := h4; exact ⟨l, by rw [h2.raw_inv]; exact hV.sliceAt, hC⟩
  · obtain ⟨ds, hds, hC⟩ := bindO_ok h; exact ⟨ds, aval_seq hR hds, hC⟩
theorem vMove_ok {x : Operand} {ty : TypeId} {asg : Bool} (ho : o.op = if asg then .assign x else .move x) (hd : o.dst = some d) (hlt : d < n) (hsz : a.tmps.size = n) (hdef : a.defers = []) (hR : Rel P w0 L0 row w L O σ (tmOf a))
    (h : vMove P F x ty asg d K σ) : o.wp P a w (Good P w0 L0 row n K) Q := by
  have ho' : o.op = .move x ∨ o.op = .assign x := by cases asg <;> simp at ho <;> simp [ho]
  unfold vMove at h; split at h
  · rename_i t
    split at h
    · rename_i m e l ht
      cases asg with
      | true => exact s_moveOwn hd hlt hsz hdef hR (ho'.symm) ht h
      | false =>
        simp only [Bool.false_eq_true, if_false] at h; split at h
        · exact s_moveOwn hd hlt hsz hdef hR (ho'.symm) ht h
        split at h
        · obtain ⟨rfl, j, hjt, hj, h⟩ := h; have h4 := hR.slots t; rw [ht] at h4; have hV : OwnR P w L (O t) true e l (tmOf a t) := h4; obtain ⟨A, c, hA⟩ := hV.shape; have hR1 := hR.putPure t (.d (.raw (tmOf a t))) (tmOf a t) (by rw [hA]; exact RepV.raw (by simp [Value.oneCell']) rfl); rw [setv_same] at hR1; have hR2 := hR1.putName j (.hs (tmOf a t) e l) ⟨rfl, hV.self⟩ (fun g hg => by
            have hO := (hV.blk (g := g) hg).1; refine ⟨(hR.olt t g hO).1, (hR.olt t g hO).2, fun i hi e => ?_⟩; simp only [setv] at e; split at e
            · cases e
            · rename_i hit; exact hit (hR.inj i t g e hO))
          have h' := h A c; rw [← hA] at h'; refine s_copy hd hlt hsz hdef hR2 ho' ?_; have : aval (put (put σ t (.d (.raw (tmOf a t)))) j (.hs (tmOf a t) e l)) (.tmp t) = .d (.raw (tmOf a t)) := by
            simp only [aval, put, if_neg hjt.symm, if_true, kill, rd]
          rw [this]; exact h'
        split at h
        · obtain ⟨rfl, h⟩ := h; obtain ⟨L', hR'⟩ := hR.demote ht false; exact s_copy hd hlt hsz hdef hR' ho' (by simp only [aval, put, if_true, kill, rd]; exact h)
        · exact s_copy hd hlt hsz hdef hR ho' (by simp only [aval, ht, rd]; exact h)
    · rename_i l ht
      exact s_moveTup hd hlt hsz hdef hR (ho'.symm) ht h
    · split at h
      · obtain ⟨u, j, e, l, hjt, ht, hj, h⟩ := h; have h4 := hR.slots j; rw [hj] at h4; have hV : OwnR P w L (O j) true e l u := h4; have h5 := hR.slots t; rw [ht] at h5; have h6 : RepV w L (.raw u) (tmOf a t) := h5; have hu := h6.raw_inv; have hR1 := hR.forget j; have hR2 := hR1.putOwn t (.own true e l) (tmOf a t) (O j) noB (Same.refl w L _) hR1.grown (Nat.le_refl _) hR1.lok (fun _ h => h.elim) (fun _ _ _ _ h => h)
          (fun g hg => ⟨(hR.olt j g hg).1, (hR.olt j g hg).2, fun i hi e => by
            simp only [setv] at e; split at e
            · cases e
            · rename_i hij; exact hij (hR.inj i j g e hg)⟩) (by
            have : OwnR P w L (O j) true e l (tmOf a t) := by rw [hu]; exact hV
            exact this)
        rw [setv_same] at hR2; refine s_copy hd hlt hsz hdef hR2 ho' ?_; have : aval (put (put σ j .undef) t (.own true e l)) (.tmp t) = .bor t true e l := by
          simp only [aval, put, if_true, kill, rd]
        rw [this]; exact h
      · exact s_copy hd hlt hsz hdef hR ho' h
  · split at h
    · rename_i he
      obtain ⟨sz, hz, h⟩ := bindO_ok h; exact s_nil hd hlt hsz hdef hR ho'.symm hz (sliceE_lt he) (F d) h
    · exact s_copy hd hlt hsz hdef hR ho' h
  · exact s_copy hd hlt hsz hdef hR ho' h
theorem Rel.kill_undef (h : Rel P w0 L0 row w L O σ tm) {j : Nat} (hj : σ j = .undef) (t : Nat) : kill j (σ t) = σ t := by
  have h1 := h.slots t; cases hx : σ t <;> rw [hx] at h1 <;> simp only [kill]
  case bor k m e l =>
    by_cases hk : k = j
    · subst hk; have := h1.1; rw [hj] at this; cases this
    · simp [hk]
  case adr k p =>
    by_cases hk : k = j
    · subst hk; obtain ⟨_, _, _, e, _⟩ := h1; rw [hj] at e; cases e
    · simp [hk]
  case eadr k i p =>
    by_cases hk : k = j
    · subst hk; obtain ⟨_, _, _, _, _, _, _, _, e, _⟩ := h1; rw [hj] at e; cases e
    · simp [hk]
  case sub k i =>
    by_cases hk : k = j
    · subst hk; obtain ⟨_, _, _, e, _⟩ := h1; rw [hj] at e; cases e
    · simp [hk]
theorem arr1 {α : Type} {xs : Array α} {x : α} (h : xs.toList = [x]) : xs = #[x] := by apply Array.ext'; simpa using h
theorem arr2 {α : Type} {xs : Array α} {x y : α} (h : xs.toList = [x, y]) : xs = #[x, y] := by apply Array.ext'; simpa using h
theorem vCall_ok {c : Call} (ho : o.op = .call c) (hd : o.dst = some d) (hlt : d < n) (hsz : a.tmps.size = n) (hdef : a.defers = []) (hR : Rel P w0 L0 row w L O σ (tmOf a)) (h : vCall P F c d K σ) : o.wp P a w (Good P w0 L0 row n K) Q := by
  obtain ⟨callee, args, ts⟩ := c; unfold vCall at h; simp only at h; split at h
  · rename_i x t ha ht
    obtain rfl := arr1 ha; obtain rfl := arr1 ht; split at h
    · rename_i e hu
      split at h
      · rename_i j lo hx
        obtain ⟨⟨e', l⟩, hj, h⟩ := bindO_ok h; exact s_lenSub hd hlt hsz hdef hR ho hu hx hj h
      · obtain ⟨l, hl, h⟩ := bindO_ok h; exact s_len hd hlt hsz hdef hR ho hu hl h
    · rename_i hu
      split at h
      · rename_i s hs
        exact s_lenS hd hlt hsz hdef hR ho hu hs h
      · exact h.elim
    · split at h
      · rename_i u hx
        obtain ⟨j, kt, vt, kt', m, E, _, hu, hj, h⟩ := h; exact s_lenM hd hlt hsz hdef hR ho hu hx hj h
      · exact h.elim
    · exact h.elim
  · rename_i x i t t' ha ht
    obtain rfl := arr2 ha; obtain rfl := arr2 ht; split at h
    · rename_i u hx
      obtain ⟨k, hk, j, kt, vt, m, m2, E, hu, hj, hf, hp, h⟩ := bindO_ok h; exact s_delete hd hlt hsz hdef hR ho hu hx hj hk hf hp h
    · exact h.elim
  · rename_i x y t t' ha ht
    obtain rfl := arr2 ha; obtain rfl := arr2 ht; by_cases htt : t' = t
    case neg =>
      rw [if_neg htt] at h; obtain ⟨hu, h⟩ := h; obtain ⟨e, he, hz, h⟩ := bindO_ok h; split at h
      · rename_i j m e' l st hx hy
        obtain ⟨rfl, h1, h⟩ := h; exact s_appendS hd hlt hsz hdef hR ho hu (sliceE_ok he) (sliceE_lt he) hz hx hy h1 h
      · rename_i u st hx hy
        obtain ⟨j, l, hj, h1, h⟩ := h; rcases hj with hj | ⟨rfl, rfl, hju⟩
        · exact s_appendRawS hd hlt hsz hdef hR ho hu (sliceE_ok he) (sliceE_lt he) hz hx hj hy h1 h
        · obtain ⟨i0, z0, f1, f2, f3, f4, f5, f6⟩ := esz_parts (P := P) (e := e) hz; have hnew : RH P w L (.hs (.slice none 0 0) e []) := ⟨rfl, [], 1, by rw [ety_lt (sliceE_lt he)]; simp [f1, f3], by simp [RepL], by simp, ⟨by simp, .inl ⟨rfl, rfl⟩⟩, by simp [Value.ownBlock]⟩; have hR1 := hR.putName j _ hnew (fun g hg => by simp [hblk, Value.ownBlock] at hg); have hav : ∀ z, aval σ z ≠ .undef → aval (put σ j (.hs (.slice none 0 0) e [])) z = aval σ z := by
            intro z hz; cases z with
            | tmp t =>
              by_cases htj : t = j
              · subst htj; exact absurd (by simp only [aval, hju, rd]) hz
              · simp only [aval, put, if_neg htj, hR.kill_undef hju]
            | _ => rfl
          have hj1 : put σ j (.hs (.slice none 0 0) e []) j = .hs (.slice none 0 0) e [] := (by simp [put, kill]); refine s_appendRawS hd hlt hsz hdef hR1 ho hu (sliceE_ok he) (sliceE_lt he) hz (by rw [hav x (by rw [hx]; simp)]; exact hx) hj1 (by rw [hav y (by rw [hy]; simp)]; exact hy) h1 (fun A c => ?_); rw [put_put]; exact h A c
      · exact h.elim
    subst htt; rw [if_pos rfl] at h; obtain ⟨e, he, h⟩ := bindO_ok h; split at h
    · rename_i j m e' l hx
      obtain ⟨rfl, h⟩ := h; obtain ⟨z, hz, h⟩ := bindO_ok h; obtain ⟨ds, hds, h1, h2, h3, h⟩ := seqK_ok hR h; exact s_append hd hlt hsz hdef hR ho (sliceE_ok he) (sliceE_lt he) (by rw [hz]) hx hds h1 h2 h3 h
    · rename_i u hx
      obtain ⟨z, hz, h⟩ := bindO_ok h; obtain ⟨ds, hds, j, l, hj, h1, h2, h3, h⟩ := bindO_ok h; rcases hj with hj | ⟨rfl, rfl, hju⟩
      · exact s_appendRaw hd hlt hsz hdef hR ho (sliceE_ok he) (sliceE_lt he) (by rw [hz]) hx hj hds h1 h2 h3 h
      · obtain ⟨i0, z0, f1, f2, f3, f4, f5, f6⟩ := esz_parts (P := P) (e := e) (sz := z.1) (by_ := z.2) (by rw [hz]); have hnew : RH P w L (.hs (.slice none 0 0) e []) := ⟨rfl, [], z.1, by rw [ety_lt (sliceE_lt he)]; simp [f1, f3], by simp [RepL], by simp, ⟨by simp, .inl ⟨rfl, rfl⟩⟩, by simp [Value.ownBlock]⟩; have hR1 := hR.putName j _ hnew (fun g hg => by simp [hblk, Value.ownBlock] at hg); have hav : ∀ z, aval σ z ≠ .undef → aval (put σ j (.hs (.slice none 0 0) e [])) z = aval σ z := by
          intro z hz; cases z with
          | tmp t =>
            by_cases htj : t = j
            · subst htj; exact absurd (by simp only [aval, hju, rd]) hz
            · simp only [aval, put, if_neg htj, hR.kill_undef hju]
          | _ => rfl
        have hj1 : put σ j (.hs (.slice none 0 0) e []) j = .hs (.slice none 0 0) e [] := (by simp [put, kill]); refine s_appendRaw hd hlt hsz hdef hR1 ho (sliceE_ok he) (sliceE_lt he) (by rw [hz]) (by rw [hav x (by rw [hx]; simp)]; exact hx) hj1 (by rw [hav y (by intro e; rw [e] at hds; simp [seqOf] at hds)]; exact hds) h1 h2 h3 (fun A c => ?_); rw [put_put]; exact h A c
    · rename_i l hx
      obtain ⟨z, hz, h⟩ := bindO_ok h; obtain ⟨ds, hds, h0, h1, h2, h3, h⟩ := bindO_ok h; exact s_appendFull hd hlt hsz hdef hR ho (sliceE_ok he) (sliceE_lt he) (by rw [hz]) hx hds h0 h1 h2 h3 h
    · exact h.elim
  · rename_i x y t t' ha ht
    obtain rfl := arr2 ha; obtain rfl := arr2 ht; split at h
    · rename_i k k' p k2 q hu hx hy
      obtain ⟨rfl, h⟩ := h; exact s_min hd hlt hsz hdef hR ho hx hy h
    · exact h.elim
  · rename_i x y t t' ha ht
    obtain rfl := arr2 ha; obtain rfl := arr2 ht; split at h
    · rename_i k k' p k2 q hu hx hy
      obtain ⟨rfl, h⟩ := h; exact s_max hd hlt hsz hdef hR ho hx hy h
    · exact h.elim
  · rename_i x t ha ht
    obtain rfl := arr1 ha; obtain rfl := arr1 ht; obtain ⟨e, he, h⟩ := bindO_ok h; split at h
    · rename_i j lo hx
      split at h
      · rename_i e' l hj
        obtain ⟨h1, h⟩ := h; obtain ⟨z, hz, h2, h⟩ := bindO_ok h; exact s_clear hd hlt hsz hdef hR ho (sliceE_ok he) hx hj h1 hz h2 h
      · exact h.elim
    · exact h.elim
  · rename_i f
    split at h
    · rename_i g caps hf
      obtain ⟨h1, h⟩ := h; have h1' : ∀ c ∈ caps, c.isAgg = false := fun c hc => by have := List.all_eq_true.1 h1 c hc; simpa using this
      split at h
      · obtain ⟨xa, hxa, y, hy, hfn, h⟩ := bindO_ok h; exact s_callLend hd hlt hsz hdef hR ho hf h1' hxa hy hfn h
      · split at h
        · split at h
          · rename_i x ys hxs
            obtain ⟨xa, hxa, h⟩ := bindO_ok h; unfold InK at h; split at h
            · rename_i j e l hx
              obtain ⟨l', hfn, h⟩ := h; have h2 := aval_ok hR x; rw [hx] at h2; obtain ⟨h2, h3⟩ := h2; refine s_callI hd hlt hsz hdef hR ho hxs hf h1' (j := j) (e := e) (l := l) (by rw [h2]; rfl) (by rw [h2]; exact h3) hxa hfn ?_; rw [h2]; exact h
            · rename_i u hx
              obtain ⟨j, e, l, l', hj, hfn, h⟩ := h; refine s_callI hd hlt hsz hdef hR ho hxs hf h1' (j := j) (e := e) (l := l) (by rw [hj]; rfl) (by rw [hj]; exact (aval_d hR hx).raw_inv) hxa hfn ?_; rw [hj]; exact h
            · exact h.elim
          · exact h.elim
        · split at h
          · split at h
            · rename_i x ys hxs
              obtain ⟨xa, hxa, h⟩ := bindO_ok h; unfold NameK at h; split at h
              · rename_i u hx
                obtain ⟨j, e, l, e', l', hj, hfn, h⟩ := h; exact s_callHs hd hlt hsz hdef hR ho hxs hf h1' hx hj hxa hfn h
              · exact h.elim
            · exact h.elim
          · split at h
            · obtain ⟨xa, hxa, ks, b, Post, hks, hnd, hfn, h⟩ := bindO_ok h; exact s_callG hd hlt hsz hdef hR ho hf h1' hxa ks hks hnd b hfn h
            · split at h
              · obtain ⟨xa, hxa, r, hfn, h⟩ := bindO_ok h; exact s_callRaw hd hlt hsz hdef hR ho hf h1' hxa hfn (F d) h
              · split at h
                · obtain ⟨rfl, h⟩ := h; split at h
                  · rename_i x y z hxs
                    obtain ⟨xa, hxa, h⟩ := bindO_ok h; unfold In2K at h; split at h
                    · rename_i j e l j2 e2 l2 hx hz
                      obtain ⟨hjj, r, hfn, h⟩ := h; exact s_call2 hd hlt hsz hdef hR ho (ys := [y]) (by simpa using hxs) hf hx hz hjj hxa hfn (F d) h
                    · exact h.elim
                  · exact h.elim
                · obtain ⟨h2, h⟩ := h; obtain ⟨xa, hxa, r, hfn, h⟩ := bindO_ok h; exact s_call hd hlt hsz hdef hR ho hf h1' hxa h2 hfn (F d) h
    · rename_i g first hf
      split at h
      · obtain ⟨xa, hxa, ks, b, Post, hks, hnd, hfn, h⟩ := bindO_ok h; exact s_callGB (fun d' hd' => by rw [hd] at hd'; cases hd'; exact hlt) hsz hdef hR ho hf hxa ks hks hnd b hfn (by rw [hd]; exact h)
      · obtain ⟨h2, h⟩ := h; obtain ⟨xa, hxa, r, hfn, h⟩ := bindO_ok h; exact s_callBnd hd hlt hsz hdef hR ho hf hxa h2 hfn (F d) h
    · exact h.elim
  · exact h.elim
theorem vopd_ok (hd : o.dst = some d) (hlt : d < n) (hsz : a.tmps.size = n) (hdef : a.defers = []) (hR : Rel P w0 L0 row w L O σ (tmOf a)) (h : vopd P F o.op o.type d K σ) : o.wp P a w (Good P w0 L0 row n K) Q := by
  unfold vopd at h; split at h
  · rename_i x ho; exact vMove_ok (asg := false) (by simpa using ho) hd hlt hsz hdef hR h
  · rename_i x ho; exact vMove_ok (asg := true) (by simpa using ho) hd hlt hsz hdef hR h
  · rename_i c x y ho
    split at h
    · rename_i b hc; exact s_pick hd hlt hsz hdef hR ho hc h.1 h.2
    · exact h.elim
  · rename_i t x ho
    obtain ⟨y, hy, h1, h2⟩ := bindO_ok h; split at h2
    · obtain ⟨ks, y', hks, hnd, hfz, h2⟩ := h2; exact s_loadFz hd hlt hsz hdef hR ho hy h1 ks hks hnd hfz h2
    · exact s_load hd hlt hsz hdef hR ho hy h1 h2
  · rename_i x ho
    obtain ⟨y, hy, h⟩ := bindO_ok h; exact s_nilCheck hd hlt hsz hdef hR ho hy h
  · rename_i e ho
    split at h
    · obtain ⟨z, hz, j, nk, hnk, hj, h⟩ := bindO_ok h; obtain ⟨O', hR'⟩ := Rel.nilN hR hnk; exact s_allocN hd hlt hsz hdef hR' ho hz hj h
    · obtain ⟨z, hz, h⟩ := bindO_ok h; exact s_alloc hd hlt hsz hdef hR ho hz h
  · rename_i e x ho
    split at h
    · obtain ⟨y, hy, j, hj, h⟩ := bindO_ok h; exact s_boxN hd hlt hsz hdef hR ho hy hj h
    · obtain ⟨y, hy, h⟩ := bindO_ok h; exact s_box hd hlt hsz hdef hR ho hy h
  · rename_i t x y ho
    obtain ⟨e, he, h⟩ := bindO_ok h; obtain ⟨z, hz, h⟩ := bindO_ok h; obtain ⟨s, hs, hw, h⟩ := bindO_ok h; split at h
    · rename_i p q hx hy
      obtain ⟨rfl, h0, h1, h2, h⟩ := h; exact s_makeSlice hd hlt hsz hdef hR ho (sliceE_ok he) (sliceE_lt he) (sz := s.1) (by_ := s.2) hs hz hw hx hy h0 h1 h2 (F d) h
    · exact h.elim
  · rename_i t ps ho
    obtain ⟨zs, hz, h⟩ := bindO_ok h; obtain ⟨ys, hy, h1, h2⟩ := bindO_ok h; split at hz
    · exact s_build (N := true) hd hlt hsz hdef hR ho hz hy h1 h2
    · exact s_build (N := false) hd hlt hsz hdef hR ho hz hy h1 h2
  · rename_i t len ps ho
    obtain ⟨e, he, h⟩ := bindO_ok h; obtain ⟨z, hz, h⟩ := bindO_ok h; obtain ⟨ys, hy, h1, h2, h3, h4⟩ := bindO_ok h; exact s_buildSlice hd hlt hsz hdef hR ho (sliceE_ok he) (sliceE_lt he) (by rw [hz]) hy h1 h2 h3 (F d) h4
  · rename_i s x f ho
    unfold vFieldAddr at h; split at h
    · rename_i ds hx
      obtain ⟨y, hy, h1, h2⟩ := bindO_ok h; exact s_fieldRef hd hlt hsz hdef hR ho hx hy h1 h2
    · rename_i u hx
      obtain ⟨j, e1, ds, _, hj, h1, h2, h3⟩ := h; exact s_fieldRaw hd hlt hsz hdef hR ho hx hj h1 h2 h3
    · rename_i j p hx
      split at h
      · rename_i b hj
        split at h
        · rename_i ds hp
          exact s_fieldAdr hd hlt hsz hdef hR ho hx hj hp h.1 h.2.1 h.2.2
        · exact h.elim
      · exact h.elim
    · rename_i j i p hx
      split at h
      · rename_i e l hj
        obtain ⟨y, hy, h⟩ := bindO_ok h; split at h
        · rename_i ds hp
          exact s_fieldEadr hd hlt hsz hdef hR ho hx hj hy hp h.1 h.2.1 h.2.2
        · exact h.elim
      · exact h.elim
    · exact h.elim
  · rename_i t x i ho
    unfold vIndexAddr at h; split at h
    · rename_i g
      split at h
      · rename_i ds k m hg hi
        obtain ⟨n', e, sz, hu, hz, hl, hw, h0, hm, h⟩ := h; obtain ⟨y, hy, h⟩ := bindO_ok h; exact s_indexG hd hlt hsz hdef hR ho hu (by simpa [szOf] using hz) hg hl hw hi h0 hm hy h
      · exact h.elim
    split at h
    · rename_i j p hx
      split at h
      · rename_i k m b hi hj
        split at h
        · rename_i ds hp
          obtain ⟨n', e, sz, hu, hz, hl, hw, h0, hm, h⟩ := h; exact s_indexArr hd hlt hsz hdef hR ho hu (by simpa [szOf] using hz) hx hj hp hl hw hi h0 hm h
        · exact h.elim
      · exact h.elim
    obtain ⟨e, he, h⟩ := bindO_ok h; split at h
    · rename_i k m hi
      obtain ⟨h0, h⟩ := h; split at h
      · rename_i j e' l hx
        obtain ⟨rfl, h1, h2⟩ := h; exact s_indexEadr hd hlt hsz hdef hR ho (sliceE_ok he) hx rfl hi h0 h1 h2
      · rename_i u hx
        obtain ⟨j, e', l, _, hj, h1, h2, h3⟩ := h; exact s_indexRaw hd hlt hsz hdef hR ho (sliceE_ok he) hx hj h1 hi h0 h2 h3
      · rename_i j lo hx
        obtain ⟨⟨e', l⟩, hj, h1, h2, h⟩ := bindO_ok h; exact s_indexSub hd hlt hsz hdef hR ho (sliceE_ok he) hx hj h1 hi h0 h2 h
      · split at h
        · rename_i ds hx
          obtain ⟨sz, hz, h⟩ := bindO_ok h; obtain ⟨z, hzz, h1, h2⟩ := bindO_ok h; exact s_indexRef hd hlt hsz hdef hR ho (sliceE_ok he) hz hx hi h0 hzz h1 h2
        · exact h.elim
    · exact h.elim
  · rename_i t x i ho
    split at h
    · rename_i s k m hu hx hi
      obtain ⟨h0, h⟩ := h; obtain ⟨c, hc, h⟩ := bindO_ok h; exact s_indexS hd hlt hsz hdef hR ho hu hx hi h0 hc h
    · exact h.elim
  · rename_i t x lo hi ho
    unfold vSlice at h; split at h
    · rename_i hu
      split at h
      · rename_i s hx
        obtain ⟨i, hi', h⟩ := bindO_ok h; obtain ⟨j, hj, h1, h2, h3⟩ := bindO_ok h; exact s_sliceS hd hlt hsz hdef hR ho hu hx hi' hj h1 h2 h3
      · exact h.elim
    · rename_i e hu
      split at h
      · rename_i j e' l hx
        obtain ⟨h1, h⟩ := h; obtain ⟨sz, hz, h⟩ := bindO_ok h; split at h
        · obtain ⟨i, hi', h2, h⟩ := bindO_ok h; exact s_cut hd hlt hsz hdef hR ho hu hz hx h1 hi' h2 h
        · obtain ⟨i, hi', h2, h⟩ := bindO_ok h; exact s_sub hd hlt hsz hdef hR ho hu hz hx h1 hi' h2 h
        · exact h.elim
      · split at h
        · rename_i ds hx
          obtain ⟨sz, hz, h⟩ := bindO_ok h; obtain ⟨i, hi', h⟩ := bindO_ok h; obtain ⟨j, hj, h1, h2, h3, h4⟩ := bindO_ok h; exact s_sliceD hd hlt hsz hdef hR ho hu hz hx hi' hj h1 h2 h3 h4
        · exact h.elim
    · exact h.elim
  · rename_i t x hi mx ho
    unfold vSlice3 at h; split at h
    · rename_i e hu
      split at h
      · rename_i u hx
        obtain ⟨sz, hz, h⟩ := bindO_ok h; obtain ⟨i, hi', h⟩ := bindO_ok h; obtain ⟨j, hj, rfl, k, e', l, hk, h1, h2, h⟩ := bindO_ok h; exact s_cutRaw hd hlt hsz hdef hR ho hu hz hx hk h1 hi' hj h2 h
      · split at h
        · rename_i ds hx
          obtain ⟨sz, hz, h⟩ := bindO_ok h; obtain ⟨i, hi', h⟩ := bindO_ok h; obtain ⟨j, hj, rfl, h2, h⟩ := bindO_ok h; exact s_slice3D hd hlt hsz hdef hR ho hu hz hx hi' hj h2 h
        · exact h.elim
    · exact h.elim
  · rename_i op t x y t' ho
    by_cases hq : nilQ op y = true
    · rw [if_pos hq] at h; obtain ⟨e, he, h⟩ := bindO_ok h; split at h
      · rename_i l hx
        exact s_nilQ hd hlt hsz hdef hR ho hq (sliceE_ok he) hx h.1 h.2
      · exact h.elim
    rw [if_neg hq] at h; obtain ⟨dx, hx, h⟩ := bindO_ok h; obtain ⟨dy, hy, h⟩ := bindO_ok h; exact s_bin hd hlt hsz hdef hR ho hx hy h
  · rename_i t x ho
    split at h
    · rename_i b hx; exact s_not hd hlt hsz hdef hR ho hx h
    · exact h.elim
  · rename_i t x ho
    split at h
    · rename_i k m hx; exact s_neg hd hlt hsz hdef hR ho hx h.1 h.2
    · exact h.elim
  · rename_i s t x ho
    unfold vConvert at h; split at h
    · rename_i e hs ht
      obtain ⟨h1, h⟩ := h; obtain ⟨l, hl, h⟩ := bindO_ok h; obtain ⟨st, hst, h⟩ := bindO_ok h; exact s_convBytes hd hlt hsz hdef hR ho hs h1 ht hl (unbytes_ok hst) h
    · rename_i hs ht
      split at h
      · rename_i st hx; exact s_convStr hd hlt hsz hdef hR ho hs ht hx h
      · exact h.elim
    · rename_i e hs ht
      obtain ⟨h1, h2, h⟩ := h; split at h
      · rename_i st hx; exact s_toBytes hd hlt hsz hdef hR ho hs ht h1 h2 hx h.1 (F d) h.2
      · exact h.elim
    · rename_i u k' hs ht
      split at h
      · rename_i k m hx; exact s_convInt hd hlt hsz hdef hR ho (by simp [hs]) ht hx h.1 h.2
      · exact h.elim
    · exact h.elim
  · rename_i x i ho
    unfold vExtract at h; split at h
    · rename_i t
      split at h
      · rename_i l ht
        split at h
        · rename_i y hy; exact s_extract hd hlt hsz hdef hR ho rfl ht hy h
        · rename_i m e k hy
          have h1 : o.wp P a w (Good P w0 L0 row n fun σ' => σ' = put (put σ t (.tup (l.map noOwn))) d (.own m e k)) Q := s_extractOwn hd hlt hsz hdef hR ho ht hy rfl; have hg : ∀ (a' : Act) (w' : World), Good P w0 L0 row n (fun σ' => σ' = put (put σ t (.tup (l.map noOwn))) d (.own m e k)) a' w' → Good P w0 L0 row n K a' w' := by
            rintro a' w' ⟨L1, O1, σ1, hR1, g1, g2, rfl⟩; cases m with
            | false => exact ⟨L1, O1, _, hR1, g1, g2, by simpa using h⟩
            | true =>
              obtain ⟨L2, hR2⟩ := hR1.demote (t := d) (e := e) (l := k) (by simp [put, kill]) (F d); rw [put_put] at hR2; exact ⟨L2, O1, _, hR2, g1, g2, by simpa using h⟩
          unfold Oper.wp at h1 ⊢; generalize (execOp a.eval o).run P w = res at h1 ⊢; unfold Oper.upon at h1 ⊢; split <;> simp only at h1 ⊢
          · exact hg _ _ h1
          · exact hg _ _ h1
          · exact hg _ _ h1
          · refine h1.mono ?_; intro e' w'' hh; cases e' with
            | returned v => exact hg _ _ hh
            | panicked ch => exact hh
            | outgrown => exact hh
          · exact h1.mono fun v w'' hh => hg _ _ hh
          · exact h1
        · exact h.elim
      · exact h.elim
    · exact h.elim
  · rename_i g first caps ho
    split at h
    · rename_i h1
      have : first = #[] := by apply Array.ext'; simpa using h1
      subst this; exact s_makeFunc hd hlt hsz hdef hR ho h
    · rename_i x xs h1
      obtain ⟨h2, h⟩ := h; have : caps = #[] := by apply Array.ext'; simpa using h2
      subst this; rw [← h1] at h; exact s_makeBnd hd hlt hsz hdef hR ho h
  · rename_i c ho; exact vCall_ok ho hd hlt hsz hdef hR h
  · rename_i t x ho
    split at h
    · rename_i st hx; exact s_range hd hlt hsz hdef hR ho h.1 hx h.2
    · rename_i u hx
      obtain ⟨j, kt, vt, m, E, hu, hj, h⟩ := h; exact s_rangeM hd hlt hsz hdef hR ho hu hx hj h
    · exact h.elim
  · rename_i x ho
    unfold vNext at h; split at h
    · split at h
      · rename_i st pos ht
        exact s_next hd hlt hsz hdef hR ho ht h.1 h.2
      · exact h.elim
    · exact h.elim
  · rename_i x ho
    unfold vNextM at h; split at h
    · split at h
      · rename_i u E seen ht
        obtain ⟨j, kt, m, hj, h1, h0⟩ := h; exact s_nextM hd hlt hsz hdef hR ho ht hj h1 h0
      · exact h.elim
    · exact h.elim
  · rename_i x ho
    unfold vEntryM at h; split at h
    · split at h
      · rename_i u E seen ht
        obtain ⟨j, kt, m, s2, k, v, hj, hs, hm, h⟩ := h; exact s_entryM hd hlt hsz hdef hR ho ht hj hs hm h
      · exact h.elim
    · exact h.elim
  · rename_i t ho
    obtain ⟨kt, j, hj, h⟩ := h; exact s_makeMap hd hlt hsz hdef hR ho hj h
  · rename_i t x i c ho
    split at h
    · rename_i u hx
      obtain ⟨k, hk, ⟨j, kt, vt, z, m, E, _, hu, hj, hf, hz, h⟩ | ⟨rfl, kt, vt, z, hu, hf, hz, h⟩⟩ := bindO_ok h
      · exact s_lookup hd hlt hsz hdef hR ho hu hx hj hk hf hz h
      · exact s_lookupN hd hlt hsz hdef hR ho hu hx hk hf hz h
    · exact h.elim
  · rename_i s x f ho
    unfold FldK at h; split at h
    · rename_i ds hx
      obtain ⟨y, hy, h⟩ := bindO_ok h; obtain ⟨q, hq, ht, hw, h⟩ := bindO_ok h; exact s_fieldV hd hlt hsz hdef hR ho hx hy hq ht hw h
    · exact h.elim
  · exact h.elim
theorem vop_ok (hlt : ∀ d, o.dst = some d → d < n) (hsz : a.tmps.size = n) (hdef : a.defers = []) (hR : Rel P w0 L0 row w L O σ (tmOf a)) (h : vop P F o K σ) : o.wp P a w (Good P w0 L0 row n K) Q := by
  unfold vop at h; split at h
  · rename_i d hd; exact vopd_ok hd (hlt d hd) hsz hdef hR h
  · rename_i hd
    split at h
    · rename_i t x y ho
      unfold vStore at h; split at h
      · rename_i j p hx
        split at h
        · rename_i b hj
          obtain ⟨z, hz, h⟩ := bindO_ok h; obtain ⟨u, hu, h1, h2, h3⟩ := bindO_ok h; exact s_storeBox hd hsz hdef hR ho hx (b := b) (by rw [hj]; rfl) hz hu h1 h2 (by rw [hj]; exact h3)
        · rename_i nn b hj
          obtain ⟨z, hz, h⟩ := bindO_ok h; obtain ⟨u, hu, h1, h2, h3⟩ := bindO_ok h; exact s_storeBox hd hsz hdef hR ho hx (b := b) (by rw [hj]; rfl) hz hu h1 h2 (by rw [hj]; exact h3)
        · exact h.elim
      · rename_i j i p hx
        split at h
        · rename_i e l hj
          obtain ⟨b, hb, h⟩ := bindO_ok h; obtain ⟨z, hz, h⟩ := bindO_ok h; obtain ⟨u, hu, h1, h2, h3⟩ := bindO_ok h; split at h3
          · obtain ⟨k, lo, hk, hkj, h3⟩ := h3; have hj' : ownOf (σ j) = some (e, l) := by rw [hj]; rfl
            exact s_storeRowG hd hsz hdef hR ho hx (e := e) (l := l) hj' hb hz hu h1 h2 (fun _ _ _ hr => hR.resub hk hkj hj' (by simp) hr) (by rw [hj]; exact h3)
          · exact s_storeRow hd hsz hdef hR ho hx (e := e) (l := l) (by rw [hj]; rfl) hb hz hu h1 h2 (by rw [hj]; exact h3)
        · rename_i nn e l hj
          obtain ⟨b, hb, h⟩ := bindO_ok h; obtain ⟨z, hz, h⟩ := bindO_ok h; obtain ⟨u, hu, h1, h2, h3⟩ := bindO_ok h; exact s_storeRow hd hsz hdef hR ho hx (e := e) (l := l) (by rw [hj]; rfl) hb hz hu h1 h2 (by rw [hj]; exact h3)
        · exact h.elim
      · exact h.elim
    · rename_i c ho
      obtain ⟨callee, args, ts⟩ := c; unfold vCallN at h; simp only at h; split at h
      · rename_i x t ha ht
        obtain rfl := arr1 ha; obtain rfl := arr1 ht; obtain ⟨e, he, h⟩ := bindO_ok h; split at h
        · rename_i j lo hx
          split at h
          · rename_i e' l hj
            obtain ⟨h1, h⟩ := h; obtain ⟨z, hz, h2, h⟩ := bindO_ok h; exact s_clearN hsz hdef hR hd ho (sliceE_ok he) hx hj h1 hz h2 h
          · exact h.elim
        · exact h.elim
      · rename_i x i t t' ha ht
        obtain rfl := arr2 ha; obtain rfl := arr2 ht; split at h
        · rename_i u hx
          obtain ⟨k, hk, j, kt, vt, m, m2, E, hu, hj, hf, hp, h⟩ := bindO_ok h; exact s_deleteN hd hsz hdef hR ho hu hx hj hk hf hp h
        · exact h.elim
      · rename_i f
        split at h
        · rename_i g caps hf
          obtain ⟨h1, h⟩ := h; have h1' : ∀ c ∈ caps, c.isAgg = false := fun c hc => by have := List.all_eq_true.1 h1 c hc; simpa using this
          obtain ⟨xa, hxa, ks, b, Post, hks, hnd, hfn, h⟩ := bindO_ok h; exact s_callGN hlt hsz hdef hR ho hf h1' hxa ks hks hnd b hfn (by rw [hd]; exact h)
        · rename_i g first hf
          obtain ⟨xa, hxa, ks, b, Post, hks, hnd, hfn, h⟩ := bindO_ok h; exact s_callGB hlt hsz hdef hR ho hf hxa ks hks hnd b hfn (by rw [hd]; exact h)
        · exact h.elim
      · exact h.elim
    · rename_i t x i y ho
      unfold vUpd at h; split at h
      · rename_i u hx
        obtain ⟨k, hk, h⟩ := bindO_ok h; obtain ⟨z, hz, j, kt, vt, m, m2, E, hu, hj, hf, hp, h⟩ := bindO_ok h; exact s_mapUpdate hd hsz hdef hR (.inl ho) hu hx hj hk hf hz hp h
      · exact h.elim
    · rename_i t x i y ho
      unfold vUpd at h; split at h
      · rename_i u hx
        obtain ⟨k, hk, h⟩ := bindO_ok h; obtain ⟨z, hz, j, kt, vt, m, m2, E, hu, hj, hf, hp, h⟩ := bindO_ok h; exact s_mapUpdate hd hsz hdef hR (.inr ho) hu hx hj hk hf hz hp h
      · exact h.elim
    · exact h.elim
end Go.Vw
namespace Go.Vw
open Go.RowKit Go.Proofs
variable {P : Program} {F : Nat → Bool} {w0 : World} {L0 : Nat → Nat → Prop} {row : Nat → Prop} {n : Nat} {K : St → Prop} {Q : Exit → Act → World → Prop}
  {w w' : World} {L L' : Nat → Nat → Prop} {O O' : Nat → Option Nat} {σ σ' : St} {a : Act} {o : Oper} {d : Nat} {v : Value} {tm : Nat → Value}
theorem yielded_of {ops : Array Oper} {j t : Nat} {b : Bool} (hR : Rel P w0 L0 row w L O σ (tmOf a)) (hj : (ops[j]?).bind (·.dst) = some t) (ht : σ t = .d (.bool b)) : yielded ops a.tmps j = some b := by
  have h1 := hR.slots t; rw [ht] at h1; have h2 : tmOf a t = .bool b := RepV.bool_inv h1; have h3 : a.tmps[t]? = some (.bool b) := by
    simp only [tmOf, Array.getD_eq_getD_getElem?] at h2; cases hx : a.tmps[t]? with
    | none => rw [hx] at h2; simp [undef] at h2
    | some x => rw [hx] at h2; simp only [Option.getD_some] at h2; rw [h2]
  simp only [yielded, hj, Option.bind_some, h3]
theorem yielded_not {ops : Array Oper} {j t : Nat} (hR : Rel P w0 L0 row w L O σ (tmOf a)) (hj : (ops[j]?).bind (·.dst) = some t) (ht : σ t = .tup []) : yielded ops a.tmps j = none := by
  have h1 := hR.slots t; rw [ht] at h1; obtain ⟨vs, h2, h4⟩ := h1; obtain rfl : vs = [] := h4; simp only [tmOf, Array.getD_eq_getD_getElem?] at h2; cases hx : a.tmps[t]? with
  | none => simp only [yielded, hj, Option.bind_some, hx]
  | some x => rw [hx] at h2; simp only [Option.getD_some] at h2; simp only [yielded, hj, Option.bind_some, hx, h2]
theorem goodPutO (hR : Rel P w0 L0 row w L O σ (tmOf a)) (hlt : ∀ d, o.dst = some d → d < n) (hsz : a.tmps.size = n) (hdef : a.defers = []) (h : K (putO σ o.dst)) : Good P w0 L0 row n K (a.put o.dst undef) w := by
  cases hd : o.dst with
  | none => rw [hd] at h; exact ⟨L, O, σ, hR, hdef, hsz, h⟩
  | some d =>
    rw [hd] at h; refine ⟨L, setv O d none, put σ d (.tup []), ?_, by simpa [Act.put] using hdef, by simpa [Act.put] using hsz, h⟩; rw [tmOf_put (by rw [hsz]; exact hlt d hd)]; exact hR.putPure d (.tup []) undef ⟨[], rfl, rfl⟩
theorem vops_ok {ops : Array Oper} : ∀ (l : List Oper) (a : Act) (w : World), (∀ o ∈ l, ∀ d, o.dst = some d → d < n) → Good P w0 L0 row n (vops P F ops l K) a w → (∀ a w, Good P w0 L0 row n K a w → Q .normal a w) → wpList P ops Q l a w
  | [], a, w, _, h, hQ => hQ a w h
  | o :: l, a, w, hdst, h, hQ => by
    refine wpList_step (fun K' hK' => ?_); have hrest : ∀ a w, Good P w0 L0 row n (vops P F ops l K) a w → K' a w := fun a w hg => hK' a w (vops_ok l a w (fun o ho => hdst o (by simp [ho])) hg hQ)
    obtain ⟨L, O, σ, hR, hdef, hsz, hv⟩ := h; have hlt := hdst o (by simp); simp only [vops] at hv; have run : vop P F o (vops P F ops l K) σ → o.wp P a w K' Q := fun hv => by
      have h1 : o.wp P a w (Good P w0 L0 row n (vops P F ops l K)) Q := vop_ok hlt hsz hdef hR hv; unfold Oper.wp at h1 ⊢; generalize (execOp a.eval o).run P w = res at h1 ⊢; unfold Oper.upon at h1 ⊢; split <;> simp only at h1 ⊢
      · exact hrest _ _ h1
      · exact hrest _ _ h1
      · exact hrest _ _ h1
      · refine h1.mono ?_; intro e' w'' hh; cases e' with
        | returned v => exact hrest _ _ hh
        | panicked ch => exact hh
        | outgrown => exact hh
      · exact h1.mono fun v w'' hh => hrest _ _ hh
      · exact h1
    cases hg : o.guard with
    | none =>
      rw [hg] at hv; simp only [Region.wanted, hg, if_true]; exact run hv
    | some g =>
      obtain ⟨j, want⟩ := g; rw [hg] at hv; obtain ⟨t, ht, hv⟩ := bindO_ok hv; split at hv
      · rename_i b hb
        have hy := yielded_of hR ht hb; simp only [Region.wanted, hg, hy]; by_cases hbw : b = want
        · subst hbw; simp only [BEq.rfl, if_true]; exact run (hv.1 rfl)
        · have : (some b == some want) = false := (by simpa using hbw); simp only [this, Bool.false_eq_true, if_false]; exact hrest _ _ (goodPutO hR hlt hsz hdef (hv.2 hbw))
      · rename_i hb
        have hy := yielded_not hR ht hb; have : (none == some want) = false := rfl; simp only [Region.wanted, hg, hy, this, Bool.false_eq_true, if_false]; exact hrest _ _ (goodPutO hR hlt hsz hdef hv)
      · exact hv.elim
end Go.Vw
namespace Go.Vw
open Go.RowKit Go.Proofs
def LendP (P : Program) (g : FuncId) (args : List AV) (C : AV → Prop) : Prop := ∃ y, flatD y = true ∧ Ctr P g args (.d y) ∧ C (.d y)
def CallP (P : Program) (g : FuncId) (args : List AV) (b : Bool) (C : AV → Prop) : Prop := ∃ r, Ctr P g args r ∧ C (demote b r)
section
variable (P : Program) (F : Nat → Bool)
def pCall (c : Call) (d : Nat) (σ : St) (C : AV → Prop) : Prop :=
  match c.callee, c.args.toList, c.argTypes.toList with
  | .builtin .len, [x], [t] => (match P.underlying t with
    | some (.slice _) => bindO (lenOf (aval σ x)) fun l => C (.d (.int .i64 l))
    | some .string => (match aval σ x with
      | .d (.str s) => C (.d (.int .i64 s.length))
      | _ => False)
    | some (.map _ _) => (match aval σ x with
      | .d (.raw u) => LenK P t u σ C
      | _ => False)
    | _ => False)
  | .value f, xs, _ => (match aval σ f with
    | .d (.clo g caps) => (caps.all fun c => !c.isAgg) = true ∧
      if F (d + 2000000) then bindO (lendsA σ xs) fun xa => LendP P g (xa ++ caps.map .d) C
      else eaten σ xs = [] ∧ bindO (argsA σ xs) fun xa => CallP P g (xa ++ caps.map .d) (F d) C
    | _ => False)
  | _, _, _ => False
def pIndexAddr (t : TypeId) (x i : Operand) (σ : St) (C : AV → Prop) : Prop :=
  bindO (sliceE P t) fun e => match aval σ i with
  | .d (.int _ m) => 0 ≤ m ∧ (match aval σ x with
    | .bor j true e' l => ety e' = e ∧ m.toNat < l.length ∧ C (.eadr j m.toNat [])
    | .d (.raw u) => RawIx e m.toNat u σ C
    | .sub j lo => bindO (ownOf (σ j)) fun q => ety q.1 = e ∧ lo + m.toNat < q.2.length ∧ C (.eadr j (lo + m.toNat) [])
    | y => (match asD y with
      | some (.sl ds) => bindO (szOf P e) fun sz => bindO (ds[m.toNat]?) fun z => width z = sz ∧ C (.d (.ref z))
      | _ => False))
  | _ => False
def pFieldAddr (s : TypeId) (x : Operand) (f : Nat) (σ : St) (C : AV → Prop) : Prop :=
  match aval σ x with
  | .d (.ref (.agg ds)) => bindO (ds[f]?) fun y => fieldOff P s f = some (widths (ds.take f)) ∧ C (.d (.ref y))
  | .d (.raw u) => RawFd P s f u σ C
  | .adr j p => (match boxOf (σ j) with
    | some b => (match D.get p b with
      | some (.agg ds) => f < ds.length ∧ fieldOff P s f = some (widths (ds.take f)) ∧ C (.adr j (p ++ [f]))
      | _ => False)
    | _ => False)
  | .eadr j i p => (match ownOf (σ j) with
    | some (_, l) => bindO (l[i]?) fun y => (match D.get p y with
      | some (.agg ds) => f < ds.length ∧ fieldOff P s f = some (widths (ds.take f)) ∧ C (.eadr j i (p ++ [f]))
      | _ => False)
    | _ => False)
  | _ => False
def pSlice (t : TypeId) (x : Operand) (lo hi : Option Operand) (σ : St) (C : AV → Prop) : Prop :=
  match P.underlying t with
  | some .string => (match aval σ x with
    | .d (.str s) => bindO (bnd σ lo 0) fun i => bindO (bnd σ hi s.length) fun j => i ≤ j ∧ j ≤ s.length ∧ C (.d (.str ((s.drop i).take (j - i))))
    | _ => False)
  | some (.slice e) => (match asD (aval σ x) with
    | some (.sl ds) => bindO (szOf P e) fun sz => bindO (bnd σ lo 0) fun i => bindO (bnd σ hi ds.length) fun j => i ≤ j ∧ j ≤ ds.length ∧ (∀ y ∈ ds, width y = sz) ∧ C (.d (.sl ((ds.drop i).take (j - i))))
    | _ => False)
  | _ => False
def pConvert (s t : TypeId) (x : Operand) (σ : St) (C : AV → Prop) : Prop :=
  match P.underlying s, P.underlying t with
  | some .string, some .string => (match aval σ x with
    | .d (.str st) => C (.d (.str st))
    | _ => False)
  | some _, some (.int k') => (match aval σ x with
    | .d (.int _ m) => InR k' m ∧ C (.d (.int k' m))
    | _ => False)
  | _, _ => False
def allD : List AV → Bool
  | [] => true
  | .d _ :: l => allD l
  | _ => false
theorem allD_ok : ∀ {l : List AV}, allD l = true → ∀ x ∈ l, ∃ d, x = .d d
  | [], _, x, hx => by simp at hx
  | y :: l, h, x, hx => by
    cases y <;> simp only [allD] at h <;> try cases h
    rename_i d
    rcases List.mem_cons.1 hx with rfl | hx
    · exact ⟨d, rfl⟩
    · exact allD_ok h x hx
def pMove (asg : Bool) (x : Operand) (σ : St) (C : AV → Prop) : Prop :=
  match x with
  | .tmp t => (match σ t with
    | .own m e l => asg = false ∧ C (.bor t m e l)
    | .tup l => asg = false ∧ allD l = true ∧ C (.tup l)
    | _ => C (aval σ x))
  | .const (.slice none 0 0) => False
  | _ => C (aval σ x)
def pExtract (x : Operand) (i : Nat) (σ : St) (C : AV → Prop) : Prop :=
  match x with
  | .tmp t => (match σ t with
    | .tup l => (match l[i]? with
      | some (.d y) => C (.d y)
      | _ => False)
    | _ => False)
  | _ => False
def pureE (op : Op) (d : Nat) (σ : St) (C : AV → Prop) : Prop :=
  match op with
  | .move x => pMove false x σ C
  | .assign x => pMove true x σ C
  | .pick c x y => (match aval σ c with
    | .d (.bool b) => (b = true → C (aval σ x)) ∧ (b = false → C (aval σ y))
    | _ => False)
  | .load t x => bindO (derefO P σ x) fun y => tyk P t = some (y.isAgg, width y) ∧ C (.d y)
  | .nilCheck x => bindO (sure σ (aval σ x)) fun _ => C (aval σ x)
  | .build t ps => bindO (if F (d + 1000000) then structDX P true t else structD P t) fun zs => bindO (partsD σ ps.toList) fun ys => fillFits zs ys ∧ C (.d (.agg (fillD zs ys)))
  | .buildSlice t len ps => bindO (sliceE P t) fun e => bindO (esz P e) fun z => bindO (partsD σ ps.toList) fun ys => ys.map (·.1) = List.range len ∧ (∀ y ∈ ys.map (·.2), width y = z.1) ∧ len * z.1 ≤ 16777216 ∧
      C (.own (F d) e (ys.map (·.2)))
  | .fieldAddr s x f => pFieldAddr P s x f σ C
  | .indexAddr t x i => pIndexAddr P t x i σ C
  | .index t x i => (match P.underlying t, aval σ x, aval σ i with
    | some .string, .d (.str s), .d (.int _ m) => 0 ≤ m ∧ bindO (s[m.toNat]?) fun c => C (.d (.int .u8 c.toNat))
    | _, _, _ => False)
  | .slice t x lo hi none => pSlice P t x lo hi σ C
  | .binOp op t x y _ => bindO (asD (aval σ x)) fun dx => bindO (asD (aval σ y)) fun dy => binS P t op dx dy fun r => C (.d r)
  | .unOp .not _ x => (match aval σ x with
    | .d (.bool b) => C (.d (.bool !b))
    | _ => False)
  | .convert s t x => pConvert P s t x σ C
  | .extract x i => pExtract x i σ C
  | .call c => pCall P F c d σ C
  | .lookup t x i c => (match aval σ x with
    | .d (.raw u) => bindO (asD (aval σ i)) fun k => LookK P t u k c σ C
    | _ => False)
  | _ => False
end
variable {P : Program} {F : Nat → Bool} {w0 : World} {L0 : Nat → Nat → Prop} {row : Nat → Prop} {n : Nat} {K : St → Prop} {Q : Exit → Act → World → Prop}
  {w w' : World} {L L' : Nat → Nat → Prop} {O O' : Nat → Option Nat} {σ σ' : St} {a : Act} {o : Oper} {d : Nat} {v : Value} {tm : Nat → Value}
theorem bindO_imp {α : Type} {x : Option α} {f g : α → Prop} (h : bindO x f) (hfg : ∀ y, f y → g y) : bindO x g := by
  obtain ⟨y, rfl, hy⟩ := bindO_ok h; exact hfg y hy
theorem binD_imp {u : Option TypeDesc} {op : BinOp} {x y : D} {C C' : D → Prop} (h : binD u op x y C) (hc : ∀ r, C r → C' r) : binD u op x y C' := by
  unfold binD at h ⊢; split at h
  · cases op <;> simp only at h ⊢ <;> first
      | exact (h : False).elim
      | exact ⟨h.1, hc _ h.2⟩
      | exact ⟨h.1, h.2.1, hc _ h.2.2⟩
      | exact ⟨h.1, h.2.1, h.2.2.1, hc _ h.2.2.2⟩
      | exact ⟨h.1, h.2.1, h.2.2.1, h.2.2.2.1, hc _ h.2.2.2.2⟩
      | exact ⟨h.1, h.2.1, h.2.2.1, h.2.2.2.1, h.2.2.2.2.1, hc _ h.2.2.2.2.2⟩
  · obtain ⟨h1, h⟩ := h; refine ⟨h1, ?_⟩; cases op <;> simp only at h ⊢ <;> first | exact hc _ h | exact (h : False).elim
  · obtain ⟨h1, h⟩ := h; refine ⟨h1, ?_⟩; cases op <;> simp only at h ⊢ <;> first | exact hc _ h | exact (h : False).elim
  · obtain ⟨h1, h⟩ := h; refine ⟨h1, ?_⟩; cases op <;> simp only at h ⊢ <;> first | exact hc _ h | exact (h : False).elim
  · obtain ⟨h1, h⟩ := h; refine ⟨h1, ?_⟩; cases op <;> simp only at h ⊢ <;> first | exact hc _ h | exact (h : False).elim
  · cases op <;> simp only at h ⊢ <;> first
      | exact hc _ h
      | exact ⟨h.1, hc _ h.2⟩
  · obtain ⟨h1, h⟩ := h; refine ⟨h1, ?_⟩; cases op <;> simp only at h ⊢ <;> exact hc _ h
  · exact h.elim
theorem binD_det {u : Option TypeDesc} {op : BinOp} {x y : D} {C : D → Prop} (h : binD u op x y C) : ∃ r, binD u op x y (fun q => q = r) ∧ C r := by
  unfold binD at h ⊢; split at h
  · cases op <;> simp only at h ⊢ <;> first
      | exact (h : False).elim
      | exact ⟨_, ⟨h.1, rfl⟩, h.2⟩
      | exact ⟨_, ⟨h.1, h.2.1, rfl⟩, h.2.2⟩
      | exact ⟨_, ⟨h.1, h.2.1, h.2.2.1, rfl⟩, h.2.2.2⟩
      | exact ⟨_, ⟨h.1, h.2.1, h.2.2.1, h.2.2.2.1, rfl⟩, h.2.2.2.2⟩
      | exact ⟨_, ⟨h.1, h.2.1, h.2.2.1, h.2.2.2.1, h.2.2.2.2.1, rfl⟩, h.2.2.2.2.2⟩
  · obtain ⟨h1, h⟩ := h; cases op <;> simp only at h ⊢ <;> first | exact ⟨_, ⟨h1, rfl⟩, h⟩ | exact (h : False).elim
  · obtain ⟨h1, h⟩ := h; cases op <;> simp only at h ⊢ <;> first | exact ⟨_, ⟨h1, rfl⟩, h⟩ | exact (h : False).elim
  · obtain ⟨h1, h⟩ := h; cases op <;> simp only at h ⊢ <;> first | exact ⟨_, ⟨h1, rfl⟩, h⟩ | exact (h : False).elim
  · obtain ⟨h1, h⟩ := h; cases op <;> simp only at h ⊢ <;> first | exact ⟨_, ⟨h1, rfl⟩, h⟩ | exact (h : False).elim
  · cases op <;> simp only at h ⊢ <;> first
      | exact ⟨_, rfl, h⟩
      | exact ⟨_, ⟨h.1, rfl⟩, h⟩
      | exact ⟨_, ⟨h.1, rfl⟩, h.2⟩
  · obtain ⟨h1, h⟩ := h; cases op <;> simp only at h ⊢ <;> exact ⟨_, ⟨h1, rfl⟩, h⟩
  · exact h.elim
theorem binS_imp {t : TypeId} {op : BinOp} {x y : D} {C C' : D → Prop} (h : binS P t op x y C) (hc : ∀ r, C r → C' r) : binS P t op x y C' := by
  unfold binS at h ⊢; split at h
  · refine ⟨h.1, h.2.1, ?_⟩; have h3 := h.2.2; cases op <;> simp only at h3 ⊢ <;> first | exact hc _ h3 | exact h3.elim
  · exact binD_imp h hc
theorem binS_det {t : TypeId} {op : BinOp} {x y : D} {C : D → Prop} (h : binS P t op x y C) : ∃ r, binS P t op x y (fun q => q = r) ∧ C r := by
  unfold binS at h ⊢; split at h
  · obtain ⟨h1, h2, h3⟩ := h; cases op <;> simp only at h3 ⊢ <;> first | exact ⟨_, ⟨h1, h2, rfl⟩, h3⟩ | exact h3.elim
  · exact binD_det h
theorem pureE_det {op : Op} {C : AV → Prop} (h : pureE P F op d σ C) : ∃ v, pureE P F op d σ (fun x => x = v) ∧ C v := by
  unfold pureE at h ⊢; split at h
  · unfold pMove at h ⊢; split at h
    · split at h
      · exact ⟨_, ⟨h.1, rfl⟩, h.2⟩
      · exact ⟨_, ⟨h.1, h.2.1, rfl⟩, h.2.2⟩
      · exact ⟨_, rfl, h⟩
    · exact h.elim
    · exact ⟨_, rfl, h⟩
  · unfold pMove at h ⊢; split at h
    · split at h
      · exact ⟨_, ⟨h.1, rfl⟩, h.2⟩
      · exact ⟨_, ⟨h.1, h.2.1, rfl⟩, h.2.2⟩
      · exact ⟨_, rfl, h⟩
    · exact h.elim
    · exact ⟨_, rfl, h⟩
  · split at h
    · rename_i b hb
      cases b with
      | true => exact ⟨_, ⟨fun _ => rfl, (by intro e; cases e)⟩, h.1 rfl⟩
      | false => exact ⟨_, ⟨(by intro e; cases e), fun _ => rfl⟩, h.2 rfl⟩
    · exact h.elim
  · obtain ⟨y, hy, h1, h2⟩ := bindO_ok h; simp only [hy, bindO_some]; exact ⟨_, ⟨h1, rfl⟩, h2⟩
  · obtain ⟨y, hy, h2⟩ := bindO_ok h; simp only [hy, bindO_some]; exact ⟨_, rfl, h2⟩
  · obtain ⟨y, hy, h⟩ := bindO_ok h; obtain ⟨z, hz, h1, h2⟩ := bindO_ok h; simp only [hy, hz, bindO_some]; exact ⟨_, ⟨h1, rfl⟩, h2⟩
  · obtain ⟨y, hy, h⟩ := bindO_ok h; obtain ⟨z, hz, h⟩ := bindO_ok h; obtain ⟨u, hu, h1, h2, h3, h4⟩ := bindO_ok h; simp only [hy, hz, hu, bindO_some]; exact ⟨_, ⟨h1, h2, h3, rfl⟩, h4⟩
  · unfold pFieldAddr at h ⊢; split at h
    · obtain ⟨y, hy, h1, h2⟩ := bindO_ok h; simp only [hy, bindO_some]; exact ⟨_, ⟨h1, rfl⟩, h2⟩
    · obtain ⟨j, e1, ds, h0, h1, h2, h3, h4⟩ := h; exact ⟨_, ⟨j, e1, ds, h0, h1, h2, h3, rfl⟩, h4⟩
    · split at h
      · split at h
        · exact ⟨_, ⟨h.1, h.2.1, rfl⟩, h.2.2⟩
        · exact h.elim
      · exact h.elim
    · split at h
      · obtain ⟨y, hy, h⟩ := bindO_ok h; simp only [hy, bindO_some]; split at h
        · exact ⟨_, ⟨h.1, h.2.1, rfl⟩, h.2.2⟩
        · exact h.elim
      · exact h.elim
    · exact h.elim
  · unfold pIndexAddr at h ⊢; obtain ⟨e, he, h⟩ := bindO_ok h; simp only [he, bindO_some]; split at h
    · obtain ⟨h0, h⟩ := h; split at h
      · exact ⟨_, ⟨h0, h.1, h.2.1, rfl⟩, h.2.2⟩
      · obtain ⟨j, e', l, h1, h2, h3, h4, h5⟩ := h; exact ⟨_, ⟨h0, j, e', l, h1, h2, h3, h4, rfl⟩, h5⟩
      · obtain ⟨q, hq, h1, h2, h3⟩ := bindO_ok h; simp only [hq, bindO_some]; exact ⟨_, ⟨h0, h1, h2, rfl⟩, h3⟩
      · split at h
        · obtain ⟨y, hy, h⟩ := bindO_ok h; obtain ⟨z, hz, h1, h2⟩ := bindO_ok h; simp only [hy, hz, bindO_some]; exact ⟨_, ⟨h0, h1, rfl⟩, h2⟩
        · exact h.elim
    · exact h.elim
  · split at h
    · obtain ⟨h0, h⟩ := h; obtain ⟨y, hy, h⟩ := bindO_ok h; simp only [hy, bindO_some]; exact ⟨_, ⟨h0, rfl⟩, h⟩
    · exact h.elim
  · unfold pSlice at h ⊢; split at h
    · split at h
      · obtain ⟨y, hy, h⟩ := bindO_ok h; obtain ⟨z, hz, h1, h2, h3⟩ := bindO_ok h; simp only [hy, hz, bindO_some]; exact ⟨_, ⟨h1, h2, rfl⟩, h3⟩
      · exact h.elim
    · split at h
      · obtain ⟨y, hy, h⟩ := bindO_ok h; obtain ⟨z, hz, h⟩ := bindO_ok h; obtain ⟨u, hu, h1, h2, h3, h4⟩ := bindO_ok h; simp only [hy, hz, hu, bindO_some]; exact ⟨_, ⟨h1, h2, h3, rfl⟩, h4⟩
      · exact h.elim
    · exact h.elim
  · obtain ⟨y, hy, h⟩ := bindO_ok h; obtain ⟨z, hz, h⟩ := bindO_ok h; obtain ⟨r, h1, h2⟩ := binS_det h; simp only [hy, hz, bindO_some]; exact ⟨.d r, binS_imp h1 (fun q hq => by rw [hq]), h2⟩
  · split at h
    · exact ⟨_, rfl, h⟩
    · exact h.elim
  · unfold pConvert at h ⊢; split at h
    · split at h
      · exact ⟨_, rfl, h⟩
      · exact h.elim
    · split at h
      · exact ⟨_, ⟨h.1, rfl⟩, h.2⟩
      · exact h.elim
    · exact h.elim
  · unfold pExtract at h ⊢; split at h
    · split at h
      · split at h
        · exact ⟨_, rfl, h⟩
        · exact h.elim
      · exact h.elim
    · exact h.elim
  · unfold pCall at h ⊢; split at h
    · split at h
      · obtain ⟨y, hy, h⟩ := bindO_ok h; simp only [hy, bindO_some]; exact ⟨_, rfl, h⟩
      · split at h
        · exact ⟨_, rfl, h⟩
        · exact h.elim
      · split at h
        · obtain ⟨j, kt, vt, kt', m, E, g0, g1, g2, h⟩ := h; exact ⟨_, ⟨j, kt, vt, kt', m, E, g0, g1, g2, rfl⟩, h⟩
        · exact h.elim
      · exact h.elim
    · split at h
      · obtain ⟨h1, h⟩ := h; split at h
        · rename_i hF
          obtain ⟨y, hy, r, h2, hr, h⟩ := bindO_ok h; refine ⟨.d r, ⟨h1, ?_⟩, h⟩; rw [if_pos hF, hy]; exact ⟨r, h2, hr, rfl⟩
        · rename_i hF
          obtain ⟨h2, h⟩ := h; obtain ⟨y, hy, r, hr, h⟩ := bindO_ok h; refine ⟨demote (F d) r, ⟨h1, ?_⟩, h⟩; rw [if_neg hF, hy]; exact ⟨h2, r, hr, rfl⟩
      · exact h.elim
    · exact h.elim
  · split at h
    · obtain ⟨k, hk, ⟨j, kt, vt, z, m, E, g0, g1, g2, g3, g4, h⟩ | ⟨g0, kt, vt, z, g1, g3, g4, h⟩⟩ := bindO_ok h
      · refine ⟨_, ?_, h⟩; rw [hk]; exact .inl ⟨j, kt, vt, z, m, E, g0, g1, g2, g3, g4, rfl⟩
      · refine ⟨_, ?_, h⟩; rw [hk]; exact .inr ⟨g0, kt, vt, z, g1, g3, g4, rfl⟩
    · exact h.elim
  · exact h.elim
theorem pureE_mono {op : Op} {C C' : AV → Prop} (h : pureE P F op d σ C) (hC : ∀ v, C v → C' v) : pureE P F op d σ C' := by
  unfold pureE at h ⊢; split at h
  · unfold pMove at h ⊢; split at h
    · split at h
      · exact ⟨h.1, hC _ h.2⟩
      · exact ⟨h.1, h.2.1, hC _ h.2.2⟩
      · exact hC _ h
    · exact h.elim
    · exact hC _ h
  · unfold pMove at h ⊢; split at h
    · split at h
      · exact ⟨h.1, hC _ h.2⟩
      · exact ⟨h.1, h.2.1, hC _ h.2.2⟩
      · exact hC _ h
    · exact h.elim
    · exact hC _ h
  · split at h
    · exact ⟨fun e => hC _ (h.1 e), fun e => hC _ (h.2 e)⟩
    · exact h.elim
  · exact bindO_imp h fun y hy => ⟨hy.1, hC _ hy.2⟩
  · exact bindO_imp h fun y hy => hC _ hy
  · exact bindO_imp h fun y hy => bindO_imp hy fun z hz => ⟨hz.1, hC _ hz.2⟩
  · exact bindO_imp h fun y hy => bindO_imp hy fun z hz => bindO_imp hz fun u hu => ⟨hu.1, hu.2.1, hu.2.2.1, hC _ hu.2.2.2⟩
  · unfold pFieldAddr at h ⊢; split at h
    · exact bindO_imp h fun y hy => ⟨hy.1, hC _ hy.2⟩
    · obtain ⟨j, e1, ds, h0, h1, h2, h3, h4⟩ := h; exact ⟨j, e1, ds, h0, h1, h2, h3, hC _ h4⟩
    · split at h
      · split at h
        · exact ⟨h.1, h.2.1, hC _ h.2.2⟩
        · exact h.elim
      · exact h.elim
    · split at h
      · refine bindO_imp h fun y hy => ?_
        split at hy
        · exact ⟨hy.1, hy.2.1, hC _ hy.2.2⟩
        · exact hy.elim
      · exact h.elim
    · exact h.elim
  · unfold pIndexAddr at h ⊢; refine bindO_imp h fun e h => ?_
    split at h
    · obtain ⟨h0, h⟩ := h; refine ⟨h0, ?_⟩; split at h
      · exact ⟨h.1, h.2.1, hC _ h.2.2⟩
      · obtain ⟨j, e', l, h1, h2, h3, h4, h5⟩ := h; exact ⟨j, e', l, h1, h2, h3, h4, hC _ h5⟩
      · exact bindO_imp h fun q h => ⟨h.1, h.2.1, hC _ h.2.2⟩
      · split at h
        · exact bindO_imp h fun y hy => bindO_imp hy fun z hz => ⟨hz.1, hC _ hz.2⟩
        · exact h.elim
    · exact h.elim
  · split at h
    · exact ⟨h.1, bindO_imp h.2 fun y hy => hC _ hy⟩
    · exact h.elim
  · unfold pSlice at h ⊢; split at h
    · split at h
      · exact bindO_imp h fun y hy => bindO_imp hy fun z hz => ⟨hz.1, hz.2.1, hC _ hz.2.2⟩
      · exact h.elim
    · split at h
      · exact bindO_imp h fun y hy => bindO_imp hy fun z hz => bindO_imp hz fun u hu => ⟨hu.1, hu.2.1, hu.2.2.1, hC _ hu.2.2.2⟩
      · exact h.elim
    · exact h.elim
  · exact bindO_imp h fun y hy => bindO_imp hy fun z hz => binS_imp hz fun r hr => hC _ hr
  · split at h
    · exact hC _ h
    · exact h.elim
  · unfold pConvert at h ⊢; split at h
    · split at h
      · exact hC _ h
      · exact h.elim
    · split at h
      · exact ⟨h.1, hC _ h.2⟩
      · exact h.elim
    · exact h.elim
  · unfold pExtract at h ⊢; split at h
    · split at h
      · split at h
        · exact hC _ h
        · exact h.elim
      · exact h.elim
    · exact h.elim
  · unfold pCall at h ⊢; split at h
    · split at h
      · exact bindO_imp h fun y hy => hC _ hy
      · split at h
        · exact hC _ h
        · exact h.elim
      · split at h
        · obtain ⟨j, kt, vt, kt', m, E, g0, g1, g2, h⟩ := h; exact ⟨j, kt, vt, kt', m, E, g0, g1, g2, hC _ h⟩
        · exact h.elim
      · exact h.elim
    · split at h
      · obtain ⟨h1, h⟩ := h; refine ⟨h1, ?_⟩; split at h
        · rename_i hF
          rw [if_pos hF]; exact bindO_imp h fun y ⟨r, h2, hr, hc⟩ => ⟨r, h2, hr, hC _ hc⟩
        · rename_i hF
          rw [if_neg hF]; exact ⟨h.1, bindO_imp h.2 fun y ⟨r, hr, hc⟩ => ⟨r, hr, hC _ hc⟩⟩
      · exact h.elim
    · exact h.elim
  · split at h
    · exact bindO_imp h fun k h => h.imp (fun ⟨j, kt, vt, z, m, E, g0, g1, g2, g3, g4, h⟩ => ⟨j, kt, vt, z, m, E, g0, g1, g2, g3, g4, hC _ h⟩) (fun ⟨g0, kt, vt, z, g1, g3, g4, h⟩ => ⟨g0, kt, vt, z, g1, g3, g4, hC _ h⟩)
    · exact h.elim
  · exact h.elim
theorem RCs.noOg {og og' : Option Nat} : ∀ {xs : List AV} {vs : List Value}, (∀ x ∈ xs, ∃ d, x = .d d) → RCs P w L og xs vs → RCs P w L og' xs vs
  | [], _, _, h => h
  | x :: xs, vs, hx, h => by
    simp only [RCs] at h ⊢; obtain ⟨v, us, h1, h2, h3⟩ := h; obtain ⟨d, rfl⟩ := hx x (by simp); exact ⟨v, us, h1, h2, RCs.noOg (fun y hy => hx y (by simp [hy])) h3⟩
theorem s_copyTup (hd : o.dst = some d) (hlt : d < n) (hsz : a.tmps.size = n) (hdef : a.defers = []) (hR : Rel P w0 L0 row w L O σ (tmOf a)) {t : Nat} {l : List AV} (ho : o.op = .move (.tmp t)) (ht : σ t = .tup l) (hl : allD l = true) (h : K (put σ d (.tup l))) :
    o.wp P a w (Good P w0 L0 row n K) Q := by
  have h1 := hR.slots t; rw [ht] at h1; obtain ⟨vs, hv, hr⟩ := h1; refine pure_step hd hlt hsz hdef hR (x := .tup l) (v := tmOf a t) ?_ ⟨vs, hv, RCs.noOg (allD_ok hl) hr⟩ h; simp [execOp, ho]; rfl
theorem pureE_ok (hd : o.dst = some d) (hlt : d < n) (hsz : a.tmps.size = n) (hdef : a.defers = []) (hR : Rel P w0 L0 row w L O σ (tmOf a)) (h : pureE P F o.op d σ (fun x => K (put σ d x))) : o.wp P a w (Good P w0 L0 row n K) Q := by
  unfold pureE at h; split at h
  · rename_i x ho
    unfold pMove at h; split at h
    · rename_i t
      split at h
      · rename_i m e l ht
        exact s_copy hd hlt hsz hdef hR (.inl ho) (by simp only [aval, ht, rd]; exact h.2)
      · rename_i l ht
        exact s_copyTup hd hlt hsz hdef hR ho ht h.2.1 h.2.2
      · exact s_copy hd hlt hsz hdef hR (.inl ho) h
    · exact h.elim
    · exact s_copy hd hlt hsz hdef hR (.inl ho) h
  · rename_i x ho
    unfold pMove at h; split at h
    · rename_i t
      split at h
      · exact absurd h.1 (by simp)
      · exact absurd h.1 (by simp)
      · exact s_copy hd hlt hsz hdef hR (.inr ho) h
    · exact h.elim
    · exact s_copy hd hlt hsz hdef hR (.inr ho) h
  · rename_i c x y ho
    split at h
    · rename_i b hc; exact s_pick hd hlt hsz hdef hR ho hc h.1 h.2
    · exact h.elim
  · rename_i t x ho
    obtain ⟨y, hy, h1, h2⟩ := bindO_ok h; exact s_load hd hlt hsz hdef hR ho hy h1 h2
  · rename_i x ho
    obtain ⟨y, hy, h⟩ := bindO_ok h; exact s_nilCheck hd hlt hsz hdef hR ho hy h
  · rename_i t ps ho
    obtain ⟨zs, hz, h⟩ := bindO_ok h; obtain ⟨ys, hy, h1, h2⟩ := bindO_ok h; split at hz
    · exact s_build (N := true) hd hlt hsz hdef hR ho hz hy h1 h2
    · exact s_build (N := false) hd hlt hsz hdef hR ho hz hy h1 h2
  · rename_i t len ps ho
    obtain ⟨e, he, h⟩ := bindO_ok h; obtain ⟨z, hz, h⟩ := bindO_ok h; obtain ⟨ys, hy, h1, h2, h3, h4⟩ := bindO_ok h; exact s_buildSlice hd hlt hsz hdef hR ho (sliceE_ok he) (sliceE_lt he) (by rw [hz]) hy h1 h2 h3 (F d) h4
  · rename_i s x f ho
    unfold pFieldAddr at h; split at h
    · rename_i ds hx
      obtain ⟨y, hy, h1, h2⟩ := bindO_ok h; exact s_fieldRef hd hlt hsz hdef hR ho hx hy h1 h2
    · rename_i u hx
      obtain ⟨j, e1, ds, _, hj, h1, h2, h3⟩ := h; exact s_fieldRaw hd hlt hsz hdef hR ho hx hj h1 h2 h3
    · rename_i j p hx
      split at h
      · rename_i b hj
        split at h
        · rename_i ds hp
          exact s_fieldAdr hd hlt hsz hdef hR ho hx hj hp h.1 h.2.1 h.2.2
        · exact h.elim
      · exact h.elim
    · rename_i j i p hx
      split at h
      · rename_i e l hj
        obtain ⟨y, hy, h⟩ := bindO_ok h; split at h
        · rename_i ds hp
          exact s_fieldEadr hd hlt hsz hdef hR ho hx hj hy hp h.1 h.2.1 h.2.2
        · exact h.elim
      · exact h.elim
    · exact h.elim
  · rename_i t x i ho
    unfold pIndexAddr at h; obtain ⟨e, he, h⟩ := bindO_ok h; split at h
    · rename_i k m hi
      obtain ⟨h0, h⟩ := h; split at h
      · rename_i j e' l hx
        obtain ⟨rfl, h1, h2⟩ := h; exact s_indexEadr hd hlt hsz hdef hR ho (sliceE_ok he) hx rfl hi h0 h1 h2
      · rename_i u hx
        obtain ⟨j, e', l, _, hj, h1, h2, h3⟩ := h; exact s_indexRaw hd hlt hsz hdef hR ho (sliceE_ok he) hx hj h1 hi h0 h2 h3
      · rename_i j lo hx
        obtain ⟨⟨e', l⟩, hj, h1, h2, h⟩ := bindO_ok h; exact s_indexSub hd hlt hsz hdef hR ho (sliceE_ok he) hx hj h1 hi h0 h2 h
      · split at h
        · rename_i ds hx
          obtain ⟨sz, hz, h⟩ := bindO_ok h; obtain ⟨z, hzz, h1, h2⟩ := bindO_ok h; exact s_indexRef hd hlt hsz hdef hR ho (sliceE_ok he) hz hx hi h0 hzz h1 h2
        · exact h.elim
    · exact h.elim
  · rename_i t x i ho
    split at h
    · rename_i s k m hu hx hi
      obtain ⟨h0, h⟩ := h; obtain ⟨c, hc, h⟩ := bindO_ok h; exact s_indexS hd hlt hsz hdef hR ho hu hx hi h0 hc h
    · exact h.elim
  · rename_i t x lo hi ho
    unfold pSlice at h; split at h
    · rename_i hu
      split at h
      · rename_i s hx
        obtain ⟨i, hi', h⟩ := bindO_ok h; obtain ⟨j, hj, h1, h2, h3⟩ := bindO_ok h; exact s_sliceS hd hlt hsz hdef hR ho hu hx hi' hj h1 h2 h3
      · exact h.elim
    · rename_i e hu
      split at h
      · rename_i ds hx
        obtain ⟨sz, hz, h⟩ := bindO_ok h; obtain ⟨i, hi', h⟩ := bindO_ok h; obtain ⟨j, hj, h1, h2, h3, h4⟩ := bindO_ok h; exact s_sliceD hd hlt hsz hdef hR ho hu hz hx hi' hj h1 h2 h3 h4
      · exact h.elim
    · exact h.elim
  · rename_i op t x y t' ho
    obtain ⟨dx, hx, h⟩ := bindO_ok h; obtain ⟨dy, hy, h⟩ := bindO_ok h; exact s_bin hd hlt hsz hdef hR ho hx hy h
  · rename_i t x ho
    split at h
    · rename_i b hx; exact s_not hd hlt hsz hdef hR ho hx h
    · exact h.elim
  · rename_i s t x ho
    unfold pConvert at h; split at h
    · rename_i hs ht
      split at h
      · rename_i st hx; exact s_convStr hd hlt hsz hdef hR ho hs ht hx h
      · exact h.elim
    · rename_i u k' hs ht
      split at h
      · rename_i k m hx; exact s_convInt hd hlt hsz hdef hR ho (by simp [hs]) ht hx h.1 h.2
      · exact h.elim
    · exact h.elim
  · rename_i x i ho
    unfold pExtract at h; split at h
    · rename_i t
      split at h
      · rename_i l ht
        split at h
        · rename_i y hy; exact s_extract hd hlt hsz hdef hR ho rfl ht hy h
        · exact h.elim
      · exact h.elim
    · exact h.elim
  · rename_i c ho
    obtain ⟨callee, args, ts⟩ := c; unfold pCall at h; simp only at h; split at h
    · rename_i x t ha ht
      obtain rfl := arr1 ha; obtain rfl := arr1 ht; split at h
      · rename_i e hu
        obtain ⟨l, hl, h⟩ := bindO_ok h; exact s_len hd hlt hsz hdef hR ho hu hl h
      · rename_i hu
        split at h
        · rename_i s hs
          exact s_lenS hd hlt hsz hdef hR ho hu hs h
        · exact h.elim
      · split at h
        · rename_i u hx
          obtain ⟨j, kt, vt, kt', m, E, _, hu, hj, h⟩ := h; exact s_lenM hd hlt hsz hdef hR ho hu hx hj h
        · exact h.elim
      · exact h.elim
    · rename_i f
      split at h
      · rename_i g caps hf
        obtain ⟨h1, h⟩ := h; have h1' : ∀ c ∈ caps, c.isAgg = false := fun c hc => by have := List.all_eq_true.1 h1 c hc; simpa using this
        split at h
        · obtain ⟨xa, hxa, y, hy, hfn, h⟩ := bindO_ok h; exact s_callLend hd hlt hsz hdef hR ho hf h1' hxa hy hfn h
        · obtain ⟨h2, h⟩ := h; obtain ⟨xa, hxa, r, hfn, h⟩ := bindO_ok h; exact s_call hd hlt hsz hdef hR ho hf h1' hxa (by rw [h2]; simp) hfn (F d) (by rw [h2]; exact h)
      · exact h.elim
    · exact h.elim
  · rename_i t x i c ho
    split at h
    · rename_i u hx
      obtain ⟨k, hk, ⟨j, kt, vt, z, m, E, _, hu, hj, hf, hz, h⟩ | ⟨rfl, kt, vt, z, hu, hf, hz, h⟩⟩ := bindO_ok h
      · exact s_lookup hd hlt hsz hdef hR ho hu hx hj hk hf hz h
      · exact s_lookupN hd hlt hsz hdef hR ho hu hx hk hf hz h
    · exact h.elim
  · exact h.elim
def refV : AV → Option Nat
  | .bor j _ _ _ => some j
  | .adr j _ => some j
  | .eadr j _ _ => some j
  | .sub j _ => some j
  | _ => none
def Agr (xs : List Operand) (σ σ' : St) : Prop := (∀ x ∈ xs, (∀ t, x = .tmp t → σ t = σ' t) ∧ ∀ j, refV (aval σ x) = some j → σ j = σ' j) ∧ ∀ j, 1000000 ≤ j → σ j = σ' j
theorem Agr.aval {xs : List Operand} (h : Agr xs σ σ') {x : Operand} (hx : x ∈ xs) : Vw.aval σ x = Vw.aval σ' x := by
  cases x with
  | tmp t => simp only [Vw.aval, (h.1 _ hx).1 t rfl]
  | const v => rfl
  | func f => rfl
  | global g => rfl
theorem Agr.deref {xs : List Operand} (h : Agr xs σ σ') {x : Operand} (hx : x ∈ xs) : Vw.deref σ (Vw.aval σ x) = Vw.deref σ' (Vw.aval σ' x) := by
  have h2 := (h.1 x hx).2; rw [← h.aval hx]; cases hv : Vw.aval σ x <;> rw [hv] at h2
  case d z => cases z <;> rfl
  case adr j p => simp only [Vw.deref, h2 j rfl]
  case eadr j i p => simp only [Vw.deref, h2 j rfl]
  all_goals rfl
theorem Agr.sub {xs ys : List Operand} (h : Agr xs σ σ') (hs : ∀ y ∈ ys, y ∈ xs) : Agr ys σ σ' := ⟨fun y hy => h.1 y (hs y hy), h.2⟩
theorem Agr.bnd {xs : List Operand} (h : Agr xs σ σ') {x : Option Operand} (hx : ∀ y, x = some y → y ∈ xs) (k : Nat) : Vw.bnd σ x k = Vw.bnd σ' x k := by
  cases x with
  | none => rfl
  | some y => simp only [Vw.bnd, h.aval (hx y rfl)]
theorem Agr.parts {xs : List Operand} (h : Agr xs σ σ') : ∀ {ps : List (Nat × Operand)}, (∀ p ∈ ps, p.2 ∈ xs) → partsD σ ps = partsD σ' ps
  | [], _ => rfl
  | (i, x) :: ps, hp => by
    simp only [partsD, h.aval (hp (i, x) (by simp)), h.parts (ps := ps) (fun p hq => hp p (List.mem_cons_of_mem _ hq))]
theorem Agr.args {xs : List Operand} (h : Agr xs σ σ') : ∀ {ys : List Operand}, (∀ y ∈ ys, y ∈ xs) → argsA σ ys = argsA σ' ys ∧ eaten σ ys = eaten σ' ys
  | [], _ => ⟨rfl, rfl⟩
  | y :: ys, hy => by
    have h1 := h.aval (hy y (by simp)); have h2 := h.args (ys := ys) (fun z hz => hy z (List.mem_cons_of_mem _ hz)); simp only [argsA, argA, eaten, h1, h2.1, h2.2, and_self]
theorem Agr.lends {xs : List Operand} (h : Agr xs σ σ') : ∀ {ys : List Operand}, (∀ y ∈ ys, y ∈ xs) → lendsA σ ys = lendsA σ' ys
  | [], _ => rfl
  | y :: ys, hy => by
    have h1 := h.aval (hy y (by simp)); have h2 := h.lends (ys := ys) (fun z hz => hy z (List.mem_cons_of_mem _ hz)); simp only [lendsA, lendA, h1, h2]
theorem pureE_agr {op : Op} {C : AV → Prop} (ha : Agr op.operands.toList σ σ') (h : pureE P F op d σ C) : pureE P F op d σ' C := by
  unfold pureE at h ⊢; split at h
  · rename_i x
    have hx := ha.aval (x := x) (by simp [Op.operands]); unfold pMove at h ⊢; split at h
    · rename_i t
      have ht := (ha.1 (.tmp t) (by simp [Op.operands])).1 t rfl; rw [← ht, ← hx]; exact h
    · exact h.elim
    · rw [← hx]; exact h
  · rename_i x
    have hx := ha.aval (x := x) (by simp [Op.operands]); unfold pMove at h ⊢; split at h
    · rename_i t
      have ht := (ha.1 (.tmp t) (by simp [Op.operands])).1 t rfl; rw [← ht, ← hx]; exact h
    · exact h.elim
    · rw [← hx]; exact h
  · rename_i c x y
    rw [← ha.aval (x := c) (by simp [Op.operands]), ← ha.aval (x := x) (by simp [Op.operands]), ← ha.aval (x := y) (by simp [Op.operands])]; exact h
  · rename_i t x
    have hx : derefO P σ x = derefO P σ' x := by
      have h1 := ha.deref (x := x) (by simp [Op.operands]); cases x with
      | global g => rfl
      | _ => exact h1
    rw [← hx]; exact h
  · rename_i x
    have h1 := ha.deref (x := x) (by simp [Op.operands]); have h2 := ha.aval (x := x) (by simp [Op.operands]); have h3 : sure σ (Vw.aval σ x) = sure σ' (Vw.aval σ' x) := by
      rw [← h2] at h1 ⊢; unfold sure; split
      · rfl
      · rw [h1]
    rw [← h2] at h3 ⊢; rw [← h3]; exact h
  · rename_i t ps
    rw [← ha.parts (ps := ps.toList) (fun p hp => by simp only [Op.operands, List.mem_map]; exact ⟨p, hp, rfl⟩)]; exact h
  · rename_i t len ps
    rw [← ha.parts (ps := ps.toList) (fun p hp => by simp only [Op.operands, List.mem_map]; exact ⟨p, hp, rfl⟩)]; exact h
  · rename_i s x f
    have hx := ha.aval (x := x) (by simp [Op.operands]); have hr := (ha.1 x (by simp [Op.operands])).2; unfold pFieldAddr at h ⊢; rw [← hx]; split at h
    · exact h
    · obtain ⟨j, e1, ds, h0, h1, h2⟩ := h; exact ⟨j, e1, ds, h0, by rw [← ha.2 j h0]; exact h1, h2⟩
    · rename_i j p hv; rw [hv] at hr; simp only [← hr j rfl]; exact h
    · rename_i j i p hv; rw [hv] at hr; simp only [← hr j rfl]; exact h
    · exact h.elim
  · rename_i t x i
    have hx := ha.aval (x := x) (by simp [Op.operands]); have hi := ha.aval (x := i) (by simp [Op.operands]); unfold pIndexAddr at h ⊢; rw [← hx, ← hi]; refine bindO_imp h fun e h => ?_
    split at h
    · obtain ⟨h0, h⟩ := h; refine ⟨h0, ?_⟩; split at h
      · exact h
      · obtain ⟨j, e', l, h1, h2, h3⟩ := h; exact ⟨j, e', l, h1, by rw [← ha.2 j h1]; exact h2, h3⟩
      · rename_i j lo hv
        have hr := (ha.1 x (by simp [Op.operands])).2; rw [hv] at hr; simp only [← hr j rfl]; exact h
      · exact h
    · exact h.elim
  · rename_i t x i
    rw [← ha.aval (x := x) (by simp [Op.operands]), ← ha.aval (x := i) (by simp [Op.operands])]; exact h
  · rename_i t x lo hi
    have hx := ha.aval (x := x) (by simp [Op.operands]); have hl := fun k => ha.bnd (x := lo) (fun y hy => by subst hy; simp [Op.operands]) k
    have hh := fun k => ha.bnd (x := hi) (fun y hy => by subst hy; simp [Op.operands]) k
    unfold pSlice at h ⊢; simp only [← hx, ← hl, ← hh]; exact h
  · rename_i op t x y t'
    rw [← ha.aval (x := x) (by simp [Op.operands]), ← ha.aval (x := y) (by simp [Op.operands])]; exact h
  · rename_i t x
    rw [← ha.aval (x := x) (by simp [Op.operands])]; exact h
  · rename_i s t x
    unfold pConvert at h ⊢; rw [← ha.aval (x := x) (by simp [Op.operands])]; exact h
  · rename_i x i
    unfold pExtract at h ⊢; split at h
    · rename_i t
      have ht := (ha.1 (.tmp t) (by simp [Op.operands])).1 t rfl; rw [← ht]; exact h
    · exact h.elim
  · rename_i c
    unfold pCall at h ⊢; split at h
    · rename_i x t hc hx ht
      rw [← ha.aval (x := x) (by simp [Op.operands, Call.operands, hx])]; split at h
      · exact h
      · exact h
      · split at h
        · obtain ⟨j, kt, vt, kt', m, E, g0, g1, g2, h⟩ := h; exact ⟨j, kt, vt, kt', m, E, g0, g1, by rw [← ha.2 j g0]; exact g2, h⟩
        · exact h.elim
      · exact h.elim
    · rename_i f hc
      have hf := ha.aval (x := f) (by simp [Op.operands, Call.operands, hc]); have hxs := ha.args (ys := c.args.toList) (fun y hy => by simp only [Op.operands, Call.operands, Array.toList_append, List.mem_append]; exact .inr hy); have hls := ha.lends (ys := c.args.toList) (fun y hy => by simp only [Op.operands, Call.operands, Array.toList_append, List.mem_append]; exact .inr hy); rw [← hf, ← hxs.1, ← hxs.2, ← hls]; exact h
    · exact h.elim
  · rename_i t x i c
    rw [← ha.aval (x := x) (by simp [Op.operands]), ← ha.aval (x := i) (by simp [Op.operands])]; split at h
    · refine bindO_imp h fun k h => h.imp (fun ⟨j, kt, vt, z, m, E, g0, g1, g2, h⟩ => ⟨j, kt, vt, z, m, E, g0, g1, by rw [← ha.2 j g0]; exact g2, h⟩) id
    · exact h.elim
  · exact h.elim
end Go.Vw