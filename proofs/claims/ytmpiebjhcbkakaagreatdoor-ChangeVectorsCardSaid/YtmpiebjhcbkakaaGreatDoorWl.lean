/-
  The abstract walk through a translated function, part 2 of 3: its data, its operations, and that it is sound, for every program. No conditions beyond those that each theorem states.
-/
import Derived.Test.YtmpiebjhcbkakaaGreatDoorWk
import Derived.Deep.LoopGhost
import Derived.StillTail

set_option linter.unusedSimpArgs false
set_option linter.unusedVariables false

/- The abstract operations: slices that the call owns, cut, cleared, handed to functions that work in place, or lent. -/
namespace Go.Vw
open Go.RowKit Go.Proofs

variable {P : Program} {w0 : World} {L0 : Nat → Nat → Prop} {row : Nat → Prop} {n : Nat} {K : St → Prop} {Q : Exit → Act → World → Prop}
  {w w' : World} {L L' : Nat → Nat → Prop} {O O' : Nat → Option Nat} {σ σ' : St} {a : Act} {o : Oper} {d : Nat} {v : Value} {tm : Nat → Value}

theorem zeroCells_flat (z : Array Value) (k : Nat) : (Builtin.zeroCells z k).toList = (List.replicate k z.toList).flatten := by
  have h : ∀ k, (List.range (k * z.size)).map (fun i => z[i % z.size]!) = (List.replicate k z.toList).flatten := by
    intro k
    induction k with
    | zero => simp
    | succ k ih =>
      rw [Nat.succ_mul, List.range_add, List.map_append, ih, List.replicate_succ', List.flatten_append]
      congr 1
      simp only [List.map_map, List.flatten_cons, List.flatten_nil, List.append_nil]
      apply List.ext_getElem
      · simp
      · intro i h1 h2
        simp only [List.length_map, List.length_range] at h1
        have e : (k * z.size + i) % z.size = i := by rw [Nat.add_comm, Nat.add_mul_mod_self_right, Nat.mod_eq_of_lt h1]
        simp only [List.getElem_map, List.getElem_range, Function.comp_apply, e, Array.getElem_toList]
        exact getElem!_pos z i h1
  simp only [Builtin.zeroCells, Array.toList_map, Array.toList_range]
  exact h k

theorem OwnR.cut {og : Option Nat} {e : TypeId} {l : List D} {A : Option Addr} {k cap hi m : Nat} (h : OwnR P w L og true e l (.slice A k cap)) (h1 : hi ≤ l.length) (h2 : hi ≤ m) (h3 : m ≤ cap) : OwnR P w L og true e (l.take hi) (.slice A hi m) := by
  obtain ⟨css, sz, g1, g2, g3, g4, g5⟩ := h
  have hlen : (l.take hi).length = hi := by simp; omega
  have hfl : (css.take hi).flatten.length = hi * sz := by
    rw [flatten_sized (fun c hc => g3 c (List.mem_of_mem_take hc)), List.length_take, g2.count, Nat.min_eq_left h1]
  refine ⟨css.take hi, sz, g1, g2.take hi, fun c hc => g3 c (List.mem_of_mem_take hc), ⟨by rw [hlen, hfl], ?_⟩, fun g hg => ?_⟩
  · rw [hlen]
    rcases g4.2 with ⟨hv, hn⟩ | ⟨g, cp, cur, hv, hh, hnc, hcm, hcs, htk⟩
    · simp only [Value.slice.injEq] at hv
      obtain ⟨rfl, rfl, rfl⟩ := hv
      obtain rfl : m = 0 := by omega
      obtain rfl : hi = 0 := by omega
      exact .inl ⟨rfl, rfl⟩
    · simp only [Value.slice.injEq] at hv
      obtain ⟨rfl, rfl, rfl⟩ := hv
      refine .inr ⟨g, m, cur, rfl, hh, h2, by omega, Nat.le_trans (Nat.mul_le_mul_right _ h3) hcs, ?_⟩
      have e1 : cur.toList.take (hi * sz) = (cur.toList.take (l.length * sz)).take (hi * sz) := by
        rw [List.take_take, Nat.min_eq_left (Nat.mul_le_mul_right _ h1)]
      rw [e1, htk]
      have e2 : css.flatten = (css.take hi).flatten ++ (css.drop hi).flatten := by rw [← List.flatten_append, List.take_append_drop]
      rw [e2, ← hfl, List.take_left]
  · have := g5 g (by cases A <;> simp [Value.ownBlock] at hg ⊢; exact hg)
    exact ⟨this.1, fun q => by simpa using this.2 q⟩

theorem OwnR.shape2 {og : Option Nat} {m : Bool} {e : TypeId} {l : List D} {v : Value} (h : OwnR P w L og m e l v) : ∃ A c, v = .slice A l.length c ∧ l.length ≤ c ∧ ∀ (k s : Nat), (if k = 0 then A else A.map (·.add (0 * s))) = A := by
  obtain ⟨css, sz, h1, h2, h3, h4, h5⟩ := h
  rcases h4.2 with ⟨hv, hn⟩ | ⟨g, cap, cur, hv, _, hc, _⟩
  · exact ⟨none, 0, by rw [hv, hn], by omega, by simp⟩
  · exact ⟨_, _, hv, hc, fun k s => by simp [Addr.add_lit]⟩

section
variable (hd : o.dst = some d) (hlt : d < n) (hsz : a.tmps.size = n) (hdef : a.defers = []) (hR : Rel P w0 L0 row w L O σ (tmOf a))
include hd hlt hsz hdef hR

/-- s[:hi] of a slice that the call owns: the owner moves. -/
theorem s_cut {t e e' sz : Nat} {x hi : Operand} (ho : o.op = .slice t x none (some hi) none) (ht : P.underlying t = some (.slice e)) (hz : szOf P e = some sz) {j : Nat} {l : List D} (hx : aval σ x = .bor j true e' l) (he : ety e' = e) {i : Nat}
    (hi' : bnd σ (some hi) 0 = some i) (h1 : i ≤ l.length) (h : K (put (put σ j .undef) d (.own true e' (l.take i)))) : o.wp P a w (Good P w0 L0 row n K) Q := by
  subst he
  have h2 := aval_ok hR x
  rw [hx] at h2
  obtain ⟨h2, h3⟩ := h2
  have h4 := hR.slots j
  rw [h2] at h4
  have h4' : OwnR P w L (O j) true e' l (tmOf a j) := h4
  obtain ⟨A, c, hv, hcap, hA⟩ := h4'.shape2
  rw [hv] at h4'
  have own := h4'.cut h1 (Nat.le_trans h1 hcap) (Nat.le_refl c)
  refine val_step hd hlt hsz hdef (v := .slice A i c) ?_ (hR.move j d .undef (.own true e' (l.take i)) (.slice A i c) (by simp [RA, RC]) own rfl (fun _ _ _ _ h => h)) h
  have e1 : (Instr.sliceBounds true l.length c none ((some hi).map a.eval) none).run P w = .ok (0, i, c) w := by
    rcases bnd_ok hR hi' with ⟨hc, _⟩ | ⟨y, k, hy, hz⟩
    · cases hc
    · simp only [Option.some.injEq] at hy; subst hy
      have hi2 : (0 : Int) ≤ i ∧ (i : Int) ≤ (c : Int) := by omega
      simp [Instr.sliceBounds, Instr.sliceBound, asIntOf, hz, hi2]
      intro hh; omega
  simp only [execOp, ho, h3, hv, Instr.sliceAt, Instr.slice, Sem.run_bind, run_underlying ht, Result.andThen_ok, Option.map_none, e1, Sem.run_pure, run_sizeOf_szOf hz, hA, Nat.sub_zero]

/-- v[:hi:mx] of a named slice: the owner moves to the slot. -/
theorem s_cutRaw {t e e' sz : Nat} {x hi mx : Operand} (ho : o.op = .slice t x none (some hi) (some mx)) (ht : P.underlying t = some (.slice e)) (hz : szOf P e = some sz) {j : Nat} {u : Value} {l : List D} (hx : aval σ x = .d (.raw u)) (hj : σ j = .hs u e' l) (he : ety e' = e)
    {i : Nat} (hi' : bnd σ (some hi) 0 = some i) (hm' : bnd σ (some mx) 0 = some i) (h1 : i ≤ l.length) (h : K (put (put σ j .undef) d (.own true e' (l.take i)))) : o.wp P a w (Good P w0 L0 row n K) Q := by
  subst he
  have h3 : a.eval x = u := (aval_d hR hx).raw_inv
  have h4 := hR.slots j
  rw [hj] at h4
  have h4' : OwnR P w L (O j) true e' l u := h4
  obtain ⟨A, c, hv, hcap, hA⟩ := h4'.shape2
  subst hv
  have own := h4'.cut h1 (Nat.le_refl i) (Nat.le_trans h1 hcap)
  refine val_step hd hlt hsz hdef (v := .slice A i i) ?_ (hR.move j d .undef (.own true e' (l.take i)) (.slice A i i) (by simp [RA, RC]) own rfl (fun _ _ _ _ h => h)) h
  have e1 : (Instr.sliceBounds true l.length c none ((some hi).map a.eval) ((some mx).map a.eval)).run P w = .ok (0, i, i) w := by
    rcases bnd_ok hR hi' with ⟨hc, _⟩ | ⟨y, k, hy, hz⟩
    · cases hc
    · rcases bnd_ok hR hm' with ⟨hc, _⟩ | ⟨y2, k2, hy2, hz2⟩
      · cases hc
      · simp only [Option.some.injEq] at hy hy2; subst hy; subst hy2
        have hi2 : (0 : Int) ≤ i ∧ (i : Int) ≤ (c : Int) := by omega
        simp [Instr.sliceBounds, Instr.sliceBound, asIntOf, hz, hz2, hi2]
  simp only [execOp, ho, h3, Instr.sliceAt, Instr.slice, Sem.run_bind, run_underlying ht, Result.andThen_ok, Option.map_none, e1, Sem.run_pure, run_sizeOf_szOf hz, hA, Nat.sub_zero]

omit hd hlt hsz hdef in
/-- clear of the tail of a slice that the call owns. -/
theorem clear_core {t e e' ty : Nat} {x : Operand} (ht : P.underlying t = some (.slice e)) {j lo : Nat} {l : List D} (hx : aval σ x = .sub j lo) (hj : σ j = .own true e' l) (he : ety e' = e)
    {z : D} (hz : zeroD P e = some z) (hw : szOf P e = some (width z)) :
    ∃ w' O', (Builtin.clear_ #[t] ty #[a.eval x]).run P w = .ok (.tuple #[]) w' ∧ Rel P w0 L0 row w' L O' (put σ j (.own true e' (l.take lo ++ List.replicate (l.length - lo) z))) (tmOf a) := by
  subst he
  have h1 := aval_ok hR x
  rw [hx] at h1
  obtain ⟨e2, l2, sz, h2, h3, h4, h5⟩ := h1
  rw [hj] at h2
  simp only [ownOf, Option.some.injEq, Prod.mk.injEq] at h2
  obtain ⟨rfl, rfl⟩ := h2
  have hval : valOf (σ j) (tmOf a j) = tmOf a j := by rw [hj]; rfl
  rw [hval] at h5
  have h6 := hR.slots j
  rw [hj] at h6
  obtain ⟨css, sz', g1, g2, g3, g4, g5⟩ : OwnR P w L (O j) true e' l (tmOf a j) := h6
  obtain rfl : sz = sz' := by rw [h3] at g1; simpa using g1
  obtain rfl : sz = width z := by
    have : szOf P (ety e') = some sz := h3
    rw [this] at hw; simpa using hw
  obtain ⟨zv, hzv, hzr, _⟩ := zeroD_ok hz w L
  have zl : zv.cells.toList.length = width z := Rep.len _ _ hzr.1
  have key : ∃ w', (Builtin.clear_ #[t] ty #[a.eval x]).run P w = .ok (.tuple #[]) w' ∧ OwnR P w' L (O j) true e' (l.take lo ++ List.replicate (l.length - lo) z) (tmOf a j) ∧ Same w L w' L (optB (O j)) ∧ GrownS w w' (optB (O j)) ∧ w'.heap.size = w.heap.size := by
    have same0 : lo = l.length → OwnR P w L (O j) true e' (l.take lo ++ List.replicate (l.length - lo) z) (tmOf a j) := by
      rintro rfl
      simp only [List.take_length, Nat.sub_self, List.replicate_zero, List.append_nil]
      exact ⟨css, _, g1, g2, g3, g4, g5⟩
    rcases h5 with ⟨h5, h6⟩ | ⟨g, c, A, h5, h6, h7⟩
    · rw [h6]
      have hl0 : l.length = 0 := by
        rcases g4.2 with ⟨_, hn⟩ | ⟨g, cp, cur, hv, _⟩
        · exact hn
        · rw [h5] at hv; cases hv
      exact ⟨w, by simp [Builtin.clear_, run_underlying ht], same0 (by omega), Same.refl _ _ _, GrownS.refl _ _, rfl⟩
    · rw [h6]
      by_cases hlo : lo = l.length
      · refine ⟨w, ?_, same0 hlo, Same.refl _ _ _, GrownS.refl _ _, rfl⟩
        subst hlo
        simp [Builtin.clear_, run_underlying ht]
      · obtain rfl := h7 (by omega)
        have hO := g5 g (by rw [h5]; rfl)
        rcases g4.2 with ⟨hv, hn⟩ | ⟨g', cp, cur, hv, hh, hnc, hcm, hcs, htk⟩
        · omega
        · rw [h5] at hv
          simp only [Value.slice.injEq, Option.some.injEq, Addr.mk.injEq, and_true, true_and] at hv
          obtain ⟨rfl, rfl⟩ := hv
          have hzc : (Builtin.zeroCells zv.cells (l.length - lo)).toList = (List.replicate (l.length - lo) zv.cells.toList).flatten := by
            exact zeroCells_flat _ _
          have hzl : (Builtin.zeroCells zv.cells (l.length - lo)).toList.length = (l.length - lo) * width z := by
            rw [hzc, flatten_sized (sz := width z) (fun c hc => by rw [(List.mem_replicate.1 hc).2]; exact zl), List.length_replicate]
          have hmul : lo * width z + (l.length - lo) * width z = l.length * width z := by rw [← Nat.add_mul]; congr 1; omega
          have hle : l.length * width z ≤ cur.size := Nat.le_trans (Nat.mul_le_mul_right _ hnc) hcs
          obtain ⟨w', C', f1, f2, f3, f4, f5⟩ := run_storeCells (P := P) (off := lo * width z) (Builtin.zeroCells zv.cells (l.length - lo)).toList 0 w cur hh (by unfold mk; split <;> simp) (by rw [hzl]; omega) (by
            rw [hzc]; intro u hu
            obtain ⟨c', hc', hu⟩ := List.mem_flatten.1 hu
            rw [(List.mem_replicate.1 hc').2] at hu
            exact Rep.one _ _ hzr.1 u hu)
          have hLg : ∀ q, ¬ L g q := fun q hq => by have := (hO.2 q).1 hq; simp at this
          have hS : Same w L w' L (optB (O j)) := by rw [hO.1]; exact Same.write f4 hLg hR.lok
          refine ⟨w', ?_, ?_, hS, by rw [hO.1]; exact .of f4 (run_drawn _ f1), f5⟩
          · have hn0 : ∃ k, l.length - lo = k + 1 := ⟨l.length - lo - 1, by omega⟩
            obtain ⟨k, hk⟩ := hn0
            rw [hk] at f1 ⊢
            simp [Builtin.clear_, run_underlying ht, hzv, f1]
          · have hsplit : css.flatten = (css.take lo).flatten ++ (css.drop lo).flatten := by rw [← List.flatten_append, List.take_append_drop]
            have htl : (css.take lo).flatten.length = lo * width z := by
              rw [flatten_sized (fun c hc => g3 c (List.mem_of_mem_take hc)), List.length_take, g2.count, Nat.min_eq_left h4]
            have hnl : (l.take lo ++ List.replicate (l.length - lo) z).length = l.length := by simp; omega
            have hrz : ∀ k, RepL w' L (List.replicate k z) (List.replicate k zv.cells.toList) := by
              intro k
              induction k with
              | zero => simp [RepL]
              | succ k ih => simp only [List.replicate_succ, RepL]; exact ⟨_, _, rfl, Rep.mono hS.ext _ _ hzr.1, ih⟩
            refine ⟨css.take lo ++ List.replicate (l.length - lo) zv.cells.toList, width z, g1, (RepL.mono hS.ext _ _ (g2.take lo)).append (hrz _), fun c' hc' => ?_, ⟨?_, .inr ⟨g, c, C', ?_, ?_, by rw [hnl]; exact hnc, hcm, ?_, ?_⟩⟩, fun q hq => ?_⟩
            · rcases List.mem_append.1 hc' with hc' | hc'
              · exact g3 c' (List.mem_of_mem_take hc')
              · rw [(List.mem_replicate.1 hc').2]; exact zl
            · rw [hnl, List.flatten_append, List.length_append, htl, ← hzc, hzl, hmul]
            · rw [hnl]; exact h5
            · have : C'.size = cur.size := by
                rw [← Array.length_toList, f3]
                simp only [List.length_append, List.length_take, List.length_drop, Array.length_toList, hzl]
                omega
              rw [this]; exact f2
            · have : C'.size = cur.size := by
                rw [← Array.length_toList, f3]
                simp only [List.length_append, List.length_take, List.length_drop, Array.length_toList, hzl]
                omega
              rw [this]; exact hcs
            · rw [hnl, f3, List.flatten_append, ← hzc, Nat.add_zero]
              have e1 : cur.toList.take (lo * width z) = (css.take lo).flatten := by
                have : cur.toList.take (lo * width z) = (cur.toList.take (l.length * width z)).take (lo * width z) := by rw [List.take_take, Nat.min_eq_left (by omega)]
                rw [this, htk, hsplit, ← htl, List.take_left]
              rw [e1]
              have e2 : ((css.take lo).flatten ++ (Builtin.zeroCells zv.cells (l.length - lo)).toList).length = l.length * width z := by rw [List.length_append, htl, hzl, hmul]
              rw [← e2, List.take_left]
            · have := g5 q hq
              exact ⟨this.1, fun p => by simpa using this.2 p⟩
  obtain ⟨w', hrun, hown, hS, hG, hsz'⟩ := key
  have hj1 := hR.putOwn j (.own true e' (l.take lo ++ List.replicate (l.length - lo) z)) (tmOf a j) (O j) (optB (O j)) hS (hR.grown.then hG (fun g hg => (hR.olt j g hg).2)) (by omega) (fun b q hq => by rw [hsz']; exact hR.lok b q hq)
    (fun g hg => (hR.olt j g hg).2) (fun i g hi hO e => hi (hR.inj i j g hO e)) (fun g hg => ⟨by rw [hsz']; exact (hR.olt j g hg).1, (hR.olt j g hg).2, fun i hi e => hi (hR.inj i j g e hg)⟩) hown
  rw [setv_same] at hj1
  exact ⟨w', _, hrun, hj1⟩

theorem s_clear {t e e' : Nat} {x : Operand} (ho : o.op = .call { callee := .builtin .clear, args := #[x], argTypes := #[t] }) (ht : P.underlying t = some (.slice e)) {j lo : Nat} {l : List D} (hx : aval σ x = .sub j lo) (hj : σ j = .own true e' l) (he : ety e' = e)
    {z : D} (hz : zeroD P e = some z) (hw : szOf P e = some (width z)) (h : K (put (put σ j (.own true e' (l.take lo ++ List.replicate (l.length - lo) z))) d (.tup []))) : o.wp P a w (Good P w0 L0 row n K) Q := by
  obtain ⟨w', O', hrun, hj1⟩ := clear_core (ty := o.type) hR ht hx hj he hz hw
  refine val_step hd hlt hsz hdef (v := .tuple #[]) (w' := w') ?_ (hj1.putPure d (.tup []) _ ⟨[], rfl, rfl⟩) h
  simp only [execOp, ho, resolve, invoke, builtin, Sem.run_bind, Sem.run_pure, Result.andThen_ok, List.map_toArray, List.map_cons, List.map_nil, hrun]

omit hd hlt in
theorem s_clearN (hd : o.dst = none) {t e e' : Nat} {x : Operand} (ho : o.op = .call { callee := .builtin .clear, args := #[x], argTypes := #[t] }) (ht : P.underlying t = some (.slice e)) {j lo : Nat} {l : List D} (hx : aval σ x = .sub j lo) (hj : σ j = .own true e' l) (he : ety e' = e)
    {z : D} (hz : zeroD P e = some z) (hw : szOf P e = some (width z)) (h : K (put σ j (.own true e' (l.take lo ++ List.replicate (l.length - lo) z)))) : o.wp P a w (Good P w0 L0 row n K) Q := by
  obtain ⟨w', O', hrun, hj1⟩ := clear_core (ty := o.type) hR ht hx hj he hz hw
  unfold Oper.wp
  have : (execOp a.eval o).run P w = .ok (.value (.tuple #[])) w' := by
    simp only [execOp, ho, resolve, invoke, builtin, Sem.run_bind, Sem.run_pure, Result.andThen_ok, List.map_toArray, List.map_cons, List.map_nil, hrun]
  rw [this]
  simp only [Oper.upon, hd, Act.put]
  exact ⟨L, O', _, hj1, hdef, hsz, h⟩
end

/-! ### calls that work in place, and calls to which own slices are lent -/

theorem OwnR.self {og : Option Nat} {m : Bool} {e : TypeId} {l : List D} {v : Value} (h : OwnR P w L og m e l v) : OwnR P w L v.ownBlock m e l v := by
  obtain ⟨css, sz, h1, h2, h3, h4, h5⟩ := h
  exact ⟨css, sz, h1, h2, h3, h4, fun g hg => ⟨hg, (h5 g hg).2⟩⟩
theorem OwnR.lift {og og' : Option Nat} {m : Bool} {e : TypeId} {l : List D} {v : Value} (h : OwnR P w L og m e l v) (hg : ∀ g, v.ownBlock = some g → og' = some g) : OwnR P w L og' m e l v := by
  obtain ⟨css, sz, h1, h2, h3, h4, h5⟩ := h
  exact ⟨css, sz, h1, h2, h3, h4, fun g hv => ⟨hg g hv, (h5 g hv).2⟩⟩
theorem OwnR.blk {og : Option Nat} {e : TypeId} {l : List D} {v : Value} (h : OwnR P w L og true e l v) {g : Nat} (hg : v.ownBlock = some g) : og = some g ∧ ∀ q, ¬ L g q := by
  obtain ⟨css, sz, h1, h2, h3, h4, h5⟩ := h
  exact ⟨(h5 g hg).1, fun q hq => by have := ((h5 g hg).2 q).1 hq; simp at this⟩

/-- A function that works in place on its first argument, a slice that the caller owns. -/
def CtrI (P : Program) (f : FuncId) (e : TypeId) (l : List D) (rest : List AV) (l' : List D) : Prop :=
  Enters P f ∧ ∀ (w : World) (L : Nat → Nat → Prop) (og : Option Nat) (v : Value) (vals : List Value), (∀ b q, L b q → b < w.heap.size) → GL P w L → OwnR P w L og true e l v → RCs P w L none rest vals →
    Calls P f (v :: vals).toArray w fun x w' => ∃ L', x = .returned (.tuple #[]) ∧ GrownS w w' (optB og) ∧ (∀ b q, L' b q → b < w'.heap.size) ∧ (∀ b q, b < w.heap.size → ¬ optB og b → (L' b q ↔ L b q)) ∧ OwnR P w' L' og true e l' v

/-- Data that hangs on no memory. -/
def flatD : D → Bool
  | .bool _ => true
  | .int _ _ => true
  | .str _ => true
  | .nilp => true
  | .raw _ => true
  | _ => false
theorem flat_rep {d : D} (hf : flatD d = true) {v : Value} (h : RepV w L d v) : RepV w' L' d v := by
  refine ⟨?_, h.2⟩
  have := h.1
  cases d <;> simp [flatD] at hf <;> simpa only [Rep] using this

/-- What a call hands over where own slices are lent. -/
def lendA (σ : St) (x : Operand) : Option AV :=
  match aval σ x with
  | .bor _ true _ l => some (.d (.sl l))
  | y => (asD y).map .d
def lendsA (σ : St) : List Operand → Option (List AV)
  | [] => some []
  | x :: xs => match lendA σ x, lendsA σ xs with
    | some y, some ys => some (y :: ys)
    | _, _ => none
/-- What a call hands over where nothing is owned. -/
def plainA (σ : St) : List Operand → Option (List AV)
  | [] => some []
  | x :: xs => match asD (aval σ x), plainA σ xs with
    | some y, some ys => some (.d y :: ys)
    | _, _ => none

theorem plain_ok (hR : Rel P w0 L0 row w L O σ (tmOf a)) : ∀ (xs : List Operand) (xa : List AV), plainA σ xs = some xa → RCs P w L none xa (xs.map a.eval)
  | [], xa, h => by simp only [plainA, Option.some.injEq] at h; subst h; simp [RCs]
  | x :: xs, xa, h => by
    simp only [plainA] at h
    split at h
    · rename_i y ys hy hys
      simp only [Option.some.injEq] at h
      subst h
      simp only [List.map_cons, RCs]
      exact ⟨_, _, rfl, by simpa only [RC] using aval_asD hR hy, plain_ok hR xs ys hys⟩
    · cases h

/-- A constant nil is handed over as it is. -/
def rawA (σ : St) (x : Operand) : Option AV := match x with
  | .const (.slice none 0 0) => some (.d (.raw (.slice none 0 0)))
  | x => match asD (aval σ x) with
    | some y => some (.d y)
    | none => none
def rawsA (σ : St) : List Operand → Option (List AV)
  | [] => some []
  | x :: xs => match rawA σ x, rawsA σ xs with
    | some y, some ys => some (y :: ys)
    | _, _ => none
theorem raws_ok (hR : Rel P w0 L0 row w L O σ (tmOf a)) : ∀ (xs : List Operand) (xa : List AV), rawsA σ xs = some xa → RCs P w L none xa (xs.map a.eval)
  | [], xa, h => by simp only [rawsA, Option.some.injEq] at h; subst h; simp [RCs]
  | x :: xs, xa, h => by
    simp only [rawsA] at h
    split at h
    · rename_i y ys hy hys
      simp only [Option.some.injEq] at h
      subst h
      simp only [List.map_cons, RCs]
      refine ⟨_, _, rfl, ?_, raws_ok hR xs ys hys⟩
      unfold rawA at hy
      split at hy
      · simp only [Option.some.injEq] at hy
        subst hy
        show RepV w L (.raw (.slice none 0 0)) (.slice none 0 0)
        exact RepV.raw rfl rfl
      · split at hy
        · rename_i y' hy'
          simp only [Option.some.injEq] at hy
          subst hy
          simpa only [RC] using aval_asD hR hy'
        · cases hy
    · cases h
section
variable (hd : o.dst = some d) (hlt : d < n) (hsz : a.tmps.size = n) (hdef : a.defers = []) (hR : Rel P w0 L0 row w L O σ (tmOf a))
include hd hlt hsz hdef hR
theorem s_callRaw {f : Operand} {args : Array Operand} {ts : Array TypeId} (ho : o.op = .call { callee := .value f, args, argTypes := ts }) {g : FuncId} {caps : List D} (hf : aval σ f = .d (.clo g caps)) (hc : ∀ c ∈ caps, c.isAgg = false)
    {xa : List AV} (ha : rawsA σ args.toList = some xa) {r : AV} (hfn : Ctr P g (xa ++ caps.map .d) r) (b : Bool) (h : K (put σ d (demote b r))) :
    o.wp P a w (Good P w0 L0 row n K) Q := by
  obtain ⟨css, hcs, hfv⟩ := clo_inv (aval_d hR hf)
  have hexec : (execOp a.eval o).run P w = .ok (.enter g (args.map a.eval ++ css.flatten.toArray)) w := by
    simp only [execOp, ho, resolve, hfv, Deferred.ofValue, Sem.run_bind, Sem.run_pure, Result.andThen_ok, invoke, Array.empty_append, hfn.1 _ w]
  have hvals : (args.map a.eval ++ css.flatten.toArray) = (args.toList.map a.eval ++ css.flatten).toArray := by
    apply Array.ext'; simp
  unfold Oper.wp
  rw [hexec, Oper.upon_enter, hvals]
  refine (hfn.2 w L none _ hR.lok hR.gl (by simp) (RCs.append (raws_ok hR args.toList xa ha) (caps_vals hcs hc none))).mono ?_
  rintro e w' ⟨v, L', og', rfl, hgr, hlok', hold', hog', hrc⟩
  show Good P w0 L0 row n K (a.put o.dst v) w'
  obtain ⟨L2, hrc2, hlok2, hold2, hext2⟩ := hrc.demote b hlok' (fun g hg => (hog' g hg).1)
  have hS : Same w L w' L2 (optB none) := by
    have hL : ∀ c q, c < w.heap.size → ¬ optB none c → (L2 c q ↔ L c q) := fun c q hc hne => by
      refine (hold2 c q (fun e => ?_)).trans (hold' c q hc hne)
      rcases (hog' c e.symm).2 with h1 | h1
      · omega
      · cases h1
    refine ⟨fun c q hq => ?_, fun c hc hne => hgr.block c hc hne, hL⟩
    have hc := hR.lok c q hq
    have hne : ¬ optB none c := fun e => by simp [optB] at e
    refine ⟨(hL c q hc hne).2 hq, fun u hu => ?_⟩
    simp only [World.cell?] at hu ⊢
    rw [hgr.block c hc hne]
    exact hu
  refine ⟨L2, setv O d og', put σ d (Vw.demote b r), ?_, ?_, ?_, h⟩
  · rw [hd, tmOf_put (by omega)]
    refine hR.putOwn d (Vw.demote b r) v og' (optB none) hS (hR.grown.then hgr (fun g hg => by simp [optB] at hg)) hgr.size hlok2 (fun g hg => by simp [optB] at hg) (fun i g _ hi e => by simp [optB] at e) (fun g hg => ?_) (RC.toRA hrc2 _ _ _ _)
    refine ⟨(hog' g hg).1, ?_, fun i _ hi => ?_⟩
    · rcases (hog' g hg).2 with h1 | h1
      · exact .inl (Nat.le_trans hR.grown.size h1)
      · cases h1
    · rcases (hog' g hg).2 with h1 | h1
      · have := (hR.olt i g hi).1; omega
      · cases h1
  · rw [hd]; simpa [Act.put] using hdef
  · rw [hd]; simpa [Act.put] using hsz
end

/-- The call takes two own slices, the first and the last argument. -/
def Ctr2 (P : Program) (f : FuncId) (e : TypeId) (l : List D) (mid : List AV) (e2 : TypeId) (l2 : List D) (r : AV) : Prop :=
  Enters P f ∧ ∀ (w : World) (L : Nat → Nat → Prop) (og og2 : Option Nat) (v v2 : Value) (vals : List Value), (∀ b q, L b q → b < w.heap.size) → GL P w L → OwnR P w L og true e l v → OwnR P w L og2 true e2 l2 v2 → v.ownBlock = og → v2.ownBlock = og2 →
    (∀ g, og = some g → og2 ≠ some g) → (∀ g, some g = og ∨ some g = og2 → g < w.heap.size) → RCs P w L none mid vals →
    Calls P f (v :: (vals ++ [v2])).toArray w fun x w' => ∃ v' L' og', x = .returned v' ∧ GrownS w w' (fun b => some b = og ∨ some b = og2) ∧ (∀ b q, L' b q → b < w'.heap.size) ∧ (∀ b q, b < w.heap.size → ¬ (some b = og ∨ some b = og2) → (L' b q ↔ L b q)) ∧
      (∀ g, og' = some g → g < w'.heap.size ∧ (w.heap.size ≤ g ∨ some g = og ∨ some g = og2)) ∧ RC P w' L' og' r v'
section
variable (hd : o.dst = some d) (hlt : d < n) (hsz : a.tmps.size = n) (hdef : a.defers = []) (hR : Rel P w0 L0 row w L O σ (tmOf a))
include hd hlt hsz hdef hR
theorem s_call2 {f x z : Operand} {ys : List Operand} {args : Array Operand} {ts : Array TypeId} (ho : o.op = .call { callee := .value f, args, argTypes := ts }) (hargs : args.toList = x :: (ys ++ [z])) {g : FuncId} (hf : aval σ f = .d (.clo g []))
    {j j2 : Nat} {e e2 : TypeId} {l l2 : List D} (hx : aval σ x = .bor j true e l) (hz : aval σ z = .bor j2 true e2 l2) (hjj : j ≠ j2)
    {xa : List AV} (ha : plainA σ ys = some xa) {r : AV} (hfn : Ctr2 P g e l xa e2 l2 r) (b : Bool) (h : K (put (put (put σ j .undef) j2 .undef) d (demote b r))) :
    o.wp P a w (Good P w0 L0 row n K) Q := by
  obtain ⟨css, hcs, hfv⟩ := clo_inv (aval_d hR hf)
  simp only [RepL] at hcs
  subst hcs
  have hvals : args.map a.eval = (a.eval x :: (ys.map a.eval ++ [a.eval z])).toArray := by
    apply Array.ext'; simp [hargs]
  have hexec : (execOp a.eval o).run P w = .ok (.enter g (args.map a.eval)) w := by
    simp only [execOp, ho, resolve, hfv, Deferred.ofValue, Sem.run_bind, Sem.run_pure, Result.andThen_ok, invoke, Array.empty_append, hfn.1 _ w, List.flatten_nil, Array.append_empty]
  have h1 := aval_ok hR x
  rw [hx] at h1
  obtain ⟨h1, h2⟩ := h1
  have h3 := aval_ok hR z
  rw [hz] at h3
  obtain ⟨h3, h4⟩ := h3
  have s1 := hR.slots j
  rw [h1] at s1
  obtain ⟨cs1, z1, p1, p2, p3, p4, p5⟩ : OwnR P w L (O j) true e l (tmOf a j) := s1
  have s2 := hR.slots j2
  rw [h3] at s2
  obtain ⟨cs2, z2, q1, q2, q3, q4, q5⟩ : OwnR P w L (O j2) true e2 l2 (tmOf a j2) := s2
  generalize hog : (tmOf a j).ownBlock = og at *
  generalize hog2 : (tmOf a j2).ownBlock = og2 at *
  have hO1 : ∀ g, og = some g → O j = some g := fun g hg => (p5 g hg).1
  have hO2 : ∀ g, og2 = some g → O j2 = some g := fun g hg => (q5 g hg).1
  have hne : ∀ g, og = some g → og2 ≠ some g := fun g hg hg2 => hjj (hR.inj j j2 g (hO1 g hg) (hO2 g hg2))
  have hown : ∀ g, some g = og ∨ some g = og2 → ∃ i, (i = j ∨ i = j2) ∧ O i = some g := fun g hg => hg.elim (fun h => ⟨j, .inl rfl, hO1 g h.symm⟩) fun h => ⟨j2, .inr rfl, hO2 g h.symm⟩
  have holt : ∀ g, some g = og ∨ some g = og2 → g < w.heap.size ∧ (w0.heap.size ≤ g ∨ row g) ∧ ∀ q, ¬ L g q := fun g hg => by
    obtain ⟨i, _, hi⟩ := hown g hg
    refine ⟨(hR.olt i g hi).1, (hR.olt i g hi).2, fun q hq => ?_⟩
    rcases hg with hg | hg
    · have := ((p5 g hg.symm).2 q).1 hq; simp at this
    · have := ((q5 g hg.symm).2 q).1 hq; simp at this
  unfold Oper.wp
  rw [hexec, Oper.upon_enter, hvals, h2, h4]
  refine (hfn.2 w L og og2 _ _ _ hR.lok hR.gl ⟨cs1, z1, p1, p2, p3, p4, fun g hg => ⟨by rw [← hog]; exact hg, (p5 g (by rw [← hog]; exact hg)).2⟩⟩ ⟨cs2, z2, q1, q2, q3, q4, fun g hg => ⟨by rw [← hog2]; exact hg, (q5 g (by rw [← hog2]; exact hg)).2⟩⟩ hog hog2 hne (fun g hg => (holt g hg).1) (plain_ok hR ys xa ha)).mono ?_
  rintro e' w' ⟨v, L', og', rfl, hgr, hlok', hold', hog', hrc⟩
  show Good P w0 L0 row n K (a.put o.dst v) w'
  obtain ⟨L2, hrc2, hlok2, hold2, hext2⟩ := hrc.demote b hlok' (fun g hg => (hog' g hg).1)
  have hS : Same w L w' L2 (fun b => some b = og ∨ some b = og2) := by
    have hL : ∀ c q, c < w.heap.size → ¬ (some c = og ∨ some c = og2) → (L2 c q ↔ L c q) := fun c q hc hne => by
      refine (hold2 c q (fun e => ?_)).trans (hold' c q hc hne)
      rcases (hog' c e.symm).2 with h1 | h1
      · omega
      · exact hne h1
    refine ⟨fun c q hq => ?_, fun c hc hne => hgr.block c hc hne, hL⟩
    have hc := hR.lok c q hq
    have hne : ¬ (some c = og ∨ some c = og2) := fun e => (holt c e).2.2 q hq
    refine ⟨(hL c q hc hne).2 hq, fun u hu => ?_⟩
    simp only [World.cell?] at hu ⊢
    rw [hgr.block c hc hne]
    exact hu
  have hR2 := (hR.forget j).forget j2
  have hO12 : ∀ i g, some g = og ∨ some g = og2 → setv (setv O j none) j2 none i ≠ some g := fun i g hg hi => by
    obtain ⟨i', hi', hi2⟩ := hown g hg
    simp only [setv] at hi
    split at hi
    · cases hi
    · split at hi
      · cases hi
      · have := hR.inj i i' g hi hi2
        rcases hi' with rfl | rfl <;> contradiction
  refine ⟨L2, setv (setv (setv O j none) j2 none) d og', put (put (put σ j .undef) j2 .undef) d (Vw.demote b r), ?_, ?_, ?_, h⟩
  · rw [hd, tmOf_put (by omega)]
    refine hR2.putOwn d (Vw.demote b r) v og' (fun b => some b = og ∨ some b = og2) hS (hR.grown.then hgr (fun g hg => (holt g hg).2.1)) hgr.size hlok2 (fun g hg => (holt g hg).2.1) (fun i g _ hi e => hO12 i g e hi) (fun g hg => ?_) (RC.toRA hrc2 _ _ _ _)
    refine ⟨(hog' g hg).1, ?_, fun i _ hi => ?_⟩
    · rcases (hog' g hg).2 with h1 | h1
      · exact .inl (Nat.le_trans hR.grown.size h1)
      · exact (holt g h1).2.1
    · rcases (hog' g hg).2 with h1 | h1
      · have := (hR2.olt i g hi).1; omega
      · exact hO12 i g h1 hi
  · rw [hd]; simpa [Act.put] using hdef
  · rw [hd]; simpa [Act.put] using hsz
end

theorem OwnR.lend {og : Option Nat} {e : TypeId} {l : List D} {v : Value} (h : OwnR P w L og true e l v) (hx : Ext w L w L') (hl : ∀ g, v.ownBlock = some g → ∀ q, L' g q) : RepV w L' (.sl l) v := by
  obtain ⟨css, sz, h1, h2, h3, h4, h5⟩ := h
  rcases h4.2 with ⟨hv, hn⟩ | ⟨g, cap, cur, hv, hh, hnc, hcm, hsz, ht⟩
  · subst hv
    have hl : l = [] := List.eq_nil_of_length_eq_zero hn
    subst hl
    exact nil_rep
  · subst hv
    refine ⟨?_, rfl⟩
    simp only [Rep]
    refine ⟨some ⟨g, 0, none⟩, cap, css, sz, rfl, RepL.mono hx _ _ h2, h3, hnc, fun _ => ⟨g, 0, rfl, fun k u hk => ?_⟩⟩
    have hk1 := hk
    rw [← ht, List.getElem?_take] at hk1
    split at hk1
    · refine ⟨?_, hl g rfl _⟩
      simp only [World.cell?, hh]
      simpa using hk1
    · cases hk1

def lent (σ : St) (tm : Nat → Value) (b : Nat) : Prop := ∃ j e l, σ j = .own true e l ∧ (tm j).ownBlock = some b

theorem lends_ok (hR : Rel P w0 L0 row w L O σ (tmOf a)) (hx : Ext w L w L') (hl : ∀ b, lent σ (tmOf a) b → ∀ q, L' b q) : ∀ (xs : List Operand) (xa : List AV), lendsA σ xs = some xa → RCs P w L' none xa (xs.map a.eval)
  | [], xa, h => by simp only [lendsA, Option.some.injEq] at h; subst h; simp [RCs]
  | x :: xs, xa, h => by
    simp only [lendsA] at h
    split at h
    · rename_i y ys hy hys
      simp only [Option.some.injEq] at h
      subst h
      simp only [List.map_cons, RCs]
      refine ⟨_, _, rfl, ?_, lends_ok hR hx hl xs ys hys⟩
      simp only [lendA] at hy
      have h1 := aval_ok hR x
      have other : ∀ z, aval σ x = z → (asD z).map AV.d = some y → RC P w L' none y (a.eval x) := by
        intro z hz h2
        simp only [Option.map_eq_some_iff] at h2
        obtain ⟨u, hu, rfl⟩ := h2
        have := aval_asD hR (x := x) (by rw [hz]; exact hu)
        simpa only [RC] using this.mono hx
      split at hy
      · rename_i j e l hxv
        simp only [Option.some.injEq] at hy
        subst hy
        rw [hxv] at h1
        obtain ⟨h2, h3⟩ := h1
        have h4 := hR.slots j
        rw [h2] at h4
        have h4' : OwnR P w L (O j) true e l (tmOf a j) := h4
        rw [h3]
        simp only [RC]
        exact h4'.lend hx (fun g hg => hl g ⟨j, e, l, h2, hg⟩)
      · exact other _ rfl hy
    · cases h

section
variable (hd : o.dst = some d) (hlt : d < n) (hsz : a.tmps.size = n) (hdef : a.defers = []) (hR : Rel P w0 L0 row w L O σ (tmOf a))
include hd hlt hsz hdef hR

theorem s_callLend {f : Operand} {args : Array Operand} {ts : Array TypeId} (ho : o.op = .call { callee := .value f, args, argTypes := ts }) {g : FuncId} {caps : List D} (hf : aval σ f = .d (.clo g caps)) (hc : ∀ c ∈ caps, c.isAgg = false)
    {xa : List AV} (ha : lendsA σ args.toList = some xa) {y : D} (hy : flatD y = true) (hfn : Ctr P g (xa ++ caps.map .d) (.d y)) (h : K (put σ d (.d y))) :
    o.wp P a w (Good P w0 L0 row n K) Q := by
  obtain ⟨css, hcs, hfv⟩ := clo_inv (aval_d hR hf)
  have hexec : (execOp a.eval o).run P w = .ok (.enter g (args.map a.eval ++ css.flatten.toArray)) w := by
    simp only [execOp, ho, resolve, hfv, Deferred.ofValue, Sem.run_bind, Sem.run_pure, Result.andThen_ok, invoke, Array.empty_append, hfn.1 _ w]
  have hvals : (args.map a.eval ++ css.flatten.toArray) = (args.toList.map a.eval ++ css.flatten).toArray := by
    apply Array.ext'; simp
  unfold Oper.wp
  rw [hexec, Oper.upon_enter, hvals]
  have hlent : ∀ b, lent σ (tmOf a) b → b < w.heap.size ∧ ∀ q, ¬ L b q := by
    rintro b ⟨j, e, l, hj, hb⟩
    have h4 := hR.slots j
    rw [hj] at h4
    obtain ⟨_, _, _, _, _, _, g5⟩ : OwnR P w L (O j) true e l (tmOf a j) := h4
    have h5 := g5 b hb
    exact ⟨(hR.olt j b h5.1).1, fun q hq => by have := (h5.2 q).1 hq; simp at this⟩
  have hext : Ext w L w (fun b q => L b q ∨ lent σ (tmOf a) b) := fun b q hq => ⟨.inl hq, fun _ hv => hv⟩
  refine (hfn.2 w (fun b q => L b q ∨ lent σ (tmOf a) b) none _ (fun b q hq => hq.elim (hR.lok b q) (fun h => (hlent b h).1)) (hR.gl.mono hext) (by simp) (RCs.append (lends_ok hR hext (fun b hb q => .inr hb) args.toList xa ha) (caps_vals (RepL.mono hext _ _ hcs) hc none))).mono ?_
  rintro e w' ⟨v, L', og', rfl, hgr, hlok', hold', hog', hrc⟩
  show Good P w0 L0 row n K (a.put o.dst v) w'
  have hgr' : GrownS w w' noB := hgr.sub (fun b hb => by simp [optB] at hb)
  have hL : ∀ b q, b < w.heap.size → ((L' b q ∧ ¬ lent σ (tmOf a) b) ↔ L b q) := by
    intro b q hb
    have := hold' b q hb (by simp [optB])
    rw [this]
    constructor
    · rintro ⟨h1 | h1, h2⟩
      · exact h1
      · exact absurd h1 h2
    · intro h1
      exact ⟨.inl h1, fun h2 => (hlent b h2).2 q h1⟩
  have hS : Same w L w' (fun b q => L' b q ∧ ¬ lent σ (tmOf a) b) noB := by
    refine ⟨fun b q hq => ?_, fun b hb hne => hgr'.block b hb hne, fun b q hb _ => hL b q hb⟩
    have hb := hR.lok b q hq
    refine ⟨(hL b q hb).2 hq, fun u hu => ?_⟩
    simp only [World.cell?] at hu ⊢
    rw [hgr'.block b hb id]
    exact hu
  have hrv : RepV w' L' y v := hrc
  refine ⟨fun b q => L' b q ∧ ¬ lent σ (tmOf a) b, setv O d none, put σ d (.d y), ?_, ?_, ?_, h⟩
  · rw [hd, tmOf_put (by omega)]
    exact hR.putOwn d (.d y) v none noB hS (hR.grown.then hgr' (fun _ h => h.elim)) hgr.size (fun b q hq => hlok' b q hq.1) (fun _ h => h.elim) (fun _ _ _ _ h => h) (by simp) (by simpa only [kill, RA, RC] using flat_rep hy hrv)
  · rw [hd]; simpa [Act.put] using hdef
  · rw [hd]; simpa [Act.put] using hsz

/-- A call that works in place on an own slice: a slot's (j = the slot that is borrowed from), or a named one. -/
theorem s_callI {f x : Operand} {xs : List Operand} {args : Array Operand} {ts : Array TypeId} (ho : o.op = .call { callee := .value f, args, argTypes := ts }) (hargs : args.toList = x :: xs) {g : FuncId} {caps : List D} (hf : aval σ f = .d (.clo g caps)) (hc : ∀ c ∈ caps, c.isAgg = false)
    {j : Nat} {e : TypeId} {l l' : List D} (hj : ownOf (σ j) = some (e, l)) (hx : a.eval x = valOf (σ j) (tmOf a j)) {xa : List AV} (ha : plainA σ xs = some xa) (hfn : CtrI P g e l (xa ++ caps.map .d) l') (h : K (put (put σ j (setOwn e l' (σ j))) d (.tup []))) :
    o.wp P a w (Good P w0 L0 row n K) Q := by
  obtain ⟨css, hcs, hfv⟩ := clo_inv (aval_d hR hf)
  have hexec : (execOp a.eval o).run P w = .ok (.enter g (args.map a.eval ++ css.flatten.toArray)) w := by
    simp only [execOp, ho, resolve, hfv, Deferred.ofValue, Sem.run_bind, Sem.run_pure, Result.andThen_ok, invoke, Array.empty_append, hfn.1 _ w]
  have hvals : (args.map a.eval ++ css.flatten.toArray) = (a.eval x :: (xs.map a.eval ++ css.flatten)).toArray := by
    apply Array.ext'; simp [hargs]
  unfold Oper.wp
  rw [hexec, Oper.upon_enter, hvals, hx]
  have hV := hR.owned hj
  generalize hVe : valOf (σ j) (tmOf a j) = V at hV
  refine (hfn.2 w L V.ownBlock _ _ hR.lok hR.gl hV.self (RCs.append (plain_ok hR xs xa ha) (caps_vals hcs hc none))).mono ?_
  rintro e' w' ⟨L', rfl, hgr, hlok', hold', hown⟩
  show Good P w0 L0 row n K (a.put o.dst (.tuple #[])) w'
  have hO : ∀ b, optB V.ownBlock b → O j = some b := fun b hb => (hV.blk hb).1
  have hext : Same w L w' L' (optB V.ownBlock) := by
    refine ⟨fun b q hq => ?_, fun b hb hne => hgr.block b hb hne, fun b q hb hne => hold' b q hb hne⟩
    have hb := hR.lok b q hq
    have hbj : ¬ optB V.ownBlock b := fun hb => (hV.blk hb).2 q hq
    refine ⟨(hold' b q hb hbj).2 hq, fun u hu => ?_⟩
    simp only [World.cell?] at hu ⊢
    rw [hgr.block b hb hbj]
    exact hu
  have hj1 := hR.putOwn j (setOwn e l' (σ j)) (tmOf a j) (O j) (optB V.ownBlock) hext (hR.grown.then hgr (fun b hb => (hR.olt j b (hO b hb)).2)) hgr.size hlok' (fun b hb => (hR.olt j b (hO b hb)).2) (fun i b hi hi2 e => hi (hR.inj i j b hi2 (hO b e)))
    (fun b hb => ⟨Nat.lt_of_lt_of_le (hR.olt j b hb).1 hgr.size, (hR.olt j b hb).2, fun i hi e => hi (hR.inj i j b e hb)⟩) (setOwn_ok hj (by rw [hVe]; exact hown.lift (fun g hg => by simpa [setv] using hO g hg)) j)
  rw [setv_same] at hj1
  refine ⟨L', setv (setv O j (O j)) d none, put (put σ j (setOwn e l' (σ j))) d (.tup []), ?_, ?_, ?_, h⟩
  · rw [hd, tmOf_put (by omega)]
    exact hj1.putPure d (.tup []) (.tuple #[]) ⟨[], rfl, rfl⟩
  · rw [hd]; simpa [Act.put] using hdef
  · rw [hd]; simpa [Act.put] using hsz

/-- A call to which a named slice is given, and which gives one back. -/
theorem s_callHs {f x : Operand} {xs : List Operand} {args : Array Operand} {ts : Array TypeId} (ho : o.op = .call { callee := .value f, args, argTypes := ts }) (hargs : args.toList = x :: xs) {g : FuncId} {caps : List D} (hf : aval σ f = .d (.clo g caps)) (hc : ∀ c ∈ caps, c.isAgg = false)
    {j : Nat} {e e' : TypeId} {l l' : List D} {u : Value} (hx : aval σ x = .d (.raw u)) (hj : σ j = .hs u e l) {xa : List AV} (ha : plainA σ xs = some xa) (hfn : Ctr P g (.own true e l :: (xa ++ caps.map .d)) (.own true e' l'))
    (h : ∀ A c, K (put (put σ j (.hs (.slice A l'.length c) e' l')) d (.d (.raw (.slice A l'.length c))))) :
    o.wp P a w (Good P w0 L0 row n K) Q := by
  obtain ⟨css, hcs, hfv⟩ := clo_inv (aval_d hR hf)
  have hexec : (execOp a.eval o).run P w = .ok (.enter g (args.map a.eval ++ css.flatten.toArray)) w := by
    simp only [execOp, ho, resolve, hfv, Deferred.ofValue, Sem.run_bind, Sem.run_pure, Result.andThen_ok, invoke, Array.empty_append, hfn.1 _ w]
  have hvals : (args.map a.eval ++ css.flatten.toArray) = (a.eval x :: (xs.map a.eval ++ css.flatten)).toArray := by
    apply Array.ext'; simp [hargs]
  unfold Oper.wp
  rw [hexec, Oper.upon_enter, hvals, (aval_d hR hx).raw_inv]
  have h4 := hR.slots j
  rw [hj] at h4
  have hV : OwnR P w L (O j) true e l u := h4
  have hO : ∀ b, u.ownBlock = some b → O j = some b := fun b hb => (hV.blk hb).1
  have hrest := RCs.append (plain_ok hR xs xa ha) (caps_vals hcs hc none)
  have hargs' : RCs P w L u.ownBlock (.own true e l :: (xa ++ caps.map .d)) (u :: (xs.map a.eval ++ css.flatten)) := by
    simp only [RCs]
    refine ⟨_, _, rfl, by simpa only [RC] using hV.self, ?_⟩
    have lift : ∀ (xs : List AV) (vs : List Value), (∀ x ∈ xs, ∃ y, x = .d y) → RCs P w L none xs vs → RCs P w L u.ownBlock xs vs := by
      intro xs
      induction xs with
      | nil => intro vs _ h; simpa [RCs] using h
      | cons x xs ih =>
        intro vs hx h
        simp only [RCs] at h ⊢
        obtain ⟨v, us, rfl, h1, h2⟩ := h
        obtain ⟨y, rfl⟩ := hx x (by simp)
        exact ⟨v, us, rfl, by simpa only [RC] using h1, ih us (fun z hz => hx z (by simp [hz])) h2⟩
    refine lift _ _ (fun z hz => ?_) hrest
    rcases List.mem_append.1 hz with hz | hz
    · have pl : ∀ (xs : List Operand) (xa : List AV), plainA σ xs = some xa → ∀ z ∈ xa, ∃ y, z = .d y := by
        intro xs
        induction xs with
        | nil => intro xa h z hz; simp only [plainA, Option.some.injEq] at h; subst h; simp at hz
        | cons x xs ih =>
          intro xa h z hz
          simp only [plainA] at h
          split at h
          · rename_i y ys hy hys
            simp only [Option.some.injEq] at h
            subst h
            rcases List.mem_cons.1 hz with hz | hz
            · exact ⟨y, hz⟩
            · exact ih ys hys z hz
          · cases h
      exact pl _ _ ha z hz
    · obtain ⟨y, _, rfl⟩ := List.mem_map.1 hz
      exact ⟨y, rfl⟩
  refine (hfn.2 w L u.ownBlock _ hR.lok hR.gl (fun b hb => ⟨(hR.olt j b (hO b hb)).1, (hV.blk hb).2⟩) hargs').mono ?_
  rintro e1 w' ⟨v, L', og', rfl, hgr, hlok', hold', hog', hrc⟩
  show Good P w0 L0 row n K (a.put o.dst v) w'
  have hrc' : OwnR P w' L' og' true e' l' v := hrc
  have hext : Same w L w' L' (optB u.ownBlock) := by
    refine ⟨fun b q hq => ?_, fun b hb hne => hgr.block b hb hne, fun b q hb hne => hold' b q hb hne⟩
    have hb := hR.lok b q hq
    have hbj : ¬ optB u.ownBlock b := fun hb => (hV.blk hb).2 q hq
    refine ⟨(hold' b q hb hbj).2 hq, fun u hu => ?_⟩
    simp only [World.cell?] at hu ⊢
    rw [hgr.block b hb hbj]
    exact hu
  have hj1 := hR.putOwn j (.hs v e' l') (tmOf a j) og' (optB u.ownBlock) hext (hR.grown.then hgr (fun b hb => (hR.olt j b (hO b hb)).2)) hgr.size hlok' (fun b hb => (hR.olt j b (hO b hb)).2) (fun i b hi hi2 e => hi (hR.inj i j b hi2 (hO b e)))
    (fun b hb => by
      refine ⟨(hog' b hb).1, ?_, fun i hi e => ?_⟩
      · rcases (hog' b hb).2 with h9 | h9
        · exact .inl (Nat.le_trans hR.grown.size h9)
        · exact (hR.olt j b (hO b h9)).2
      · rcases (hog' b hb).2 with h9 | h9
        · have := (hR.olt i b e).1; omega
        · exact hi (hR.inj i j b e (hO b h9))) hrc'
  rw [setv_same] at hj1
  obtain ⟨A, c, rfl⟩ := hrc'.shape
  refine ⟨L', setv (setv O j og') d none, _, ?_, ?_, ?_, h A c⟩
  · rw [hd, tmOf_put (by omega)]
    exact hj1.putPure d (.d (.raw _)) _ (RepV.raw (by simp [Value.oneCell']) rfl)
  · rw [hd]; simpa [Act.put] using hdef
  · rw [hd]; simpa [Act.put] using hsz
end

/-! ### contracts with named slices and variables -/

/-- The block of what is named. -/
def hblk : AV → Option Nat
  | .hs u _ _ => u.ownBlock
  | .hb (.pointer (some ad)) _ _ => some ad.block
  | _ => none
def isH : AV → Bool
  | .hs _ _ _ => true
  | .hb _ _ _ => true
  | _ => false
/-- These are so in memory. -/
def RH (P : Program) (w : World) (L : Nat → Nat → Prop) (x : AV) : Prop := isH x = true ∧ RC P w L (hblk x) x undef
/-- No two of these lie in one block. -/
def apartB : List (Option Nat) → Prop
  | [] => True
  | x :: xs => (∀ g, x = some g → some g ∉ xs) ∧ apartB xs

/-- The contract of a function that is given names, and gives back names. -/
def CtrG (P : Program) (f : FuncId) (args hs : List AV) (Post : AV → List AV → Prop) : Prop :=
  Enters P f ∧ ∀ (w : World) (L : Nat → Nat → Prop) (vals : List Value), (∀ b q, L b q → b < w.heap.size) → GL P w L → RCs P w L none args vals → (∀ x ∈ hs, RH P w L x) → apartB (hs.map hblk) →
    Calls P f vals.toArray w fun e w' => ∃ v L' og r hs', e = .returned v ∧ GrownS w w' (fun b => some b ∈ hs.map hblk) ∧ (∀ b q, L' b q → b < w'.heap.size) ∧ (∀ b q, b < w.heap.size → some b ∉ hs.map hblk → (L' b q ↔ L b q)) ∧
      (∀ g, some g ∈ og :: hs'.map hblk → g < w'.heap.size ∧ (w.heap.size ≤ g ∨ some g ∈ hs.map hblk)) ∧ apartB (og :: hs'.map hblk) ∧ RC P w' L' og r v ∧ (∀ x ∈ hs', RH P w' L' x) ∧ Post r hs'

/-- What is given back is put into these slots, and then from 'b' on. -/
def putH (σ : St) : List Nat → Nat → List AV → St
  | _, _, [] => σ
  | k :: ks, b, x :: xs => putH (put σ k x) ks b xs
  | [], b, x :: xs => putH (put σ b x) [] (b + 1) xs

theorem RH.step {touch : Nat → Prop} {x : AV} (hs : Same w L w' L' touch) (hog : ∀ g, hblk x = some g → g < w.heap.size ∧ ¬ touch g) (h : RH P w L x) : RH P w' L' x := ⟨h.1, h.2.step hs hog⟩

theorem Rel.putName (h : Rel P w0 L0 row w L O σ tm) (k : Nat) (x : AV) (hx : RH P w L x) (hb : ∀ g, hblk x = some g → g < w.heap.size ∧ (w0.heap.size ≤ g ∨ row g) ∧ ∀ i, i ≠ k → O i ≠ some g) : Rel P w0 L0 row w L (setv O k (hblk x)) (put σ k x) tm := by
  have := h.putOwn k x (tm k) (hblk x) noB (Same.refl w L _) h.grown (Nat.le_refl _) h.lok (fun _ h => h.elim) (fun _ _ _ _ h => h) hb (by
    obtain ⟨h1, h2⟩ := hx
    cases x <;> simp [isH] at h1 <;> exact h2)
  rwa [setv_same] at this

theorem Rel.putNames : ∀ (xs : List AV) (ks : List Nat) (b : Nat) {O : Nat → Option Nat} {σ : St}, Rel P w0 L0 row w L O σ tm → (∀ x ∈ xs, RH P w L x) → apartB (xs.map hblk) →
    (∀ g, some g ∈ xs.map hblk → g < w.heap.size ∧ (w0.heap.size ≤ g ∨ row g) ∧ ∀ i, O i ≠ some g) → ∃ O', Rel P w0 L0 row w L O' (putH σ ks b xs) tm
  | [], ks, b, O, σ, h, _, _, _ => ⟨O, by cases ks <;> exact h⟩
  | x :: xs, k :: ks, b, O, σ, h, hx, ha, hb => by
    have h1 := h.putName k x (hx x (by simp)) (fun g hg => by have := hb g (by simp [hg]); exact ⟨this.1, this.2.1, fun i _ => this.2.2 i⟩)
    refine Rel.putNames xs ks b h1 (fun y hy => hx y (by simp [hy])) ha.2 (fun g hg => ?_)
    have := hb g (by simp only [List.map_cons, List.mem_cons]; exact .inr hg)
    refine ⟨this.1, this.2.1, fun i hi => ?_⟩
    simp only [setv] at hi
    split at hi
    · exact ha.1 g hi hg
    · exact this.2.2 i hi
  | x :: xs, [], b, O, σ, h, hx, ha, hb => by
    have h1 := h.putName b x (hx x (by simp)) (fun g hg => by have := hb g (by simp [hg]); exact ⟨this.1, this.2.1, fun i _ => this.2.2 i⟩)
    refine Rel.putNames xs [] (b + 1) h1 (fun y hy => hx y (by simp [hy])) ha.2 (fun g hg => ?_)
    have := hb g (by simp only [List.map_cons, List.mem_cons]; exact .inr hg)
    refine ⟨this.1, this.2.1, fun i hi => ?_⟩
    simp only [setv] at hi
    split at hi
    · exact ha.1 g hi hg
    · exact this.2.2 i hi

theorem RC.self {og : Option Nat} {x : AV} (hx : isH x = true) {v : Value} (h : RC P w L og x v) : RH P w L x ∧ ∀ g, hblk x = some g → og = some g := by
  cases x <;> simp [isH] at hx
  case hs u e l =>
    have h' : OwnR P w L og true e l u := h
    exact ⟨⟨rfl, h'.self⟩, fun g hg => (h'.blk hg).1⟩
  case hb u e y =>
    obtain ⟨g, C, h1, h2, h3⟩ : BoxT w L og e y u := h
    subst h2
    exact ⟨⟨rfl, ⟨g, C, rfl, rfl, h3⟩⟩, fun g' hg' => by simp only [hblk, ptr] at hg'; rw [← hg']; exact h1⟩

/-- The named slots that a call takes. -/
def takeH (σ : St) : List Nat → St
  | [] => σ
  | k :: ks => takeH (put σ k .undef) ks

theorem Rel.takeH : ∀ (ks : List Nat) {O : Nat → Option Nat} {σ : St}, Rel P w0 L0 row w L O σ tm → (∀ k ∈ ks, isH (σ k) = true) → ks.Nodup →
    (∀ x ∈ ks.map σ, RH P w L x) ∧ apartB ((ks.map σ).map hblk) ∧ ∃ O', Rel P w0 L0 row w L O' (Vw.takeH σ ks) tm ∧ (∀ i g, O' i = some g → O i = some g) ∧
      ∀ g, some g ∈ (ks.map σ).map hblk → (w0.heap.size ≤ g ∨ row g) ∧ g < w.heap.size ∧ (∀ q, ¬ L g q) ∧ (∀ i, O' i ≠ some g) ∧ ∃ k ∈ ks, O k = some g
  | [], O, σ, h, _, _ => ⟨by simp, trivial, O, h, fun _ _ h => h, by simp⟩
  | k :: ks, O, σ, h, hH, hn => by
    have hk := hH k (by simp)
    have hs := h.slots k
    have hrc : RC P w L (O k) (σ k) (tm k) := by
      cases hx : σ k <;> rw [hx] at hs hk <;> simp [isH] at hk <;> exact hs
    obtain ⟨r1, r2⟩ := hrc.self hk
    have h1 := h.forget k
    rw [List.nodup_cons] at hn
    have hsame : ∀ i ∈ ks, put σ k .undef i = σ i := fun i hi => by
      have hne : i ≠ k := fun e => hn.1 (e ▸ hi)
      have hHi := hH i (by simp [hi])
      simp only [put, if_neg hne]
      cases hx : σ i <;> rw [hx] at hHi <;> simp [isH] at hHi <;> rfl
    have hmap : ks.map (put σ k .undef) = ks.map σ := List.map_congr_left hsame
    obtain ⟨q1, q2, O', q3, q4, q5⟩ := Rel.takeH ks h1 (fun i hi => by rw [hsame i hi]; exact hH i (by simp [hi])) hn.2
    rw [hmap] at q1 q2 q5
    have q4' : ∀ i g, O' i = some g → O i = some g ∧ i ≠ k := fun i g hi => by
      have := q4 i g hi
      simp only [setv] at this
      split at this
      · cases this
      · exact ⟨this, by assumption⟩
    have hLk : ∀ g, hblk (σ k) = some g → ∀ q, ¬ L g q := by
      intro g hg
      cases hx : σ k <;> rw [hx] at hk hg hrc <;> simp [isH] at hk
      case hs u e l => exact ((show OwnR P w L (O k) true e l u from hrc).blk hg).2
      case hb u e y =>
        obtain ⟨g', C, e1, e2, e3, e4, e5⟩ : BoxT w L (O k) e y u := hrc
        subst e2
        simp only [hblk, ptr, Option.some.injEq] at hg
        subst hg; exact e5
    refine ⟨?_, ⟨?_, q2⟩, O', q3, fun i g hi => (q4' i g hi).1, ?_⟩
    · intro x hx
      simp only [List.map_cons, List.mem_cons] at hx
      rcases hx with rfl | hx
      · exact r1
      · exact q1 x hx
    · intro g hg hm
      obtain ⟨_, _, _, _, k', hk', hO'⟩ := q5 g hm
      simp only [setv] at hO'
      split at hO'
      · cases hO'
      · rename_i hne
        exact hne (h.inj k' k g hO' (r2 g hg))
    · intro g hg
      simp only [List.map_cons, List.mem_cons] at hg
      rcases hg with hg | hg
      · have e1 := r2 g hg.symm
        exact ⟨(h.olt k g e1).2, (h.olt k g e1).1, hLk g hg.symm, fun i hi => (q4' i g hi).2 (h.inj i k g (q4' i g hi).1 e1), k, by simp, e1⟩
      · obtain ⟨e1, e2, e3, e4, k', hk', e5⟩ := q5 g hg
        simp only [setv] at e5
        split at e5
        · cases e5
        · exact ⟨e1, e2, e3, e4, k', by simp [hk'], e5⟩

section
variable (hd : o.dst = some d) (hlt : d < n) (hsz : a.tmps.size = n) (hdef : a.defers = []) (hR : Rel P w0 L0 row w L O σ (tmOf a))
include hd hlt hsz hdef hR

/-- A call to which names are given, and which gives names. -/
theorem s_callG {f : Operand} {args : Array Operand} {ts : Array TypeId} (ho : o.op = .call { callee := .value f, args, argTypes := ts }) {g : FuncId} {caps : List D} (hf : aval σ f = .d (.clo g caps)) (hc : ∀ c ∈ caps, c.isAgg = false)
    {xa : List AV} (ha : plainA σ args.toList = some xa) (ks : List Nat) (hks : ∀ k ∈ ks, isH (σ k) = true) (hnd : ks.Nodup) (b : Nat) {Post : AV → List AV → Prop} (hfn : CtrG P g (xa ++ caps.map .d) (ks.map σ) Post)
    (h : ∀ r hs', Post r hs' → K (putH (put (takeH σ ks) d r) ks b hs')) :
    o.wp P a w (Good P w0 L0 row n K) Q := by
  obtain ⟨css, hcs, hfv⟩ := clo_inv (aval_d hR hf)
  have hexec : (execOp a.eval o).run P w = .ok (.enter g (args.map a.eval ++ css.flatten.toArray)) w := by
    simp only [execOp, ho, resolve, hfv, Deferred.ofValue, Sem.run_bind, Sem.run_pure, Result.andThen_ok, invoke, Array.empty_append, hfn.1 _ w]
  have hvals : (args.map a.eval ++ css.flatten.toArray) = (args.toList.map a.eval ++ css.flatten).toArray := by
    apply Array.ext'; simp
  unfold Oper.wp
  rw [hexec, Oper.upon_enter, hvals]
  obtain ⟨t1, t2, O1, t3, t4, t5⟩ := hR.takeH ks hks hnd
  refine (hfn.2 w L _ hR.lok hR.gl (RCs.append (plain_ok hR _ xa ha) (caps_vals hcs hc none)) t1 t2).mono ?_
  rintro e w' ⟨v, L', og, r, hs', rfl, hgr, hlok', hold', hog', hap, hrc, hrh, hpost⟩
  show Good P w0 L0 row n K (a.put o.dst v) w'
  have hS : Same w L w' L' (fun b => some b ∈ (ks.map σ).map hblk) := by
    refine ⟨fun b q hq => ?_, fun b hb hne => hgr.block b hb hne, fun b q hb hne => hold' b q hb hne⟩
    have hb := hR.lok b q hq
    have hbj : some b ∉ (ks.map σ).map hblk := fun hb => (t5 b hb).2.2.1 q hq
    refine ⟨(hold' b q hb hbj).2 hq, fun u hu => ?_⟩
    simp only [World.cell?] at hu ⊢
    rw [hgr.block b hb hbj]
    exact hu
  have hfresh : ∀ g, some g ∈ og :: hs'.map hblk → g < w'.heap.size ∧ (w0.heap.size ≤ g ∨ row g) ∧ ∀ i, O1 i ≠ some g := fun g hg => by
    have := hog' g hg
    refine ⟨this.1, ?_, fun i hi => ?_⟩
    · rcases this.2 with h9 | h9
      · exact .inl (Nat.le_trans hR.grown.size h9)
      · exact (t5 g h9).1
    · rcases this.2 with h9 | h9
      · have := (t3.olt i g hi).1; omega
      · exact (t5 g h9).2.2.2.1 i hi
  have h1 := t3.putOwn d r v og _ hS (hR.grown.then hgr (fun b hb => (t5 b hb).1)) hgr.size hlok' (fun b hb => (t5 b hb).1) (fun i b _ hi hb => (t5 b hb).2.2.2.1 i hi) (fun g hg => by
    have := hfresh g (by simp [hg])
    exact ⟨this.1, this.2.1, fun i _ => this.2.2 i⟩) (RC.toRA hrc _ _ _ _)
  obtain ⟨O2, h2⟩ := Rel.putNames hs' ks b h1 hrh hap.2 (fun g hg => by
    have := hfresh g (by simp only [List.mem_cons]; exact .inr hg)
    refine ⟨this.1, this.2.1, fun i hi => ?_⟩
    simp only [setv] at hi
    split at hi
    · exact hap.1 g hi hg
    · exact this.2.2 i hi)
  refine ⟨L', O2, _, ?_, ?_, ?_, h r hs' hpost⟩
  · rw [hd, tmOf_put (by omega)]; exact h2
  · rw [hd]; simpa [Act.put] using hdef
  · rw [hd]; simpa [Act.put] using hsz
end

end Go.Vw

/- The abstract walk: operations, regions, code; and that the model's code does what the walk says. -/
namespace Go.Vw
open Go.RowKit Go.Proofs

def bindO {α : Type} (x : Option α) (f : α → Prop) : Prop :=
  match x with
  | some y => f y
  | none => False
@[simp] theorem bindO_some {α : Type} (y : α) (f : α → Prop) : bindO (some y) f = f y := rfl
@[simp] theorem bindO_none {α : Type} (f : α → Prop) : bindO none f = False := rfl
theorem bindO_ok {α : Type} {x : Option α} {f : α → Prop} (h : bindO x f) : ∃ y, x = some y ∧ f y := by
  cases x with
  | none => exact h.elim
  | some y => exact ⟨y, rfl, h⟩

def sliceE (P : Program) (t : TypeId) : Option TypeId :=
  match P.underlying t with
  | some (.slice e) => if e < 100000 then some e else none
  | _ => none
theorem sliceE_lt {P : Program} {t e : TypeId} (h : sliceE P t = some e) : e < 100000 := by
  unfold sliceE at h
  split at h
  · split at h
    · simp only [Option.some.injEq] at h
      subst h; assumption
    · cases h
  · cases h
theorem sliceE_ok {P : Program} {t e : TypeId} (h : sliceE P t = some e) : P.underlying t = some (.slice e) := by
  unfold sliceE at h
  split at h
  · rename_i e' hu
    split at h
    · simp only [Option.some.injEq] at h
      subst h; exact hu
    · cases h
  · cases h

def unbytes : List D → Option Str
  | [] => some []
  | .int .u8 m :: l => (match unbytes l with
    | some s => if 0 ≤ m ∧ m < 256 then some (UInt8.ofNat m.toNat :: s) else none
    | none => none)
  | _ :: _ => none
theorem unbytes_ok : ∀ {l : List D} {s : Str}, unbytes l = some s → l = s.map fun c => .int .u8 c.toNat
  | [], s, h => by simp only [unbytes, Option.some.injEq] at h; subst h; rfl
  | .int .u8 m :: l, s, h => by
    simp only [unbytes] at h
    split at h
    · rename_i s' hs
      split at h
      · rename_i hm
        simp only [Option.some.injEq] at h
        subst h
        simp only [List.map_cons, unbytes_ok hs]
        congr 2
        have : m.toNat % 256 = m.toNat := by omega
        simp [UInt8.toNat_ofNat', this]
        omega
      · cases h
    · cases h
  | .int .i8 _ :: _, _, h => by simp [unbytes] at h
  | .int .i16 _ :: _, _, h => by simp [unbytes] at h
  | .int .i32 _ :: _, _, h => by simp [unbytes] at h
  | .int .i64 _ :: _, _, h => by simp [unbytes] at h
  | .int .u16 _ :: _, _, h => by simp [unbytes] at h
  | .int .u32 _ :: _, _, h => by simp [unbytes] at h
  | .int .u64 _ :: _, _, h => by simp [unbytes] at h
  | .bool _ :: _, _, h => by simp [unbytes] at h
  | .str _ :: _, _, h => by simp [unbytes] at h
  | .sl _ :: _, _, h => by simp [unbytes] at h
  | .agg _ :: _, _, h => by simp [unbytes] at h
  | .ref _ :: _, _, h => by simp [unbytes] at h
  | .clo _ _ :: _, _, h => by simp [unbytes] at h
  | .bnd _ _ :: _, _, h => by simp [unbytes] at h
  | .nilp :: _, _, h => by simp [unbytes] at h
  | .raw _ :: _, _, h => by simp [unbytes] at h
@[simp] theorem unbytes_bytesD (s : Str) : unbytes (bytesD s) = some s := by
  induction s with
  | nil => rfl
  | cons c s ih =>
    have hc := c.toNat_lt
    have e : unbytes (bytesD (c :: s)) = (match unbytes (bytesD s) with
      | some s => if (0 : Int) ≤ c.toNat ∧ (c.toNat : Int) < 256 then some (UInt8.ofNat (c.toNat : Int).toNat :: s) else none
      | none => none) := rfl
    rw [e, ih]
    have h2 : (0 : Int) ≤ c.toNat ∧ (c.toNat : Int) < 256 := by omega
    simp only [h2, and_self, if_true, Int.toNat_natCast, UInt8.ofNat_toNat]

/-- A call met by its contract. -/
def CallK (P : Program) (g : FuncId) (args : List AV) (σ : St) (d : Nat) (b : Bool) (K : St → Prop) : Prop := ∃ r, Ctr P g args r ∧ K (put σ d (demote b r))

/-- Own slices are lent to the call; it gives what hangs on no memory. -/
def LendK (P : Program) (g : FuncId) (args : List AV) (σ : St) (d : Nat) (K : St → Prop) : Prop := ∃ y, flatD y = true ∧ Ctr P g args (.d y) ∧ K (put σ d (.d y))
/-- The call works in place on its first argument. -/
def InK (P : Program) (g : FuncId) (x : AV) (rest : List AV) (σ : St) (d : Nat) (K : St → Prop) : Prop :=
  match x with
  | .bor j true e l => ∃ l', CtrI P g e l rest l' ∧ K (put (put σ j (.own true e l')) d (.tup []))
  | .d (.raw u) => ∃ h e l l', σ h = .hs u e l ∧ CtrI P g e l rest l' ∧ K (put (put σ h (.hs u e l')) d (.tup []))
  | _ => False
/-- The call takes a named slice and gives one back. -/
def NameK (P : Program) (g : FuncId) (x : AV) (rest : List AV) (σ : St) (d : Nat) (K : St → Prop) : Prop :=
  match x with
  | .d (.raw u) => ∃ h e l e' l', σ h = .hs u e l ∧ Ctr P g (.own true e l :: rest) (.own true e' l') ∧ ∀ A c, K (put (put σ h (.hs (.slice A l'.length c) e' l')) d (.d (.raw (.slice A l'.length c))))
  | _ => False
/-- The call takes what is named in slots ks, and gives names from slot b on. -/
def GivK (P : Program) (g : FuncId) (args : List AV) (σ : St) (d : Nat) (K : St → Prop) : Prop :=
  ∃ ks b Post, (∀ k ∈ ks, isH (σ k) = true) ∧ ks.Nodup ∧ CtrG P g args (ks.map σ) Post ∧ ∀ r hs', Post r hs' → K (putH (put (takeH σ ks) d r) ks b hs')
/-- append to a named slice, or to one that is nil and has no name yet. -/
def AppK (e : TypeId) (z : Nat × Nat) (ds : List D) (u : Value) (σ : St) (d : Nat) (K : St → Prop) : Prop :=
  ∃ h l, (σ h = .hs u e l ∨ (u = .slice none 0 0 ∧ l = [] ∧ σ h = .undef)) ∧ (∀ u ∈ ds, width u = z.1) ∧ (l.length + ds.length) * z.2 ≤ 140737488355328 ∧ l.length + ds.length ≤ 140737488355328 ∧
    ∀ A c, K (put (put σ h (.hs (.slice A (l ++ ds).length c) e (l ++ ds))) d (.d (.raw (.slice A (l ++ ds).length c))))
/-- append of a string's bytes to a named slice, or to one that is nil and has no name yet. -/
def AppSK (e : TypeId) (st : Str) (u : Value) (σ : St) (d : Nat) (K : St → Prop) : Prop :=
  ∃ h l, (σ h = .hs u e l ∨ (u = .slice none 0 0 ∧ l = [] ∧ σ h = .undef)) ∧ l.length + List.length st ≤ 140737488355328 ∧
    ∀ A c, K (put (put σ h (.hs (.slice A (l ++ bytesD st).length c) e (l ++ bytesD st))) d (.d (.raw (.slice A (l ++ bytesD st).length c))))
/-- A nil slice gets a name, too. -/
def nilN (σ : St) : Option (Nat × TypeId) → St
  | none => σ
  | some (k, e) => put σ k (.hs (.slice none 0 0) e [])
def nilOk (P : Program) (σ : St) : Option (Nat × TypeId) → Prop
  | none => True
  | some (k, e) => σ k = .undef ∧ (P.info? (ety e)).isSome = true
/-- A new variable gets a name. -/
def NewK (P : Program) (e : TypeId) (z : D) (σ : St) (d : Nat) (K : St → Prop) : Prop :=
  ∃ h nk, nilOk P σ nk ∧ nilN σ nk h = .undef ∧ ∀ g, K (put (put (nilN σ nk) h (.hb (.pointer (some ⟨g, 0, none⟩)) e z)) d (.d (.raw (.pointer (some ⟨g, 0, none⟩)))))
def NewB (e : TypeId) (z : D) (σ : St) (d : Nat) (K : St → Prop) : Prop :=
  ∃ h, σ h = .undef ∧ ∀ g, K (put (put σ h (.hb (.pointer (some ⟨g, 0, none⟩)) e z)) d (.d (.raw (.pointer (some ⟨g, 0, none⟩)))))
theorem Rel.nilN {P : Program} {w0 w : World} {L0 L : Nat → Nat → Prop} {row : Nat → Prop} {O : Nat → Option Nat} {σ : St} {tm : Nat → Value} (h : Rel P w0 L0 row w L O σ tm) : ∀ {nk : Option (Nat × TypeId)}, nilOk P σ nk → ∃ O', Rel P w0 L0 row w L O' (nilN σ nk) tm
  | none, _ => ⟨O, h⟩
  | some (k, e), hk => by
    obtain ⟨_, hi⟩ := hk
    obtain ⟨i, hi⟩ := Option.isSome_iff_exists.1 hi
    refine ⟨_, h.putName k (.hs (.slice none 0 0) e []) ⟨rfl, ?_⟩ (fun g hg => by simp [hblk, Value.ownBlock] at hg)⟩
    refine ⟨[], i.size, by rw [hi]; rfl, by simp [RepL], by simp, ⟨by simp, .inl ⟨rfl, rfl⟩⟩, fun g hg => by simp [Value.ownBlock] at hg⟩
def RawIx (e : TypeId) (m : Nat) (u : Value) (σ : St) (C : AV → Prop) : Prop := ∃ j e' l, 1000000 ≤ j ∧ σ j = .hs u e' l ∧ ety e' = e ∧ m < l.length ∧ C (.eadr j m [])
def RawFd (P : Program) (s f : Nat) (u : Value) (σ : St) (C : AV → Prop) : Prop := ∃ j e ds, 1000000 ≤ j ∧ σ j = .hb u e (.agg ds) ∧ f < ds.length ∧ fieldOff P s f = some (widths (ds.take f)) ∧ C (.adr j [f])
def RawCut (e : TypeId) (i : Nat) (u : Value) (σ : St) (d : Nat) (K : St → Prop) : Prop := ∃ j e' l, σ j = .hs u e' l ∧ ety e' = e ∧ i ≤ l.length ∧ K (put (put σ j .undef) d (.own true e' (l.take i)))

/-- An array's element. -/
def ArrK (P : Program) (t : TypeId) (ds : List D) (m : Int) (C : Nat → Prop) : Prop :=
  ∃ n e sz, P.underlying t = some (.array n e) ∧ (P.info? e).map (·.size) = some sz ∧ ds.length = n ∧ (∀ y ∈ ds, width y = sz) ∧ 0 ≤ m ∧ m.toNat < n ∧ C m.toNat
/-- The call takes two own slices, the first and the last argument. -/
def In2K (P : Program) (g : FuncId) (x : AV) (mid : List AV) (z : AV) (σ : St) (d : Nat) (b : Bool) (K : St → Prop) : Prop :=
  match x, z with
  | .bor j true e l, .bor j2 true e2 l2 => j ≠ j2 ∧ ∃ r, Ctr2 P g e l mid e2 l2 r ∧ K (put (put (put σ j .undef) j2 .undef) d (demote b r))
  | _, _ => False
section
variable (P : Program) (F : Nat → Bool)

def vCall (c : Call) (d : Nat) (K : St → Prop) (σ : St) : Prop :=
  match c.callee, c.args.toList, c.argTypes.toList with
  | .builtin .len, [x], [t] => (match P.underlying t with
    | some (.slice _) => (match aval σ x with
      | .sub j lo => bindO (ownOf (σ j)) fun q => K (put σ d (.d (.int .i64 ((q.2.length - lo : Nat) : Int))))
      | y => bindO (lenOf y) fun l => K (put σ d (.d (.int .i64 l))))
    | some .string => (match aval σ x with
      | .d (.str s) => K (put σ d (.d (.int .i64 s.length)))
      | _ => False)
    | _ => False)
  | .builtin .append, [x, y], [t, t'] => if t' = t then bindO (sliceE P t) fun e => (match aval σ x with
    | .bor j m e' l => e' = e ∧ bindO (esz P e) fun z => bindO (seqOf (aval σ y)) fun ds => (∀ u ∈ ds, width u = z.1) ∧ (l.length + ds.length) * z.2 ≤ 140737488355328 ∧ l.length + ds.length ≤ 140737488355328 ∧
        K (put (put σ j (left m l)) d (.own m e (l ++ ds)))
    | .d (.raw u) => bindO (esz P e) fun z => bindO (seqOf (aval σ y)) fun ds => AppK e z ds u σ d K
    | _ => False)
    else P.underlying t' = some .string ∧ bindO (sliceE P t) fun e => esz P e = some (1, 1) ∧ (match aval σ x, aval σ y with
    | .bor j m e' l, .d (.str st) => e' = e ∧ l.length + List.length st ≤ 140737488355328 ∧ K (put (put σ j (left m l)) d (.own m e (l ++ bytesD st)))
    | .d (.raw u), .d (.str st) => AppSK e st u σ d K
    | _, _ => False)
  | .builtin .min, [x, y], [t, _] => (match P.underlying t, aval σ x, aval σ y with
    | some (.int k), .d (.int k' p), .d (.int _ q) => k' = k ∧ K (put σ d (.d (.int k (if q < p then q else p))))
    | _, _, _ => False)
  | .builtin .clear, [x], [t] => bindO (sliceE P t) fun e => (match aval σ x with
    | .sub j lo => (match σ j with
      | .own true e' l => ety e' = e ∧ bindO (zeroD P e) fun z => szOf P e = some (width z) ∧ K (put (put σ j (.own true e' (l.take lo ++ List.replicate (l.length - lo) z))) d (.tup []))
      | _ => False)
    | _ => False)
  | .value f, xs, _ => (match aval σ f with
    | .d (.clo g caps) => (caps.all fun c => !c.isAgg) = true ∧
      if F (d + 2000000) then bindO (lendsA σ xs) fun xa => LendK P g (xa ++ caps.map .d) σ d K
      else if F (d + 3000000) then (match xs with
        | x :: ys => bindO (plainA σ ys) fun xa => InK P g (aval σ x) (xa ++ caps.map .d) σ d K
        | [] => False)
      else if F (d + 4000000) then (match xs with
        | x :: ys => bindO (plainA σ ys) fun xa => NameK P g (aval σ x) (xa ++ caps.map .d) σ d K
        | [] => False)
      else if F (d + 5000000) then bindO (plainA σ xs) fun xa => GivK P g (xa ++ caps.map .d) σ d K
      else if F (d + 10000000) then bindO (rawsA σ xs) fun xa => CallK P g (xa ++ caps.map .d) σ d (F d) K
      else if F (d + 12000000) then caps = [] ∧ (match xs with
        | [x, y, z] => bindO (plainA σ [y]) fun xa => In2K P g (aval σ x) xa (aval σ z) σ d (F d) K
        | _ => False)
      else (eaten σ xs).length ≤ 1 ∧ bindO (argsA σ xs) fun xa => CallK P g (xa ++ caps.map .d) (eat σ (eaten σ xs)) d (F d) K
    | .d (.bnd g first) => eaten σ xs = [] ∧ bindO (argsA σ xs) fun xa => CallK P g (first.map .d ++ xa) σ d (F d) K
    | _ => False)
  | _, _, _ => False

def vMove (x : Operand) (ty : TypeId) (asg : Bool) (d : Nat) (K : St → Prop) (σ : St) : Prop :=
  match x with
  | .tmp t => (match σ t with
    | .own m e l => if asg then K (put (put σ t .undef) d (.own m e l)) else if F (d + 6000000) then m = true ∧ K (put (put σ t (.own false e l)) d (.bor t false e l)) else K (put σ d (.bor t m e l))
    | .tup l => K (put (put σ t .undef) d (.tup l))
    | _ => K (put σ d (aval σ x)))
  | .const (.slice none 0 0) => (match sliceE P ty with
    | some e => bindO (szOf P e) fun _ => K (put σ d (.own (F d) e []))
    | none => K (put σ d (aval σ x)))
  | _ => K (put σ d (aval σ x))

def vIndexAddr (t : TypeId) (x i : Operand) (d : Nat) (K : St → Prop) (σ : St) : Prop :=
  match aval σ x with
  | .adr j p => (match aval σ i, boxOf (σ j) with
    | .d (.int _ m), some b => (match D.get p b with
      | some (.agg ds) => ArrK P t ds m fun q => K (put σ d (.adr j (p ++ [q])))
      | _ => False)
    | _, _ => False)
  | _ => bindO (sliceE P t) fun e => match aval σ i with
  | .d (.int _ m) => 0 ≤ m ∧ (match aval σ x with
    | .bor j true e' l => ety e' = e ∧ m.toNat < l.length ∧ K (put σ d (.eadr j m.toNat []))
    | .d (.raw u) => RawIx e m.toNat u σ fun y => K (put σ d y)
    | .sub j lo => bindO (ownOf (σ j)) fun q => ety q.1 = e ∧ lo + m.toNat < q.2.length ∧ K (put σ d (.eadr j (lo + m.toNat) []))
    | y => (match asD y with
      | some (.sl ds) => bindO (szOf P e) fun sz => bindO (ds[m.toNat]?) fun z => width z = sz ∧ K (put σ d (.d (.ref z)))
      | _ => False))
  | _ => False

def vFieldAddr (s : TypeId) (x : Operand) (f : Nat) (d : Nat) (K : St → Prop) (σ : St) : Prop :=
  match aval σ x with
  | .d (.ref (.agg ds)) => bindO (ds[f]?) fun y => fieldOff P s f = some (widths (ds.take f)) ∧ K (put σ d (.d (.ref y)))
  | .d (.raw u) => RawFd P s f u σ fun y => K (put σ d y)
  | .adr j p => (match boxOf (σ j) with
    | some b => (match D.get p b with
      | some (.agg ds) => f < ds.length ∧ fieldOff P s f = some (widths (ds.take f)) ∧ K (put σ d (.adr j (p ++ [f])))
      | _ => False)
    | _ => False)
  | .eadr j i p => (match ownOf (σ j) with
    | some (_, l) => bindO (l[i]?) fun y => (match D.get p y with
      | some (.agg ds) => f < ds.length ∧ fieldOff P s f = some (widths (ds.take f)) ∧ K (put σ d (.eadr j i (p ++ [f])))
      | _ => False)
    | _ => False)
  | _ => False

def vSlice (t : TypeId) (x : Operand) (lo hi : Option Operand) (d : Nat) (K : St → Prop) (σ : St) : Prop :=
  match P.underlying t with
  | some .string => (match aval σ x with
    | .d (.str s) => bindO (bnd σ lo 0) fun i => bindO (bnd σ hi s.length) fun j => i ≤ j ∧ j ≤ s.length ∧ K (put σ d (.d (.str ((s.drop i).take (j - i)))))
    | _ => False)
  | some (.slice e) => (match aval σ x with
    | .bor j true e' l => ety e' = e ∧ bindO (szOf P e) fun _ => (match lo, hi with
      | none, some y => bindO (bnd σ (some y) 0) fun i => i ≤ l.length ∧ K (put (put σ j .undef) d (.own true e' (l.take i)))
      | some y, none => bindO (bnd σ (some y) 0) fun i => i ≤ l.length ∧ K (put σ d (.sub j i))
      | _, _ => False)
    | z => (match asD z with
      | some (.sl ds) => bindO (szOf P e) fun sz => bindO (bnd σ lo 0) fun i => bindO (bnd σ hi ds.length) fun j => i ≤ j ∧ j ≤ ds.length ∧ (∀ y ∈ ds, width y = sz) ∧ K (put σ d (.d (.sl ((ds.drop i).take (j - i)))))
      | _ => False))
  | _ => False
def vSlice3 (t : TypeId) (x hi mx : Operand) (d : Nat) (K : St → Prop) (σ : St) : Prop :=
  match P.underlying t with
  | some (.slice e) => (match aval σ x with
    | .d (.raw u) => bindO (szOf P e) fun _ => bindO (bnd σ (some hi) 0) fun i => bindO (bnd σ (some mx) 0) fun j => i = j ∧ RawCut e i u σ d K
    | _ => False)
  | _ => False

def vConvert (s t : TypeId) (x : Operand) (d : Nat) (K : St → Prop) (σ : St) : Prop :=
  match P.underlying s, P.underlying t with
  | some (.slice e), some .string => P.underlying e = some (.int .u8) ∧ bindO (seqOf (aval σ x)) fun l => bindO (unbytes l) fun st => K (put σ d (.d (.str st)))
  | some .string, some .string => (match aval σ x with
    | .d (.str st) => K (put σ d (.d (.str st)))
    | _ => False)
  | some .string, some (.slice e) => P.underlying e = some (.int .u8) ∧ szOf P e = some 1 ∧ (match aval σ x with
    | .d (.str st) => st.length ≤ 9223372036854775807 ∧ K (put σ d (.own (F d) (e + 100000) (bytesD st)))
    | _ => False)
  | some _, some (.int k') => (match aval σ x with
    | .d (.int _ m) => InR k' m ∧ K (put σ d (.d (.int k' m)))
    | _ => False)
  | _, _ => False

def vExtract (x : Operand) (i : Nat) (d : Nat) (K : St → Prop) (σ : St) : Prop :=
  match x with
  | .tmp t => (match σ t with
    | .tup l => (match l[i]? with
      | some (.d y) => K (put σ d (.d y))
      | some (.own m e k) => K (put (put σ t (.tup (l.map noOwn))) d (.own (m && F d) e k))
      | _ => False)
    | _ => False)
  | _ => False

def vNext (x : Operand) (d : Nat) (K : St → Prop) (σ : St) : Prop :=
  match x with
  | .tmp t => (match σ t with
    | .iter st pos => (pos < st.length → K (put (put σ t (.iter st (pos + (Utf8.decode ⟨st.toArray⟩ pos).2))) d (.tup [.d (.bool true), .d (.int .i64 pos), .d (.int .i32 (Utf8.decode ⟨st.toArray⟩ pos).1)]))) ∧
        (¬ pos < st.length → K (put σ d (.tup [.d (.bool false)])))
    | _ => False)
  | _ => False

def vNilQ (op : BinOp) (t : TypeId) (x : AV) (d : Nat) (K : St → Prop) (σ : St) : Prop :=
  bindO (sliceE P t) fun _ => match asD x with
    | some (.sl l) => (l ≠ [] → K (put σ d (.d (.bool (isNe op))))) ∧ (l = [] → ∀ b, K (put σ d (.d (.bool b))))
    | _ => False

/-- An operation that leaves a value in slot d. -/
def vopd (op : Op) (ty : TypeId) (d : Nat) (K : St → Prop) (σ : St) : Prop :=
  match op with
  | .move x => vMove P F x ty false d K σ
  | .assign x => vMove P F x ty true d K σ
  | .pick c x y => (match aval σ c with
    | .d (.bool b) => (b = true → K (put σ d (aval σ x))) ∧ (b = false → K (put σ d (aval σ y)))
    | _ => False)
  | .load t x => bindO (derefO P σ x) fun y => tyk P t = some (y.isAgg, width y) ∧ K (put σ d (.d y))
  | .nilCheck x => bindO (sure σ (aval σ x)) fun _ => K (put σ d (aval σ x))
  | .alloc e => if F (d + 1000000) then bindO (zeroDX P true e) fun z => NewK P e z σ d K else bindO (zeroD P e) fun z => K (put σ d (.box z))
  | .box t x => if F (d + 1000000) then bindO (asD (aval σ x)) fun y => NewB t y σ d K else bindO (asD (aval σ x)) fun y => K (put σ d (.box y))
  | .makeSlice t x y => bindO (sliceE P t) fun e => bindO (zeroD P e) fun z => bindO (esz P e) fun s => width z = s.1 ∧ (match aval σ x, aval σ y with
    | .d (.int .i64 p), .d (.int .i64 q) => p = q ∧ 0 ≤ p ∧ p * s.2 ≤ 140737488355328 ∧ p ≤ 140737488355328 ∧ K (put σ d (.own (F d) e (List.replicate p.toNat z)))
    | _, _ => False)
  | .build t ps => bindO (if F (d + 1000000) then structDX P true t else structD P t) fun zs => bindO (partsD σ ps.toList) fun ys => fillFits zs ys ∧ K (put σ d (.d (.agg (fillD zs ys))))
  | .buildSlice t len ps => bindO (sliceE P t) fun e => bindO (esz P e) fun z => bindO (partsD σ ps.toList) fun ys => ys.map (·.1) = List.range len ∧ (∀ y ∈ ys.map (·.2), width y = z.1) ∧ len * z.1 ≤ 16777216 ∧
      K (put σ d (.own (F d) e (ys.map (·.2))))
  | .fieldAddr s x f => vFieldAddr P s x f d K σ
  | .indexAddr t x i => vIndexAddr P t x i d K σ
  | .index t x i => (match P.underlying t, aval σ x, aval σ i with
    | some .string, .d (.str s), .d (.int _ m) => 0 ≤ m ∧ bindO (s[m.toNat]?) fun c => K (put σ d (.d (.int .u8 c.toNat)))
    | _, _, _ => False)
  | .slice t x lo hi none => vSlice P t x lo hi d K σ
  | .slice t x none (some hi) (some mx) => vSlice3 P t x hi mx d K σ
  | .binOp op t x y _ => if nilQ op y = true then vNilQ P op t (aval σ x) d K σ else bindO (asD (aval σ x)) fun dx => bindO (asD (aval σ y)) fun dy => binS P t op dx dy fun r => K (put σ d (.d r))
  | .unOp .not _ x => (match aval σ x with
    | .d (.bool b) => K (put σ d (.d (.bool !b)))
    | _ => False)
  | .unOp .neg _ x => (match aval σ x with
    | .d (.int k m) => InR k (0 - m) ∧ K (put σ d (.d (.int k (0 - m))))
    | _ => False)
  | .convert s t x => vConvert P F s t x d K σ
  | .extract x i => vExtract F x i d K σ
  | .makeFunc (.func g) first caps => (match first.toList with
    | [] => capsK (fun σ' ds => K (put σ' d (.d (.clo g ds)))) caps.toList σ []
    | x :: xs => caps.toList = [] ∧ bndK (fun ds => K (put σ d (.d (.bnd g ds)))) σ (x :: xs) [])
  | .call c => vCall P F c d K σ
  | .range t x => P.underlying t = some .string ∧ (match aval σ x with
    | .d (.str st) => K (put σ d (.iter st 0))
    | _ => False)
  | .next x true => vNext x d K σ
  | _ => False

/-- A tail of slot j stays known over a store through slot j. -/
def SubK (j : Nat) (σ σ' : St) (K : St → Prop) : Prop := ∃ k lo, σ k = .sub j lo ∧ k ≠ j ∧ K (put σ' k (.sub j lo))
def vStore (t : TypeId) (x y : Operand) (K : St → Prop) (σ : St) : Prop :=
  match aval σ x with
  | .adr j p => (match σ j with
    | .box b => bindO (D.get p b) fun z => bindO (asD (aval σ y)) fun u => width u = width z ∧ szOf P t = some (width u) ∧ K (put σ j (.box (D.upd p b u)))
    | .hb n e b => bindO (D.get p b) fun z => bindO (asD (aval σ y)) fun u => width u = width z ∧ szOf P t = some (width u) ∧ K (put σ j (.hb n e (D.upd p b u)))
    | _ => False)
  | .eadr j i p => (match σ j with
    | .own true e l => bindO (l[i]?) fun b => bindO (D.get p b) fun z => bindO (asD (aval σ y)) fun u => width u = width z ∧ szOf P t = some (width u) ∧ (if F 11000000 then SubK j σ (put σ j (.own true e (l.set i (D.upd p b u)))) K else K (put σ j (.own true e (l.set i (D.upd p b u)))))
    | .hs n e l => bindO (l[i]?) fun b => bindO (D.get p b) fun z => bindO (asD (aval σ y)) fun u => width u = width z ∧ szOf P t = some (width u) ∧ K (put σ j (.hs n e (l.set i (D.upd p b u))))
    | _ => False)
  | _ => False

/-- A call whose result is not kept. -/
def vCallN (c : Call) (K : St → Prop) (σ : St) : Prop :=
  match c.callee, c.args.toList, c.argTypes.toList with
  | .builtin .clear, [x], [t] => bindO (sliceE P t) fun e => (match aval σ x with
    | .sub j lo => (match σ j with
      | .own true e' l => ety e' = e ∧ bindO (zeroD P e) fun z => szOf P e = some (width z) ∧ K (put σ j (.own true e' (l.take lo ++ List.replicate (l.length - lo) z)))
      | _ => False)
    | _ => False)
  | _, _, _ => False

def vop (o : Oper) (K : St → Prop) (σ : St) : Prop :=
  match o.dst with
  | some d => vopd P F o.op o.type d K σ
  | none => (match o.op with
    | .store t x y => vStore P F t x y K σ
    | .call c => vCallN P c K σ
    | _ => False)

def putO (σ : St) (d : Option Nat) : St :=
  match d with
  | some d => put σ d (.tup [])
  | none => σ

def vops (ops : Array Oper) : List Oper → (St → Prop) → St → Prop
  | [], K, σ => K σ
  | o :: rest, K, σ => match o.guard with
    | none => vop P F o (vops ops rest K) σ
    | some (j, want) => bindO ((ops[j]?).bind (·.dst)) fun t => (match σ t with
      | .d (.bool b) => (b = want → vop P F o (vops ops rest K) σ) ∧ (b ≠ want → vops ops rest K (putO σ o.dst))
      | .tup [] => vops ops rest K (putO σ o.dst)
      | _ => False)

def thenV (next : St → Prop) (Q : Exit → St → Prop) : Exit → St → Prop
  | .normal, σ => next σ
  | e, σ => Q e σ
def inBlockV (id : Nat) (Q : Exit → St → Prop) : Exit → St → Prop
  | .exit id', σ => if id' = id then Q .normal σ else Q (.exit id') σ
  | e, σ => Q e σ
end

variable {P : Program} {F : Nat → Bool} {w0 : World} {L0 : Nat → Nat → Prop} {row : Nat → Prop} {n : Nat} {K : St → Prop} {Q : Exit → Act → World → Prop}
  {w w' : World} {L L' : Nat → Nat → Prop} {O O' : Nat → Option Nat} {σ σ' : St} {a : Act} {o : Oper} {d : Nat} {v : Value} {tm : Nat → Value}

theorem put_put (σ : St) (d : Nat) (x y : AV) : put (put σ d x) d y = put σ d y := by
  have hk : ∀ z : AV, kill d (kill d z) = kill d z := by
    intro z
    cases z with
    | bor j m e l => by_cases h : j = d <;> cases m <;> simp [kill, h]
    | adr j p => by_cases h : j = d <;> simp [kill, h]
    | eadr j i p => by_cases h : j = d <;> simp [kill, h]
    | sub j i => by_cases h : j = d <;> simp [kill, h]
    | _ => rfl
  funext i
  simp only [put]
  by_cases h : i = d
  · simp [h]
  · simp [h, hk]

/-- What the call owns may be shown to others, and is then no longer written. -/
theorem Rel.demote (h : Rel P w0 L0 row w L O σ tm) {t : Nat} {e : TypeId} {l : List D} (ht : σ t = .own true e l) (b : Bool) : ∃ L', Rel P w0 L0 row w L' O (put σ t (.own b e l)) tm := by
  have h1 := h.slots t
  rw [ht] at h1
  have h1' : RC P w L (O t) (.own true e l) (tm t) := h1
  obtain ⟨L', h2, h3, h4, h5⟩ := h1'.demote b h.lok (fun g hg => (h.olt t g hg).1)
  refine ⟨L', ?_⟩
  have hS : Same w L w L' (optB (O t)) := ⟨h5, fun _ _ _ => rfl, fun c q _ hne => h4 c q (fun e => hne e.symm)⟩
  have := h.putOwn t (.own b e l) (tm t) (O t) (optB (O t)) hS h.grown (Nat.le_refl _) h3 (fun g hg => (h.olt t g hg).2) (fun i g hi hO e => hi (h.inj i t g hO e))
    (fun g hg => ⟨(h.olt t g hg).1, (h.olt t g hg).2, fun i hi e => hi (h.inj i t g e hg)⟩) h2
  rwa [setv_id tm t, setv_id O t] at this

theorem vMove_ok {x : Operand} {ty : TypeId} {asg : Bool} (ho : o.op = if asg then .assign x else .move x) (hd : o.dst = some d) (hlt : d < n) (hsz : a.tmps.size = n) (hdef : a.defers = []) (hR : Rel P w0 L0 row w L O σ (tmOf a))
    (h : vMove P F x ty asg d K σ) : o.wp P a w (Good P w0 L0 row n K) Q := by
  have ho' : o.op = .move x ∨ o.op = .assign x := by cases asg <;> simp at ho <;> simp [ho]
  unfold vMove at h
  split at h
  · rename_i t
    split at h
    · rename_i m e l ht
      cases asg with
      | true => exact s_moveOwn hd hlt hsz hdef hR (ho'.symm) ht h
      | false =>
        simp only [Bool.false_eq_true, if_false] at h
        split at h
        · obtain ⟨rfl, h⟩ := h
          obtain ⟨L', hR'⟩ := hR.demote ht false
          exact s_copy hd hlt hsz hdef hR' ho' (by simp only [aval, put, if_true, kill, rd]; exact h)
        · exact s_copy hd hlt hsz hdef hR ho' (by simp only [aval, ht, rd]; exact h)
    · rename_i l ht
      exact s_moveTup hd hlt hsz hdef hR (ho'.symm) ht h
    · exact s_copy hd hlt hsz hdef hR ho' h
  · split at h
    · rename_i he
      obtain ⟨sz, hz, h⟩ := bindO_ok h
      exact s_nil hd hlt hsz hdef hR ho'.symm hz (sliceE_lt he) (F d) h
    · exact s_copy hd hlt hsz hdef hR ho' h
  · exact s_copy hd hlt hsz hdef hR ho' h

theorem Rel.kill_undef (h : Rel P w0 L0 row w L O σ tm) {j : Nat} (hj : σ j = .undef) (t : Nat) : kill j (σ t) = σ t := by
  have h1 := h.slots t
  cases hx : σ t <;> rw [hx] at h1 <;> simp only [kill]
  case bor k m e l =>
    by_cases hk : k = j
    · subst hk; have := h1.1; rw [hj] at this; cases this
    · simp [hk]
  case adr k p =>
    by_cases hk : k = j
    · subst hk; obtain ⟨_, _, _, e, _⟩ := h1; rw [hj] at e; cases e
    · simp [hk]
  case eadr k i p =>
    by_cases hk : k = j
    · subst hk; obtain ⟨_, _, _, _, _, _, _, _, e, _⟩ := h1; rw [hj] at e; cases e
    · simp [hk]
  case sub k i =>
    by_cases hk : k = j
    · subst hk; obtain ⟨_, _, _, e, _⟩ := h1; rw [hj] at e; cases e
    · simp [hk]

theorem arr1 {α : Type} {xs : Array α} {x : α} (h : xs.toList = [x]) : xs = #[x] := by apply Array.ext'; simpa using h
theorem arr2 {α : Type} {xs : Array α} {x y : α} (h : xs.toList = [x, y]) : xs = #[x, y] := by apply Array.ext'; simpa using h

theorem vCall_ok {c : Call} (ho : o.op = .call c) (hd : o.dst = some d) (hlt : d < n) (hsz : a.tmps.size = n) (hdef : a.defers = []) (hR : Rel P w0 L0 row w L O σ (tmOf a)) (h : vCall P F c d K σ) : o.wp P a w (Good P w0 L0 row n K) Q := by
  obtain ⟨callee, args, ts⟩ := c
  unfold vCall at h
  simp only at h
  split at h
  · rename_i x t ha ht
    obtain rfl := arr1 ha
    obtain rfl := arr1 ht
    split at h
    · rename_i e hu
      split at h
      · rename_i j lo hx
        obtain ⟨⟨e', l⟩, hj, h⟩ := bindO_ok h
        exact s_lenSub hd hlt hsz hdef hR ho hu hx hj h
      · obtain ⟨l, hl, h⟩ := bindO_ok h
        exact s_len hd hlt hsz hdef hR ho hu hl h
    · rename_i hu
      split at h
      · rename_i s hs
        exact s_lenS hd hlt hsz hdef hR ho hu hs h
      · exact h.elim
    · exact h.elim
  · rename_i x y t t' ha ht
    obtain rfl := arr2 ha
    obtain rfl := arr2 ht
    by_cases htt : t' = t
    case neg =>
      rw [if_neg htt] at h
      obtain ⟨hu, h⟩ := h
      obtain ⟨e, he, hz, h⟩ := bindO_ok h
      split at h
      · rename_i j m e' l st hx hy
        obtain ⟨rfl, h1, h⟩ := h
        exact s_appendS hd hlt hsz hdef hR ho hu (sliceE_ok he) (sliceE_lt he) hz hx hy h1 h
      · rename_i u st hx hy
        obtain ⟨j, l, hj, h1, h⟩ := h
        rcases hj with hj | ⟨rfl, rfl, hju⟩
        · exact s_appendRawS hd hlt hsz hdef hR ho hu (sliceE_ok he) (sliceE_lt he) hz hx hj hy h1 h
        · obtain ⟨i0, z0, f1, f2, f3, f4, f5, f6⟩ := esz_parts (P := P) (e := e) hz
          have hnew : RH P w L (.hs (.slice none 0 0) e []) := ⟨rfl, [], 1, by rw [ety_lt (sliceE_lt he)]; simp [f1, f3], by simp [RepL], by simp, ⟨by simp, .inl ⟨rfl, rfl⟩⟩, by simp [Value.ownBlock]⟩
          have hR1 := hR.putName j _ hnew (fun g hg => by simp [hblk, Value.ownBlock] at hg)
          have hav : ∀ z, aval σ z ≠ .undef → aval (put σ j (.hs (.slice none 0 0) e [])) z = aval σ z := by
            intro z hz
            cases z with
            | tmp t =>
              by_cases htj : t = j
              · subst htj; exact absurd (by simp only [aval, hju, rd]) hz
              · simp only [aval, put, if_neg htj, hR.kill_undef hju]
            | _ => rfl
          have hj1 : put σ j (.hs (.slice none 0 0) e []) j = .hs (.slice none 0 0) e [] := by simp [put, kill]
          refine s_appendRawS hd hlt hsz hdef hR1 ho hu (sliceE_ok he) (sliceE_lt he) hz (by rw [hav x (by rw [hx]; simp)]; exact hx) hj1 (by rw [hav y (by rw [hy]; simp)]; exact hy) h1 (fun A c => ?_)
          rw [put_put]
          exact h A c
      · exact h.elim
    subst htt
    rw [if_pos rfl] at h
    obtain ⟨e, he, h⟩ := bindO_ok h
    split at h
    · rename_i j m e' l hx
      obtain ⟨rfl, h⟩ := h
      obtain ⟨z, hz, h⟩ := bindO_ok h
      obtain ⟨ds, hds, h1, h2, h3, h⟩ := bindO_ok h
      exact s_append hd hlt hsz hdef hR ho (sliceE_ok he) (sliceE_lt he) (by rw [hz]) hx hds h1 h2 h3 h
    · rename_i u hx
      obtain ⟨z, hz, h⟩ := bindO_ok h
      obtain ⟨ds, hds, j, l, hj, h1, h2, h3, h⟩ := bindO_ok h
      rcases hj with hj | ⟨rfl, rfl, hju⟩
      · exact s_appendRaw hd hlt hsz hdef hR ho (sliceE_ok he) (sliceE_lt he) (by rw [hz]) hx hj hds h1 h2 h3 h
      · obtain ⟨i0, z0, f1, f2, f3, f4, f5, f6⟩ := esz_parts (P := P) (e := e) (sz := z.1) (by_ := z.2) (by rw [hz])
        have hnew : RH P w L (.hs (.slice none 0 0) e []) := ⟨rfl, [], z.1, by rw [ety_lt (sliceE_lt he)]; simp [f1, f3], by simp [RepL], by simp, ⟨by simp, .inl ⟨rfl, rfl⟩⟩, by simp [Value.ownBlock]⟩
        have hR1 := hR.putName j _ hnew (fun g hg => by simp [hblk, Value.ownBlock] at hg)
        have hav : ∀ z, aval σ z ≠ .undef → aval (put σ j (.hs (.slice none 0 0) e [])) z = aval σ z := by
          intro z hz
          cases z with
          | tmp t =>
            by_cases htj : t = j
            · subst htj; exact absurd (by simp only [aval, hju, rd]) hz
            · simp only [aval, put, if_neg htj, hR.kill_undef hju]
          | _ => rfl
        have hj1 : put σ j (.hs (.slice none 0 0) e []) j = .hs (.slice none 0 0) e [] := by simp [put, kill]
        refine s_appendRaw hd hlt hsz hdef hR1 ho (sliceE_ok he) (sliceE_lt he) (by rw [hz]) (by rw [hav x (by rw [hx]; simp)]; exact hx) hj1 (by rw [hav y (by intro e; rw [e] at hds; simp [seqOf] at hds)]; exact hds) h1 h2 h3 (fun A c => ?_)
        rw [put_put]
        exact h A c
    · exact h.elim
  · rename_i x y t t' ha ht
    obtain rfl := arr2 ha
    obtain rfl := arr2 ht
    split at h
    · rename_i k k' p k2 q hu hx hy
      obtain ⟨rfl, h⟩ := h
      exact s_min hd hlt hsz hdef hR ho hx hy h
    · exact h.elim
  · rename_i x t ha ht
    obtain rfl := arr1 ha
    obtain rfl := arr1 ht
    obtain ⟨e, he, h⟩ := bindO_ok h
    split at h
    · rename_i j lo hx
      split at h
      · rename_i e' l hj
        obtain ⟨h1, h⟩ := h
        obtain ⟨z, hz, h2, h⟩ := bindO_ok h
        exact s_clear hd hlt hsz hdef hR ho (sliceE_ok he) hx hj h1 hz h2 h
      · exact h.elim
    · exact h.elim
  · rename_i f
    split at h
    · rename_i g caps hf
      obtain ⟨h1, h⟩ := h
      have h1' : ∀ c ∈ caps, c.isAgg = false := fun c hc => by have := List.all_eq_true.1 h1 c hc; simpa using this
      split at h
      · obtain ⟨xa, hxa, y, hy, hfn, h⟩ := bindO_ok h
        exact s_callLend hd hlt hsz hdef hR ho hf h1' hxa hy hfn h
      · split at h
        · split at h
          · rename_i x ys hxs
            obtain ⟨xa, hxa, h⟩ := bindO_ok h
            unfold InK at h
            split at h
            · rename_i j e l hx
              obtain ⟨l', hfn, h⟩ := h
              have h2 := aval_ok hR x
              rw [hx] at h2
              obtain ⟨h2, h3⟩ := h2
              refine s_callI hd hlt hsz hdef hR ho hxs hf h1' (j := j) (e := e) (l := l) (by rw [h2]; rfl) (by rw [h2]; exact h3) hxa hfn ?_
              rw [h2]; exact h
            · rename_i u hx
              obtain ⟨j, e, l, l', hj, hfn, h⟩ := h
              refine s_callI hd hlt hsz hdef hR ho hxs hf h1' (j := j) (e := e) (l := l) (by rw [hj]; rfl) (by rw [hj]; exact (aval_d hR hx).raw_inv) hxa hfn ?_
              rw [hj]; exact h
            · exact h.elim
          · exact h.elim
        · split at h
          · split at h
            · rename_i x ys hxs
              obtain ⟨xa, hxa, h⟩ := bindO_ok h
              unfold NameK at h
              split at h
              · rename_i u hx
                obtain ⟨j, e, l, e', l', hj, hfn, h⟩ := h
                exact s_callHs hd hlt hsz hdef hR ho hxs hf h1' hx hj hxa hfn h
              · exact h.elim
            · exact h.elim
          · split at h
            · obtain ⟨xa, hxa, ks, b, Post, hks, hnd, hfn, h⟩ := bindO_ok h
              exact s_callG hd hlt hsz hdef hR ho hf h1' hxa ks hks hnd b hfn h
            · split at h
              · obtain ⟨xa, hxa, r, hfn, h⟩ := bindO_ok h
                exact s_callRaw hd hlt hsz hdef hR ho hf h1' hxa hfn (F d) h
              · split at h
                · obtain ⟨rfl, h⟩ := h
                  split at h
                  · rename_i x y z hxs
                    obtain ⟨xa, hxa, h⟩ := bindO_ok h
                    unfold In2K at h
                    split at h
                    · rename_i j e l j2 e2 l2 hx hz
                      obtain ⟨hjj, r, hfn, h⟩ := h
                      exact s_call2 hd hlt hsz hdef hR ho (ys := [y]) (by simpa using hxs) hf hx hz hjj hxa hfn (F d) h
                    · exact h.elim
                  · exact h.elim
                · obtain ⟨h2, h⟩ := h
                  obtain ⟨xa, hxa, r, hfn, h⟩ := bindO_ok h
                  exact s_call hd hlt hsz hdef hR ho hf h1' hxa h2 hfn (F d) h
    · rename_i g first hf
      obtain ⟨h2, h⟩ := h
      obtain ⟨xa, hxa, r, hfn, h⟩ := bindO_ok h
      exact s_callBnd hd hlt hsz hdef hR ho hf hxa h2 hfn (F d) h
    · exact h.elim
  · exact h.elim

theorem vopd_ok (hd : o.dst = some d) (hlt : d < n) (hsz : a.tmps.size = n) (hdef : a.defers = []) (hR : Rel P w0 L0 row w L O σ (tmOf a)) (h : vopd P F o.op o.type d K σ) : o.wp P a w (Good P w0 L0 row n K) Q := by
  unfold vopd at h
  split at h
  · rename_i x ho; exact vMove_ok (asg := false) (by simpa using ho) hd hlt hsz hdef hR h
  · rename_i x ho; exact vMove_ok (asg := true) (by simpa using ho) hd hlt hsz hdef hR h
  · rename_i c x y ho
    split at h
    · rename_i b hc; exact s_pick hd hlt hsz hdef hR ho hc h.1 h.2
    · exact h.elim
  · rename_i t x ho
    obtain ⟨y, hy, h1, h2⟩ := bindO_ok h
    exact s_load hd hlt hsz hdef hR ho hy h1 h2
  · rename_i x ho
    obtain ⟨y, hy, h⟩ := bindO_ok h
    exact s_nilCheck hd hlt hsz hdef hR ho hy h
  · rename_i e ho
    split at h
    · obtain ⟨z, hz, j, nk, hnk, hj, h⟩ := bindO_ok h
      obtain ⟨O', hR'⟩ := Rel.nilN hR hnk
      exact s_allocN hd hlt hsz hdef hR' ho hz hj h
    · obtain ⟨z, hz, h⟩ := bindO_ok h
      exact s_alloc hd hlt hsz hdef hR ho hz h
  · rename_i e x ho
    split at h
    · obtain ⟨y, hy, j, hj, h⟩ := bindO_ok h
      exact s_boxN hd hlt hsz hdef hR ho hy hj h
    · obtain ⟨y, hy, h⟩ := bindO_ok h
      exact s_box hd hlt hsz hdef hR ho hy h
  · rename_i t x y ho
    obtain ⟨e, he, h⟩ := bindO_ok h
    obtain ⟨z, hz, h⟩ := bindO_ok h
    obtain ⟨s, hs, hw, h⟩ := bindO_ok h
    split at h
    · rename_i p q hx hy
      obtain ⟨rfl, h0, h1, h2, h⟩ := h
      exact s_makeSlice hd hlt hsz hdef hR ho (sliceE_ok he) (sliceE_lt he) (sz := s.1) (by_ := s.2) hs hz hw hx hy h0 h1 h2 (F d) h
    · exact h.elim
  · rename_i t ps ho
    obtain ⟨zs, hz, h⟩ := bindO_ok h
    obtain ⟨ys, hy, h1, h2⟩ := bindO_ok h
    split at hz
    · exact s_build (N := true) hd hlt hsz hdef hR ho hz hy h1 h2
    · exact s_build (N := false) hd hlt hsz hdef hR ho hz hy h1 h2
  · rename_i t len ps ho
    obtain ⟨e, he, h⟩ := bindO_ok h
    obtain ⟨z, hz, h⟩ := bindO_ok h
    obtain ⟨ys, hy, h1, h2, h3, h4⟩ := bindO_ok h
    exact s_buildSlice hd hlt hsz hdef hR ho (sliceE_ok he) (sliceE_lt he) (by rw [hz]) hy h1 h2 h3 (F d) h4
  · rename_i s x f ho
    unfold vFieldAddr at h
    split at h
    · rename_i ds hx
      obtain ⟨y, hy, h1, h2⟩ := bindO_ok h
      exact s_fieldRef hd hlt hsz hdef hR ho hx hy h1 h2
    · rename_i u hx
      obtain ⟨j, e1, ds, _, hj, h1, h2, h3⟩ := h
      exact s_fieldRaw hd hlt hsz hdef hR ho hx hj h1 h2 h3
    · rename_i j p hx
      split at h
      · rename_i b hj
        split at h
        · rename_i ds hp
          exact s_fieldAdr hd hlt hsz hdef hR ho hx hj hp h.1 h.2.1 h.2.2
        · exact h.elim
      · exact h.elim
    · rename_i j i p hx
      split at h
      · rename_i e l hj
        obtain ⟨y, hy, h⟩ := bindO_ok h
        split at h
        · rename_i ds hp
          exact s_fieldEadr hd hlt hsz hdef hR ho hx hj hy hp h.1 h.2.1 h.2.2
        · exact h.elim
      · exact h.elim
    · exact h.elim
  · rename_i t x i ho
    unfold vIndexAddr at h
    split at h
    · rename_i j p hx
      split at h
      · rename_i k m b hi hj
        split at h
        · rename_i ds hp
          obtain ⟨n', e, sz, hu, hz, hl, hw, h0, hm, h⟩ := h
          exact s_indexArr hd hlt hsz hdef hR ho hu (by simpa [szOf] using hz) hx hj hp hl hw hi h0 hm h
        · exact h.elim
      · exact h.elim
    obtain ⟨e, he, h⟩ := bindO_ok h
    split at h
    · rename_i k m hi
      obtain ⟨h0, h⟩ := h
      split at h
      · rename_i j e' l hx
        obtain ⟨rfl, h1, h2⟩ := h
        exact s_indexEadr hd hlt hsz hdef hR ho (sliceE_ok he) hx rfl hi h0 h1 h2
      · rename_i u hx
        obtain ⟨j, e', l, _, hj, h1, h2, h3⟩ := h
        exact s_indexRaw hd hlt hsz hdef hR ho (sliceE_ok he) hx hj h1 hi h0 h2 h3
      · rename_i j lo hx
        obtain ⟨⟨e', l⟩, hj, h1, h2, h⟩ := bindO_ok h
        exact s_indexSub hd hlt hsz hdef hR ho (sliceE_ok he) hx hj h1 hi h0 h2 h
      · split at h
        · rename_i ds hx
          obtain ⟨sz, hz, h⟩ := bindO_ok h
          obtain ⟨z, hzz, h1, h2⟩ := bindO_ok h
          exact s_indexRef hd hlt hsz hdef hR ho (sliceE_ok he) hz hx hi h0 hzz h1 h2
        · exact h.elim
    · exact h.elim
  · rename_i t x i ho
    split at h
    · rename_i s k m hu hx hi
      obtain ⟨h0, h⟩ := h
      obtain ⟨c, hc, h⟩ := bindO_ok h
      exact s_indexS hd hlt hsz hdef hR ho hu hx hi h0 hc h
    · exact h.elim
  · rename_i t x lo hi ho
    unfold vSlice at h
    split at h
    · rename_i hu
      split at h
      · rename_i s hx
        obtain ⟨i, hi', h⟩ := bindO_ok h
        obtain ⟨j, hj, h1, h2, h3⟩ := bindO_ok h
        exact s_sliceS hd hlt hsz hdef hR ho hu hx hi' hj h1 h2 h3
      · exact h.elim
    · rename_i e hu
      split at h
      · rename_i j e' l hx
        obtain ⟨h1, h⟩ := h
        obtain ⟨sz, hz, h⟩ := bindO_ok h
        split at h
        · obtain ⟨i, hi', h2, h⟩ := bindO_ok h
          exact s_cut hd hlt hsz hdef hR ho hu hz hx h1 hi' h2 h
        · obtain ⟨i, hi', h2, h⟩ := bindO_ok h
          exact s_sub hd hlt hsz hdef hR ho hu hz hx h1 hi' h2 h
        · exact h.elim
      · split at h
        · rename_i ds hx
          obtain ⟨sz, hz, h⟩ := bindO_ok h
          obtain ⟨i, hi', h⟩ := bindO_ok h
          obtain ⟨j, hj, h1, h2, h3, h4⟩ := bindO_ok h
          exact s_sliceD hd hlt hsz hdef hR ho hu hz hx hi' hj h1 h2 h3 h4
        · exact h.elim
    · exact h.elim
  · rename_i t x hi mx ho
    unfold vSlice3 at h
    split at h
    · rename_i e hu
      split at h
      · rename_i u hx
        obtain ⟨sz, hz, h⟩ := bindO_ok h
        obtain ⟨i, hi', h⟩ := bindO_ok h
        obtain ⟨j, hj, rfl, k, e', l, hk, h1, h2, h⟩ := bindO_ok h
        exact s_cutRaw hd hlt hsz hdef hR ho hu hz hx hk h1 hi' hj h2 h
      · exact h.elim
    · exact h.elim
  · rename_i op t x y t' ho
    by_cases hq : nilQ op y = true
    · rw [if_pos hq] at h
      obtain ⟨e, he, h⟩ := bindO_ok h
      split at h
      · rename_i l hx
        exact s_nilQ hd hlt hsz hdef hR ho hq (sliceE_ok he) hx h.1 h.2
      · exact h.elim
    rw [if_neg hq] at h
    obtain ⟨dx, hx, h⟩ := bindO_ok h
    obtain ⟨dy, hy, h⟩ := bindO_ok h
    exact s_bin hd hlt hsz hdef hR ho hx hy h
  · rename_i t x ho
    split at h
    · rename_i b hx; exact s_not hd hlt hsz hdef hR ho hx h
    · exact h.elim
  · rename_i t x ho
    split at h
    · rename_i k m hx; exact s_neg hd hlt hsz hdef hR ho hx h.1 h.2
    · exact h.elim
  · rename_i s t x ho
    unfold vConvert at h
    split at h
    · rename_i e hs ht
      obtain ⟨h1, h⟩ := h
      obtain ⟨l, hl, h⟩ := bindO_ok h
      obtain ⟨st, hst, h⟩ := bindO_ok h
      exact s_convBytes hd hlt hsz hdef hR ho hs h1 ht hl (unbytes_ok hst) h
    · rename_i hs ht
      split at h
      · rename_i st hx; exact s_convStr hd hlt hsz hdef hR ho hs ht hx h
      · exact h.elim
    · rename_i e hs ht
      obtain ⟨h1, h2, h⟩ := h
      split at h
      · rename_i st hx; exact s_toBytes hd hlt hsz hdef hR ho hs ht h1 h2 hx h.1 (F d) h.2
      · exact h.elim
    · rename_i u k' hs ht
      split at h
      · rename_i k m hx; exact s_convInt hd hlt hsz hdef hR ho (by simp [hs]) ht hx h.1 h.2
      · exact h.elim
    · exact h.elim
  · rename_i x i ho
    unfold vExtract at h
    split at h
    · rename_i t
      split at h
      · rename_i l ht
        split at h
        · rename_i y hy; exact s_extract hd hlt hsz hdef hR ho rfl ht hy h
        · rename_i m e k hy
          have h1 : o.wp P a w (Good P w0 L0 row n fun σ' => σ' = put (put σ t (.tup (l.map noOwn))) d (.own m e k)) Q := s_extractOwn hd hlt hsz hdef hR ho ht hy rfl
          have hg : ∀ (a' : Act) (w' : World), Good P w0 L0 row n (fun σ' => σ' = put (put σ t (.tup (l.map noOwn))) d (.own m e k)) a' w' → Good P w0 L0 row n K a' w' := by
            rintro a' w' ⟨L1, O1, σ1, hR1, g1, g2, rfl⟩
            cases m with
            | false => exact ⟨L1, O1, _, hR1, g1, g2, by simpa using h⟩
            | true =>
              obtain ⟨L2, hR2⟩ := hR1.demote (t := d) (e := e) (l := k) (by simp [put, kill]) (F d)
              rw [put_put] at hR2
              exact ⟨L2, O1, _, hR2, g1, g2, by simpa using h⟩
          unfold Oper.wp at h1 ⊢
          generalize (execOp a.eval o).run P w = res at h1 ⊢
          unfold Oper.upon at h1 ⊢
          split <;> simp only at h1 ⊢
          · exact hg _ _ h1
          · exact hg _ _ h1
          · exact hg _ _ h1
          · refine h1.mono ?_
            intro e' w'' hh
            cases e' with
            | returned v => exact hg _ _ hh
            | panicked ch => exact hh
            | outgrown => exact hh
          · exact h1.mono fun v w'' hh => hg _ _ hh
          · exact h1
        · exact h.elim
      · exact h.elim
    · exact h.elim
  · rename_i g first caps ho
    split at h
    · rename_i h1
      have : first = #[] := by apply Array.ext'; simpa using h1
      subst this
      exact s_makeFunc hd hlt hsz hdef hR ho h
    · rename_i x xs h1
      obtain ⟨h2, h⟩ := h
      have : caps = #[] := by apply Array.ext'; simpa using h2
      subst this
      rw [← h1] at h
      exact s_makeBnd hd hlt hsz hdef hR ho h
  · rename_i c ho; exact vCall_ok ho hd hlt hsz hdef hR h
  · rename_i t x ho
    obtain ⟨h1, h⟩ := h
    split at h
    · rename_i st hx; exact s_range hd hlt hsz hdef hR ho h1 hx h
    · exact h.elim
  · rename_i x ho
    unfold vNext at h
    split at h
    · split at h
      · rename_i st pos ht
        exact s_next hd hlt hsz hdef hR ho ht h.1 h.2
      · exact h.elim
    · exact h.elim
  · exact h.elim

theorem vop_ok (hlt : ∀ d, o.dst = some d → d < n) (hsz : a.tmps.size = n) (hdef : a.defers = []) (hR : Rel P w0 L0 row w L O σ (tmOf a)) (h : vop P F o K σ) : o.wp P a w (Good P w0 L0 row n K) Q := by
  unfold vop at h
  split at h
  · rename_i d hd; exact vopd_ok hd (hlt d hd) hsz hdef hR h
  · rename_i hd
    split at h
    · rename_i t x y ho
      unfold vStore at h
      split at h
      · rename_i j p hx
        split at h
        · rename_i b hj
          obtain ⟨z, hz, h⟩ := bindO_ok h
          obtain ⟨u, hu, h1, h2, h3⟩ := bindO_ok h
          exact s_storeBox hd hsz hdef hR ho hx (b := b) (by rw [hj]; rfl) hz hu h1 h2 (by rw [hj]; exact h3)
        · rename_i nn b hj
          obtain ⟨z, hz, h⟩ := bindO_ok h
          obtain ⟨u, hu, h1, h2, h3⟩ := bindO_ok h
          exact s_storeBox hd hsz hdef hR ho hx (b := b) (by rw [hj]; rfl) hz hu h1 h2 (by rw [hj]; exact h3)
        · exact h.elim
      · rename_i j i p hx
        split at h
        · rename_i e l hj
          obtain ⟨b, hb, h⟩ := bindO_ok h
          obtain ⟨z, hz, h⟩ := bindO_ok h
          obtain ⟨u, hu, h1, h2, h3⟩ := bindO_ok h
          split at h3
          · obtain ⟨k, lo, hk, hkj, h3⟩ := h3
            have hj' : ownOf (σ j) = some (e, l) := by rw [hj]; rfl
            exact s_storeRowG hd hsz hdef hR ho hx (e := e) (l := l) hj' hb hz hu h1 h2 (fun _ _ _ hr => hR.resub hk hkj hj' (by simp) hr) (by rw [hj]; exact h3)
          · exact s_storeRow hd hsz hdef hR ho hx (e := e) (l := l) (by rw [hj]; rfl) hb hz hu h1 h2 (by rw [hj]; exact h3)
        · rename_i nn e l hj
          obtain ⟨b, hb, h⟩ := bindO_ok h
          obtain ⟨z, hz, h⟩ := bindO_ok h
          obtain ⟨u, hu, h1, h2, h3⟩ := bindO_ok h
          exact s_storeRow hd hsz hdef hR ho hx (e := e) (l := l) (by rw [hj]; rfl) hb hz hu h1 h2 (by rw [hj]; exact h3)
        · exact h.elim
      · exact h.elim
    · rename_i c ho
      obtain ⟨callee, args, ts⟩ := c
      unfold vCallN at h
      simp only at h
      split at h
      · rename_i x t ha ht
        obtain rfl := arr1 ha
        obtain rfl := arr1 ht
        obtain ⟨e, he, h⟩ := bindO_ok h
        split at h
        · rename_i j lo hx
          split at h
          · rename_i e' l hj
            obtain ⟨h1, h⟩ := h
            obtain ⟨z, hz, h2, h⟩ := bindO_ok h
            exact s_clearN hsz hdef hR hd ho (sliceE_ok he) hx hj h1 hz h2 h
          · exact h.elim
        · exact h.elim
      · exact h.elim
    · exact h.elim
end Go.Vw

/- The abstract walk is sound: regions, code, functions. -/
namespace Go.Vw
open Go.RowKit Go.Proofs

variable {P : Program} {F : Nat → Bool} {w0 : World} {L0 : Nat → Nat → Prop} {row : Nat → Prop} {n : Nat} {K : St → Prop} {Q : Exit → Act → World → Prop}
  {w w' : World} {L L' : Nat → Nat → Prop} {O O' : Nat → Option Nat} {σ σ' : St} {a : Act} {o : Oper} {d : Nat} {v : Value} {tm : Nat → Value}

theorem yielded_of {ops : Array Oper} {j t : Nat} {b : Bool} (hR : Rel P w0 L0 row w L O σ (tmOf a)) (hj : (ops[j]?).bind (·.dst) = some t) (ht : σ t = .d (.bool b)) : yielded ops a.tmps j = some b := by
  have h1 := hR.slots t
  rw [ht] at h1
  have h2 : tmOf a t = .bool b := RepV.bool_inv h1
  have h3 : a.tmps[t]? = some (.bool b) := by
    simp only [tmOf, Array.getD_eq_getD_getElem?] at h2
    cases hx : a.tmps[t]? with
    | none => rw [hx] at h2; simp [undef] at h2
    | some x => rw [hx] at h2; simp only [Option.getD_some] at h2; rw [h2]
  simp only [yielded, hj, Option.bind_some, h3]

theorem yielded_not {ops : Array Oper} {j t : Nat} (hR : Rel P w0 L0 row w L O σ (tmOf a)) (hj : (ops[j]?).bind (·.dst) = some t) (ht : σ t = .tup []) : yielded ops a.tmps j = none := by
  have h1 := hR.slots t
  rw [ht] at h1
  obtain ⟨vs, h2, h4⟩ := h1
  obtain rfl : vs = [] := h4
  simp only [tmOf, Array.getD_eq_getD_getElem?] at h2
  cases hx : a.tmps[t]? with
  | none => simp only [yielded, hj, Option.bind_some, hx]
  | some x => rw [hx] at h2; simp only [Option.getD_some] at h2; simp only [yielded, hj, Option.bind_some, hx, h2]

theorem goodPutO (hR : Rel P w0 L0 row w L O σ (tmOf a)) (hlt : ∀ d, o.dst = some d → d < n) (hsz : a.tmps.size = n) (hdef : a.defers = []) (h : K (putO σ o.dst)) : Good P w0 L0 row n K (a.put o.dst undef) w := by
  cases hd : o.dst with
  | none => rw [hd] at h; exact ⟨L, O, σ, hR, hdef, hsz, h⟩
  | some d =>
    rw [hd] at h
    refine ⟨L, setv O d none, put σ d (.tup []), ?_, by simpa [Act.put] using hdef, by simpa [Act.put] using hsz, h⟩
    rw [tmOf_put (by rw [hsz]; exact hlt d hd)]
    exact hR.putPure d (.tup []) undef ⟨[], rfl, rfl⟩

theorem vops_ok {ops : Array Oper} : ∀ (l : List Oper) (a : Act) (w : World), (∀ o ∈ l, ∀ d, o.dst = some d → d < n) → Good P w0 L0 row n (vops P F ops l K) a w → (∀ a w, Good P w0 L0 row n K a w → Q .normal a w) → wpList P ops Q l a w
  | [], a, w, _, h, hQ => hQ a w h
  | o :: l, a, w, hdst, h, hQ => by
    refine wpList_step (fun K' hK' => ?_)
    have hrest : ∀ a w, Good P w0 L0 row n (vops P F ops l K) a w → K' a w := fun a w hg => hK' a w (vops_ok l a w (fun o ho => hdst o (by simp [ho])) hg hQ)
    obtain ⟨L, O, σ, hR, hdef, hsz, hv⟩ := h
    have hlt := hdst o (by simp)
    simp only [vops] at hv
    have run : vop P F o (vops P F ops l K) σ → o.wp P a w K' Q := fun hv => by
      have h1 : o.wp P a w (Good P w0 L0 row n (vops P F ops l K)) Q := vop_ok hlt hsz hdef hR hv
      unfold Oper.wp at h1 ⊢
      generalize (execOp a.eval o).run P w = res at h1 ⊢
      unfold Oper.upon at h1 ⊢
      split <;> simp only at h1 ⊢
      · exact hrest _ _ h1
      · exact hrest _ _ h1
      · exact hrest _ _ h1
      · refine h1.mono ?_
        intro e' w'' hh
        cases e' with
        | returned v => exact hrest _ _ hh
        | panicked ch => exact hh
        | outgrown => exact hh
      · exact h1.mono fun v w'' hh => hrest _ _ hh
      · exact h1
    cases hg : o.guard with
    | none =>
      rw [hg] at hv
      simp only [Region.wanted, hg, if_true]
      exact run hv
    | some g =>
      obtain ⟨j, want⟩ := g
      rw [hg] at hv
      obtain ⟨t, ht, hv⟩ := bindO_ok hv
      split at hv
      · rename_i b hb
        have hy := yielded_of hR ht hb
        simp only [Region.wanted, hg, hy]
        by_cases hbw : b = want
        · subst hbw
          simp only [BEq.rfl, if_true]
          exact run (hv.1 rfl)
        · have : (some b == some want) = false := by simpa using hbw
          simp only [this, Bool.false_eq_true, if_false]
          exact hrest _ _ (goodPutO hR hlt hsz hdef (hv.2 hbw))
      · rename_i hb
        have hy := yielded_not hR ht hb
        have : (none == some want) = false := rfl
        simp only [Region.wanted, hg, hy, this, Bool.false_eq_true, if_false]
        exact hrest _ _ (goodPutO hR hlt hsz hdef hv)
      · exact hv.elim

end Go.Vw

/- Regions whose order Go leaves open, first part: operations that only yield a value. -/
namespace Go.Vw
open Go.RowKit Go.Proofs

/-- A call to which own slices are lent, in a region whose order is open. -/
def LendP (P : Program) (g : FuncId) (args : List AV) (C : AV → Prop) : Prop := ∃ y, flatD y = true ∧ Ctr P g args (.d y) ∧ C (.d y)

/-- A call met by its contract, in a region whose order is open. -/
def CallP (P : Program) (g : FuncId) (args : List AV) (b : Bool) (C : AV → Prop) : Prop := ∃ r, Ctr P g args r ∧ C (demote b r)

section
variable (P : Program) (F : Nat → Bool)

def pCall (c : Call) (d : Nat) (σ : St) (C : AV → Prop) : Prop :=
  match c.callee, c.args.toList, c.argTypes.toList with
  | .builtin .len, [x], [t] => (match P.underlying t with
    | some (.slice _) => bindO (lenOf (aval σ x)) fun l => C (.d (.int .i64 l))
    | some .string => (match aval σ x with
      | .d (.str s) => C (.d (.int .i64 s.length))
      | _ => False)
    | _ => False)
  | .value f, xs, _ => (match aval σ f with
    | .d (.clo g caps) => (caps.all fun c => !c.isAgg) = true ∧
      if F (d + 2000000) then bindO (lendsA σ xs) fun xa => LendP P g (xa ++ caps.map .d) C
      else eaten σ xs = [] ∧ bindO (argsA σ xs) fun xa => CallP P g (xa ++ caps.map .d) (F d) C
    | _ => False)
  | _, _, _ => False

def pIndexAddr (t : TypeId) (x i : Operand) (σ : St) (C : AV → Prop) : Prop :=
  bindO (sliceE P t) fun e => match aval σ i with
  | .d (.int _ m) => 0 ≤ m ∧ (match aval σ x with
    | .bor j true e' l => ety e' = e ∧ m.toNat < l.length ∧ C (.eadr j m.toNat [])
    | .d (.raw u) => RawIx e m.toNat u σ C
    | .sub j lo => bindO (ownOf (σ j)) fun q => ety q.1 = e ∧ lo + m.toNat < q.2.length ∧ C (.eadr j (lo + m.toNat) [])
    | y => (match asD y with
      | some (.sl ds) => bindO (szOf P e) fun sz => bindO (ds[m.toNat]?) fun z => width z = sz ∧ C (.d (.ref z))
      | _ => False))
  | _ => False

def pFieldAddr (s : TypeId) (x : Operand) (f : Nat) (σ : St) (C : AV → Prop) : Prop :=
  match aval σ x with
  | .d (.ref (.agg ds)) => bindO (ds[f]?) fun y => fieldOff P s f = some (widths (ds.take f)) ∧ C (.d (.ref y))
  | .d (.raw u) => RawFd P s f u σ C
  | .adr j p => (match boxOf (σ j) with
    | some b => (match D.get p b with
      | some (.agg ds) => f < ds.length ∧ fieldOff P s f = some (widths (ds.take f)) ∧ C (.adr j (p ++ [f]))
      | _ => False)
    | _ => False)
  | .eadr j i p => (match ownOf (σ j) with
    | some (_, l) => bindO (l[i]?) fun y => (match D.get p y with
      | some (.agg ds) => f < ds.length ∧ fieldOff P s f = some (widths (ds.take f)) ∧ C (.eadr j i (p ++ [f]))
      | _ => False)
    | _ => False)
  | _ => False

def pSlice (t : TypeId) (x : Operand) (lo hi : Option Operand) (σ : St) (C : AV → Prop) : Prop :=
  match P.underlying t with
  | some .string => (match aval σ x with
    | .d (.str s) => bindO (bnd σ lo 0) fun i => bindO (bnd σ hi s.length) fun j => i ≤ j ∧ j ≤ s.length ∧ C (.d (.str ((s.drop i).take (j - i))))
    | _ => False)
  | some (.slice e) => (match asD (aval σ x) with
    | some (.sl ds) => bindO (szOf P e) fun sz => bindO (bnd σ lo 0) fun i => bindO (bnd σ hi ds.length) fun j => i ≤ j ∧ j ≤ ds.length ∧ (∀ y ∈ ds, width y = sz) ∧ C (.d (.sl ((ds.drop i).take (j - i))))
    | _ => False)
  | _ => False

def pConvert (s t : TypeId) (x : Operand) (σ : St) (C : AV → Prop) : Prop :=
  match P.underlying s, P.underlying t with
  | some .string, some .string => (match aval σ x with
    | .d (.str st) => C (.d (.str st))
    | _ => False)
  | some _, some (.int k') => (match aval σ x with
    | .d (.int _ m) => InR k' m ∧ C (.d (.int k' m))
    | _ => False)
  | _, _ => False

/-- Data alone. -/
def allD : List AV → Bool
  | [] => true
  | .d _ :: l => allD l
  | _ => false
theorem allD_ok : ∀ {l : List AV}, allD l = true → ∀ x ∈ l, ∃ d, x = .d d
  | [], _, x, hx => by simp at hx
  | y :: l, h, x, hx => by
    cases y <;> simp only [allD] at h <;> try cases h
    rename_i d
    rcases List.mem_cons.1 hx with rfl | hx
    · exact ⟨d, rfl⟩
    · exact allD_ok h x hx
def pMove (asg : Bool) (x : Operand) (σ : St) (C : AV → Prop) : Prop :=
  match x with
  | .tmp t => (match σ t with
    | .own m e l => asg = false ∧ C (.bor t m e l)
    | .tup l => asg = false ∧ allD l = true ∧ C (.tup l)
    | _ => C (aval σ x))
  | .const (.slice none 0 0) => False
  | _ => C (aval σ x)

def pExtract (x : Operand) (i : Nat) (σ : St) (C : AV → Prop) : Prop :=
  match x with
  | .tmp t => (match σ t with
    | .tup l => (match l[i]? with
      | some (.d y) => C (.d y)
      | _ => False)
    | _ => False)
  | _ => False

/-- The value that an operation yields. -/
def pureE (op : Op) (d : Nat) (σ : St) (C : AV → Prop) : Prop :=
  match op with
  | .move x => pMove false x σ C
  | .assign x => pMove true x σ C
  | .pick c x y => (match aval σ c with
    | .d (.bool b) => (b = true → C (aval σ x)) ∧ (b = false → C (aval σ y))
    | _ => False)
  | .load t x => bindO (derefO P σ x) fun y => tyk P t = some (y.isAgg, width y) ∧ C (.d y)
  | .build t ps => bindO (if F (d + 1000000) then structDX P true t else structD P t) fun zs => bindO (partsD σ ps.toList) fun ys => fillFits zs ys ∧ C (.d (.agg (fillD zs ys)))
  | .buildSlice t len ps => bindO (sliceE P t) fun e => bindO (esz P e) fun z => bindO (partsD σ ps.toList) fun ys => ys.map (·.1) = List.range len ∧ (∀ y ∈ ys.map (·.2), width y = z.1) ∧ len * z.1 ≤ 16777216 ∧
      C (.own (F d) e (ys.map (·.2)))
  | .fieldAddr s x f => pFieldAddr P s x f σ C
  | .indexAddr t x i => pIndexAddr P t x i σ C
  | .index t x i => (match P.underlying t, aval σ x, aval σ i with
    | some .string, .d (.str s), .d (.int _ m) => 0 ≤ m ∧ bindO (s[m.toNat]?) fun c => C (.d (.int .u8 c.toNat))
    | _, _, _ => False)
  | .slice t x lo hi none => pSlice P t x lo hi σ C
  | .binOp op t x y _ => bindO (asD (aval σ x)) fun dx => bindO (asD (aval σ y)) fun dy => binS P t op dx dy fun r => C (.d r)
  | .unOp .not _ x => (match aval σ x with
    | .d (.bool b) => C (.d (.bool !b))
    | _ => False)
  | .convert s t x => pConvert P s t x σ C
  | .extract x i => pExtract x i σ C
  | .call c => pCall P F c d σ C
  | _ => False
end

variable {P : Program} {F : Nat → Bool} {w0 : World} {L0 : Nat → Nat → Prop} {row : Nat → Prop} {n : Nat} {K : St → Prop} {Q : Exit → Act → World → Prop}
  {w w' : World} {L L' : Nat → Nat → Prop} {O O' : Nat → Option Nat} {σ σ' : St} {a : Act} {o : Oper} {d : Nat} {v : Value} {tm : Nat → Value}

theorem bindO_imp {α : Type} {x : Option α} {f g : α → Prop} (h : bindO x f) (hfg : ∀ y, f y → g y) : bindO x g := by
  obtain ⟨y, rfl, hy⟩ := bindO_ok h
  exact hfg y hy

theorem binD_imp {u : Option TypeDesc} {op : BinOp} {x y : D} {C C' : D → Prop} (h : binD u op x y C) (hc : ∀ r, C r → C' r) : binD u op x y C' := by
  unfold binD at h ⊢
  split at h
  · cases op <;> simp only at h ⊢ <;> first
      | exact (h : False).elim
      | exact ⟨h.1, hc _ h.2⟩
      | exact ⟨h.1, h.2.1, hc _ h.2.2⟩
      | exact ⟨h.1, h.2.1, h.2.2.1, hc _ h.2.2.2⟩
      | exact ⟨h.1, h.2.1, h.2.2.1, h.2.2.2.1, hc _ h.2.2.2.2⟩
      | exact ⟨h.1, h.2.1, h.2.2.1, h.2.2.2.1, h.2.2.2.2.1, hc _ h.2.2.2.2.2⟩
  · obtain ⟨h1, h⟩ := h
    refine ⟨h1, ?_⟩
    cases op <;> simp only at h ⊢ <;> first | exact hc _ h | exact (h : False).elim
  · obtain ⟨h1, h⟩ := h
    refine ⟨h1, ?_⟩
    cases op <;> simp only at h ⊢ <;> first | exact hc _ h | exact (h : False).elim
  · obtain ⟨h1, h⟩ := h
    refine ⟨h1, ?_⟩
    cases op <;> simp only at h ⊢ <;> first | exact hc _ h | exact (h : False).elim
  · cases op <;> simp only at h ⊢ <;> first
      | exact hc _ h
      | exact ⟨h.1, hc _ h.2⟩
  · obtain ⟨h1, h⟩ := h
    refine ⟨h1, ?_⟩
    cases op <;> simp only at h ⊢ <;> exact hc _ h
  · exact h.elim

theorem binD_det {u : Option TypeDesc} {op : BinOp} {x y : D} {C : D → Prop} (h : binD u op x y C) : ∃ r, binD u op x y (fun q => q = r) ∧ C r := by
  unfold binD at h ⊢
  split at h
  · cases op <;> simp only at h ⊢ <;> first
      | exact (h : False).elim
      | exact ⟨_, ⟨h.1, rfl⟩, h.2⟩
      | exact ⟨_, ⟨h.1, h.2.1, rfl⟩, h.2.2⟩
      | exact ⟨_, ⟨h.1, h.2.1, h.2.2.1, rfl⟩, h.2.2.2⟩
      | exact ⟨_, ⟨h.1, h.2.1, h.2.2.1, h.2.2.2.1, rfl⟩, h.2.2.2.2⟩
      | exact ⟨_, ⟨h.1, h.2.1, h.2.2.1, h.2.2.2.1, h.2.2.2.2.1, rfl⟩, h.2.2.2.2.2⟩
  · obtain ⟨h1, h⟩ := h
    cases op <;> simp only at h ⊢ <;> first | exact ⟨_, ⟨h1, rfl⟩, h⟩ | exact (h : False).elim
  · obtain ⟨h1, h⟩ := h
    cases op <;> simp only at h ⊢ <;> first | exact ⟨_, ⟨h1, rfl⟩, h⟩ | exact (h : False).elim
  · obtain ⟨h1, h⟩ := h
    cases op <;> simp only at h ⊢ <;> first | exact ⟨_, ⟨h1, rfl⟩, h⟩ | exact (h : False).elim
  · cases op <;> simp only at h ⊢ <;> first
      | exact ⟨_, rfl, h⟩
      | exact ⟨_, ⟨h.1, rfl⟩, h⟩
      | exact ⟨_, ⟨h.1, rfl⟩, h.2⟩
  · obtain ⟨h1, h⟩ := h
    cases op <;> simp only at h ⊢ <;> exact ⟨_, ⟨h1, rfl⟩, h⟩
  · exact h.elim

/-- It is one value. -/
theorem binS_imp {t : TypeId} {op : BinOp} {x y : D} {C C' : D → Prop} (h : binS P t op x y C) (hc : ∀ r, C r → C' r) : binS P t op x y C' := by
  unfold binS at h ⊢
  split at h
  · refine ⟨h.1, h.2.1, ?_⟩
    have h3 := h.2.2
    cases op <;> simp only at h3 ⊢ <;> first | exact hc _ h3 | exact h3.elim
  · exact binD_imp h hc
theorem binS_det {t : TypeId} {op : BinOp} {x y : D} {C : D → Prop} (h : binS P t op x y C) : ∃ r, binS P t op x y (fun q => q = r) ∧ C r := by
  unfold binS at h ⊢
  split at h
  · obtain ⟨h1, h2, h3⟩ := h
    cases op <;> simp only at h3 ⊢ <;> first | exact ⟨_, ⟨h1, h2, rfl⟩, h3⟩ | exact h3.elim
  · exact binD_det h

theorem pureE_det {op : Op} {C : AV → Prop} (h : pureE P F op d σ C) : ∃ v, pureE P F op d σ (fun x => x = v) ∧ C v := by
  unfold pureE at h ⊢
  split at h
  · unfold pMove at h ⊢
    split at h
    · split at h
      · exact ⟨_, ⟨h.1, rfl⟩, h.2⟩
      · exact ⟨_, ⟨h.1, h.2.1, rfl⟩, h.2.2⟩
      · exact ⟨_, rfl, h⟩
    · exact h.elim
    · exact ⟨_, rfl, h⟩
  · unfold pMove at h ⊢
    split at h
    · split at h
      · exact ⟨_, ⟨h.1, rfl⟩, h.2⟩
      · exact ⟨_, ⟨h.1, h.2.1, rfl⟩, h.2.2⟩
      · exact ⟨_, rfl, h⟩
    · exact h.elim
    · exact ⟨_, rfl, h⟩
  · split at h
    · rename_i b hb
      cases b with
      | true => exact ⟨_, ⟨fun _ => rfl, (by intro e; cases e)⟩, h.1 rfl⟩
      | false => exact ⟨_, ⟨(by intro e; cases e), fun _ => rfl⟩, h.2 rfl⟩
    · exact h.elim
  · obtain ⟨y, hy, h1, h2⟩ := bindO_ok h
    simp only [hy, bindO_some]
    exact ⟨_, ⟨h1, rfl⟩, h2⟩
  · obtain ⟨y, hy, h⟩ := bindO_ok h
    obtain ⟨z, hz, h1, h2⟩ := bindO_ok h
    simp only [hy, hz, bindO_some]
    exact ⟨_, ⟨h1, rfl⟩, h2⟩
  · obtain ⟨y, hy, h⟩ := bindO_ok h
    obtain ⟨z, hz, h⟩ := bindO_ok h
    obtain ⟨u, hu, h1, h2, h3, h4⟩ := bindO_ok h
    simp only [hy, hz, hu, bindO_some]
    exact ⟨_, ⟨h1, h2, h3, rfl⟩, h4⟩
  · unfold pFieldAddr at h ⊢
    split at h
    · obtain ⟨y, hy, h1, h2⟩ := bindO_ok h
      simp only [hy, bindO_some]
      exact ⟨_, ⟨h1, rfl⟩, h2⟩
    · obtain ⟨j, e1, ds, h0, h1, h2, h3, h4⟩ := h
      exact ⟨_, ⟨j, e1, ds, h0, h1, h2, h3, rfl⟩, h4⟩
    · split at h
      · split at h
        · exact ⟨_, ⟨h.1, h.2.1, rfl⟩, h.2.2⟩
        · exact h.elim
      · exact h.elim
    · split at h
      · obtain ⟨y, hy, h⟩ := bindO_ok h
        simp only [hy, bindO_some]
        split at h
        · exact ⟨_, ⟨h.1, h.2.1, rfl⟩, h.2.2⟩
        · exact h.elim
      · exact h.elim
    · exact h.elim
  · unfold pIndexAddr at h ⊢
    obtain ⟨e, he, h⟩ := bindO_ok h
    simp only [he, bindO_some]
    split at h
    · obtain ⟨h0, h⟩ := h
      split at h
      · exact ⟨_, ⟨h0, h.1, h.2.1, rfl⟩, h.2.2⟩
      · obtain ⟨j, e', l, h1, h2, h3, h4, h5⟩ := h
        exact ⟨_, ⟨h0, j, e', l, h1, h2, h3, h4, rfl⟩, h5⟩
      · obtain ⟨q, hq, h1, h2, h3⟩ := bindO_ok h
        simp only [hq, bindO_some]
        exact ⟨_, ⟨h0, h1, h2, rfl⟩, h3⟩
      · split at h
        · obtain ⟨y, hy, h⟩ := bindO_ok h
          obtain ⟨z, hz, h1, h2⟩ := bindO_ok h
          simp only [hy, hz, bindO_some]
          exact ⟨_, ⟨h0, h1, rfl⟩, h2⟩
        · exact h.elim
    · exact h.elim
  · split at h
    · obtain ⟨h0, h⟩ := h
      obtain ⟨y, hy, h⟩ := bindO_ok h
      simp only [hy, bindO_some]
      exact ⟨_, ⟨h0, rfl⟩, h⟩
    · exact h.elim
  · unfold pSlice at h ⊢
    split at h
    · split at h
      · obtain ⟨y, hy, h⟩ := bindO_ok h
        obtain ⟨z, hz, h1, h2, h3⟩ := bindO_ok h
        simp only [hy, hz, bindO_some]
        exact ⟨_, ⟨h1, h2, rfl⟩, h3⟩
      · exact h.elim
    · split at h
      · obtain ⟨y, hy, h⟩ := bindO_ok h
        obtain ⟨z, hz, h⟩ := bindO_ok h
        obtain ⟨u, hu, h1, h2, h3, h4⟩ := bindO_ok h
        simp only [hy, hz, hu, bindO_some]
        exact ⟨_, ⟨h1, h2, h3, rfl⟩, h4⟩
      · exact h.elim
    · exact h.elim
  · obtain ⟨y, hy, h⟩ := bindO_ok h
    obtain ⟨z, hz, h⟩ := bindO_ok h
    obtain ⟨r, h1, h2⟩ := binS_det h
    simp only [hy, hz, bindO_some]
    exact ⟨.d r, binS_imp h1 (fun q hq => by rw [hq]), h2⟩
  · split at h
    · exact ⟨_, rfl, h⟩
    · exact h.elim
  · unfold pConvert at h ⊢
    split at h
    · split at h
      · exact ⟨_, rfl, h⟩
      · exact h.elim
    · split at h
      · exact ⟨_, ⟨h.1, rfl⟩, h.2⟩
      · exact h.elim
    · exact h.elim
  · unfold pExtract at h ⊢
    split at h
    · split at h
      · split at h
        · exact ⟨_, rfl, h⟩
        · exact h.elim
      · exact h.elim
    · exact h.elim
  · unfold pCall at h ⊢
    split at h
    · split at h
      · obtain ⟨y, hy, h⟩ := bindO_ok h
        simp only [hy, bindO_some]
        exact ⟨_, rfl, h⟩
      · split at h
        · exact ⟨_, rfl, h⟩
        · exact h.elim
      · exact h.elim
    · split at h
      · obtain ⟨h1, h⟩ := h
        split at h
        · rename_i hF
          obtain ⟨y, hy, r, h2, hr, h⟩ := bindO_ok h
          refine ⟨.d r, ⟨h1, ?_⟩, h⟩
          rw [if_pos hF, hy]
          exact ⟨r, h2, hr, rfl⟩
        · rename_i hF
          obtain ⟨h2, h⟩ := h
          obtain ⟨y, hy, r, hr, h⟩ := bindO_ok h
          refine ⟨demote (F d) r, ⟨h1, ?_⟩, h⟩
          rw [if_neg hF, hy]
          exact ⟨h2, r, hr, rfl⟩
      · exact h.elim
    · exact h.elim
  · exact h.elim

theorem pureE_mono {op : Op} {C C' : AV → Prop} (h : pureE P F op d σ C) (hC : ∀ v, C v → C' v) : pureE P F op d σ C' := by
  unfold pureE at h ⊢
  split at h
  · unfold pMove at h ⊢
    split at h
    · split at h
      · exact ⟨h.1, hC _ h.2⟩
      · exact ⟨h.1, h.2.1, hC _ h.2.2⟩
      · exact hC _ h
    · exact h.elim
    · exact hC _ h
  · unfold pMove at h ⊢
    split at h
    · split at h
      · exact ⟨h.1, hC _ h.2⟩
      · exact ⟨h.1, h.2.1, hC _ h.2.2⟩
      · exact hC _ h
    · exact h.elim
    · exact hC _ h
  · split at h
    · exact ⟨fun e => hC _ (h.1 e), fun e => hC _ (h.2 e)⟩
    · exact h.elim
  · exact bindO_imp h fun y hy => ⟨hy.1, hC _ hy.2⟩
  · exact bindO_imp h fun y hy => bindO_imp hy fun z hz => ⟨hz.1, hC _ hz.2⟩
  · exact bindO_imp h fun y hy => bindO_imp hy fun z hz => bindO_imp hz fun u hu => ⟨hu.1, hu.2.1, hu.2.2.1, hC _ hu.2.2.2⟩
  · unfold pFieldAddr at h ⊢
    split at h
    · exact bindO_imp h fun y hy => ⟨hy.1, hC _ hy.2⟩
    · obtain ⟨j, e1, ds, h0, h1, h2, h3, h4⟩ := h
      exact ⟨j, e1, ds, h0, h1, h2, h3, hC _ h4⟩
    · split at h
      · split at h
        · exact ⟨h.1, h.2.1, hC _ h.2.2⟩
        · exact h.elim
      · exact h.elim
    · split at h
      · refine bindO_imp h fun y hy => ?_
        split at hy
        · exact ⟨hy.1, hy.2.1, hC _ hy.2.2⟩
        · exact hy.elim
      · exact h.elim
    · exact h.elim
  · unfold pIndexAddr at h ⊢
    refine bindO_imp h fun e h => ?_
    split at h
    · obtain ⟨h0, h⟩ := h
      refine ⟨h0, ?_⟩
      split at h
      · exact ⟨h.1, h.2.1, hC _ h.2.2⟩
      · obtain ⟨j, e', l, h1, h2, h3, h4, h5⟩ := h
        exact ⟨j, e', l, h1, h2, h3, h4, hC _ h5⟩
      · exact bindO_imp h fun q h => ⟨h.1, h.2.1, hC _ h.2.2⟩
      · split at h
        · exact bindO_imp h fun y hy => bindO_imp hy fun z hz => ⟨hz.1, hC _ hz.2⟩
        · exact h.elim
    · exact h.elim
  · split at h
    · exact ⟨h.1, bindO_imp h.2 fun y hy => hC _ hy⟩
    · exact h.elim
  · unfold pSlice at h ⊢
    split at h
    · split at h
      · exact bindO_imp h fun y hy => bindO_imp hy fun z hz => ⟨hz.1, hz.2.1, hC _ hz.2.2⟩
      · exact h.elim
    · split at h
      · exact bindO_imp h fun y hy => bindO_imp hy fun z hz => bindO_imp hz fun u hu => ⟨hu.1, hu.2.1, hu.2.2.1, hC _ hu.2.2.2⟩
      · exact h.elim
    · exact h.elim
  · exact bindO_imp h fun y hy => bindO_imp hy fun z hz => binS_imp hz fun r hr => hC _ hr
  · split at h
    · exact hC _ h
    · exact h.elim
  · unfold pConvert at h ⊢
    split at h
    · split at h
      · exact hC _ h
      · exact h.elim
    · split at h
      · exact ⟨h.1, hC _ h.2⟩
      · exact h.elim
    · exact h.elim
  · unfold pExtract at h ⊢
    split at h
    · split at h
      · split at h
        · exact hC _ h
        · exact h.elim
      · exact h.elim
    · exact h.elim
  · unfold pCall at h ⊢
    split at h
    · split at h
      · exact bindO_imp h fun y hy => hC _ hy
      · split at h
        · exact hC _ h
        · exact h.elim
      · exact h.elim
    · split at h
      · obtain ⟨h1, h⟩ := h
        refine ⟨h1, ?_⟩
        split at h
        · rename_i hF
          rw [if_pos hF]
          exact bindO_imp h fun y ⟨r, h2, hr, hc⟩ => ⟨r, h2, hr, hC _ hc⟩
        · rename_i hF
          rw [if_neg hF]
          exact ⟨h.1, bindO_imp h.2 fun y ⟨r, hr, hc⟩ => ⟨r, hr, hC _ hc⟩⟩
      · exact h.elim
    · exact h.elim
  · exact h.elim

theorem RCs.noOg {og og' : Option Nat} : ∀ {xs : List AV} {vs : List Value}, (∀ x ∈ xs, ∃ d, x = .d d) → RCs P w L og xs vs → RCs P w L og' xs vs
  | [], _, _, h => h
  | x :: xs, vs, hx, h => by
    simp only [RCs] at h ⊢
    obtain ⟨v, us, h1, h2, h3⟩ := h
    obtain ⟨d, rfl⟩ := hx x (by simp)
    exact ⟨v, us, h1, h2, RCs.noOg (fun y hy => hx y (by simp [hy])) h3⟩
theorem s_copyTup (hd : o.dst = some d) (hlt : d < n) (hsz : a.tmps.size = n) (hdef : a.defers = []) (hR : Rel P w0 L0 row w L O σ (tmOf a)) {t : Nat} {l : List AV} (ho : o.op = .move (.tmp t)) (ht : σ t = .tup l) (hl : allD l = true) (h : K (put σ d (.tup l))) :
    o.wp P a w (Good P w0 L0 row n K) Q := by
  have h1 := hR.slots t
  rw [ht] at h1
  obtain ⟨vs, hv, hr⟩ := h1
  refine pure_step hd hlt hsz hdef hR (x := .tup l) (v := tmOf a t) ?_ ⟨vs, hv, RCs.noOg (allD_ok hl) hr⟩ h
  simp [execOp, ho]
  rfl
theorem pureE_ok (hd : o.dst = some d) (hlt : d < n) (hsz : a.tmps.size = n) (hdef : a.defers = []) (hR : Rel P w0 L0 row w L O σ (tmOf a)) (h : pureE P F o.op d σ (fun x => K (put σ d x))) : o.wp P a w (Good P w0 L0 row n K) Q := by
  unfold pureE at h
  split at h
  · rename_i x ho
    unfold pMove at h
    split at h
    · rename_i t
      split at h
      · rename_i m e l ht
        exact s_copy hd hlt hsz hdef hR (.inl ho) (by simp only [aval, ht, rd]; exact h.2)
      · rename_i l ht
        exact s_copyTup hd hlt hsz hdef hR ho ht h.2.1 h.2.2
      · exact s_copy hd hlt hsz hdef hR (.inl ho) h
    · exact h.elim
    · exact s_copy hd hlt hsz hdef hR (.inl ho) h
  · rename_i x ho
    unfold pMove at h
    split at h
    · rename_i t
      split at h
      · exact absurd h.1 (by simp)
      · exact absurd h.1 (by simp)
      · exact s_copy hd hlt hsz hdef hR (.inr ho) h
    · exact h.elim
    · exact s_copy hd hlt hsz hdef hR (.inr ho) h
  · rename_i c x y ho
    split at h
    · rename_i b hc; exact s_pick hd hlt hsz hdef hR ho hc h.1 h.2
    · exact h.elim
  · rename_i t x ho
    obtain ⟨y, hy, h1, h2⟩ := bindO_ok h
    exact s_load hd hlt hsz hdef hR ho hy h1 h2
  · rename_i t ps ho
    obtain ⟨zs, hz, h⟩ := bindO_ok h
    obtain ⟨ys, hy, h1, h2⟩ := bindO_ok h
    split at hz
    · exact s_build (N := true) hd hlt hsz hdef hR ho hz hy h1 h2
    · exact s_build (N := false) hd hlt hsz hdef hR ho hz hy h1 h2
  · rename_i t len ps ho
    obtain ⟨e, he, h⟩ := bindO_ok h
    obtain ⟨z, hz, h⟩ := bindO_ok h
    obtain ⟨ys, hy, h1, h2, h3, h4⟩ := bindO_ok h
    exact s_buildSlice hd hlt hsz hdef hR ho (sliceE_ok he) (sliceE_lt he) (by rw [hz]) hy h1 h2 h3 (F d) h4
  · rename_i s x f ho
    unfold pFieldAddr at h
    split at h
    · rename_i ds hx
      obtain ⟨y, hy, h1, h2⟩ := bindO_ok h
      exact s_fieldRef hd hlt hsz hdef hR ho hx hy h1 h2
    · rename_i u hx
      obtain ⟨j, e1, ds, _, hj, h1, h2, h3⟩ := h
      exact s_fieldRaw hd hlt hsz hdef hR ho hx hj h1 h2 h3
    · rename_i j p hx
      split at h
      · rename_i b hj
        split at h
        · rename_i ds hp
          exact s_fieldAdr hd hlt hsz hdef hR ho hx hj hp h.1 h.2.1 h.2.2
        · exact h.elim
      · exact h.elim
    · rename_i j i p hx
      split at h
      · rename_i e l hj
        obtain ⟨y, hy, h⟩ := bindO_ok h
        split at h
        · rename_i ds hp
          exact s_fieldEadr hd hlt hsz hdef hR ho hx hj hy hp h.1 h.2.1 h.2.2
        · exact h.elim
      · exact h.elim
    · exact h.elim
  · rename_i t x i ho
    unfold pIndexAddr at h
    obtain ⟨e, he, h⟩ := bindO_ok h
    split at h
    · rename_i k m hi
      obtain ⟨h0, h⟩ := h
      split at h
      · rename_i j e' l hx
        obtain ⟨rfl, h1, h2⟩ := h
        exact s_indexEadr hd hlt hsz hdef hR ho (sliceE_ok he) hx rfl hi h0 h1 h2
      · rename_i u hx
        obtain ⟨j, e', l, _, hj, h1, h2, h3⟩ := h
        exact s_indexRaw hd hlt hsz hdef hR ho (sliceE_ok he) hx hj h1 hi h0 h2 h3
      · rename_i j lo hx
        obtain ⟨⟨e', l⟩, hj, h1, h2, h⟩ := bindO_ok h
        exact s_indexSub hd hlt hsz hdef hR ho (sliceE_ok he) hx hj h1 hi h0 h2 h
      · split at h
        · rename_i ds hx
          obtain ⟨sz, hz, h⟩ := bindO_ok h
          obtain ⟨z, hzz, h1, h2⟩ := bindO_ok h
          exact s_indexRef hd hlt hsz hdef hR ho (sliceE_ok he) hz hx hi h0 hzz h1 h2
        · exact h.elim
    · exact h.elim
  · rename_i t x i ho
    split at h
    · rename_i s k m hu hx hi
      obtain ⟨h0, h⟩ := h
      obtain ⟨c, hc, h⟩ := bindO_ok h
      exact s_indexS hd hlt hsz hdef hR ho hu hx hi h0 hc h
    · exact h.elim
  · rename_i t x lo hi ho
    unfold pSlice at h
    split at h
    · rename_i hu
      split at h
      · rename_i s hx
        obtain ⟨i, hi', h⟩ := bindO_ok h
        obtain ⟨j, hj, h1, h2, h3⟩ := bindO_ok h
        exact s_sliceS hd hlt hsz hdef hR ho hu hx hi' hj h1 h2 h3
      · exact h.elim
    · rename_i e hu
      split at h
      · rename_i ds hx
        obtain ⟨sz, hz, h⟩ := bindO_ok h
        obtain ⟨i, hi', h⟩ := bindO_ok h
        obtain ⟨j, hj, h1, h2, h3, h4⟩ := bindO_ok h
        exact s_sliceD hd hlt hsz hdef hR ho hu hz hx hi' hj h1 h2 h3 h4
      · exact h.elim
    · exact h.elim
  · rename_i op t x y t' ho
    obtain ⟨dx, hx, h⟩ := bindO_ok h
    obtain ⟨dy, hy, h⟩ := bindO_ok h
    exact s_bin hd hlt hsz hdef hR ho hx hy h
  · rename_i t x ho
    split at h
    · rename_i b hx; exact s_not hd hlt hsz hdef hR ho hx h
    · exact h.elim
  · rename_i s t x ho
    unfold pConvert at h
    split at h
    · rename_i hs ht
      split at h
      · rename_i st hx; exact s_convStr hd hlt hsz hdef hR ho hs ht hx h
      · exact h.elim
    · rename_i u k' hs ht
      split at h
      · rename_i k m hx; exact s_convInt hd hlt hsz hdef hR ho (by simp [hs]) ht hx h.1 h.2
      · exact h.elim
    · exact h.elim
  · rename_i x i ho
    unfold pExtract at h
    split at h
    · rename_i t
      split at h
      · rename_i l ht
        split at h
        · rename_i y hy; exact s_extract hd hlt hsz hdef hR ho rfl ht hy h
        · exact h.elim
      · exact h.elim
    · exact h.elim
  · rename_i c ho
    obtain ⟨callee, args, ts⟩ := c
    unfold pCall at h
    simp only at h
    split at h
    · rename_i x t ha ht
      obtain rfl := arr1 ha
      obtain rfl := arr1 ht
      split at h
      · rename_i e hu
        obtain ⟨l, hl, h⟩ := bindO_ok h
        exact s_len hd hlt hsz hdef hR ho hu hl h
      · rename_i hu
        split at h
        · rename_i s hs
          exact s_lenS hd hlt hsz hdef hR ho hu hs h
        · exact h.elim
      · exact h.elim
    · rename_i f
      split at h
      · rename_i g caps hf
        obtain ⟨h1, h⟩ := h
        have h1' : ∀ c ∈ caps, c.isAgg = false := fun c hc => by have := List.all_eq_true.1 h1 c hc; simpa using this
        split at h
        · obtain ⟨xa, hxa, y, hy, hfn, h⟩ := bindO_ok h
          exact s_callLend hd hlt hsz hdef hR ho hf h1' hxa hy hfn h
        · obtain ⟨h2, h⟩ := h
          obtain ⟨xa, hxa, r, hfn, h⟩ := bindO_ok h
          exact s_call hd hlt hsz hdef hR ho hf h1' hxa (by rw [h2]; simp) hfn (F d) (by rw [h2]; exact h)
      · exact h.elim
    · exact h.elim
  · exact h.elim

/-! ### what an operation looks at -/
def refV : AV → Option Nat
  | .bor j _ _ _ => some j
  | .adr j _ => some j
  | .eadr j _ _ => some j
  | .sub j _ => some j
  | _ => none

/-- σ and σ' agree as far as these operands go. -/
def Agr (xs : List Operand) (σ σ' : St) : Prop := (∀ x ∈ xs, (∀ t, x = .tmp t → σ t = σ' t) ∧ ∀ j, refV (aval σ x) = some j → σ j = σ' j) ∧ ∀ j, 1000000 ≤ j → σ j = σ' j

theorem Agr.aval {xs : List Operand} (h : Agr xs σ σ') {x : Operand} (hx : x ∈ xs) : Vw.aval σ x = Vw.aval σ' x := by
  cases x with
  | tmp t => simp only [Vw.aval, (h.1 _ hx).1 t rfl]
  | const v => rfl
  | func f => rfl
  | global g => rfl
theorem Agr.deref {xs : List Operand} (h : Agr xs σ σ') {x : Operand} (hx : x ∈ xs) : Vw.deref σ (Vw.aval σ x) = Vw.deref σ' (Vw.aval σ' x) := by
  have h2 := (h.1 x hx).2
  rw [← h.aval hx]
  cases hv : Vw.aval σ x <;> rw [hv] at h2
  case d z => cases z <;> rfl
  case adr j p => simp only [Vw.deref, h2 j rfl]
  case eadr j i p => simp only [Vw.deref, h2 j rfl]
  all_goals rfl
theorem Agr.sub {xs ys : List Operand} (h : Agr xs σ σ') (hs : ∀ y ∈ ys, y ∈ xs) : Agr ys σ σ' := ⟨fun y hy => h.1 y (hs y hy), h.2⟩
theorem Agr.bnd {xs : List Operand} (h : Agr xs σ σ') {x : Option Operand} (hx : ∀ y, x = some y → y ∈ xs) (k : Nat) : Vw.bnd σ x k = Vw.bnd σ' x k := by
  cases x with
  | none => rfl
  | some y => simp only [Vw.bnd, h.aval (hx y rfl)]
theorem Agr.parts {xs : List Operand} (h : Agr xs σ σ') : ∀ {ps : List (Nat × Operand)}, (∀ p ∈ ps, p.2 ∈ xs) → partsD σ ps = partsD σ' ps
  | [], _ => rfl
  | (i, x) :: ps, hp => by
    simp only [partsD, h.aval (hp (i, x) (by simp)), h.parts (ps := ps) (fun p hq => hp p (List.mem_cons_of_mem _ hq))]
theorem Agr.args {xs : List Operand} (h : Agr xs σ σ') : ∀ {ys : List Operand}, (∀ y ∈ ys, y ∈ xs) → argsA σ ys = argsA σ' ys ∧ eaten σ ys = eaten σ' ys
  | [], _ => ⟨rfl, rfl⟩
  | y :: ys, hy => by
    have h1 := h.aval (hy y (by simp))
    have h2 := h.args (ys := ys) (fun z hz => hy z (List.mem_cons_of_mem _ hz))
    simp only [argsA, argA, eaten, h1, h2.1, h2.2, and_self]
theorem Agr.lends {xs : List Operand} (h : Agr xs σ σ') : ∀ {ys : List Operand}, (∀ y ∈ ys, y ∈ xs) → lendsA σ ys = lendsA σ' ys
  | [], _ => rfl
  | y :: ys, hy => by
    have h1 := h.aval (hy y (by simp))
    have h2 := h.lends (ys := ys) (fun z hz => hy z (List.mem_cons_of_mem _ hz))
    simp only [lendsA, lendA, h1, h2]

theorem pureE_agr {op : Op} {C : AV → Prop} (ha : Agr op.operands.toList σ σ') (h : pureE P F op d σ C) : pureE P F op d σ' C := by
  unfold pureE at h ⊢
  split at h
  · rename_i x
    have hx := ha.aval (x := x) (by simp [Op.operands])
    unfold pMove at h ⊢
    split at h
    · rename_i t
      have ht := (ha.1 (.tmp t) (by simp [Op.operands])).1 t rfl
      rw [← ht, ← hx]
      exact h
    · exact h.elim
    · rw [← hx]; exact h
  · rename_i x
    have hx := ha.aval (x := x) (by simp [Op.operands])
    unfold pMove at h ⊢
    split at h
    · rename_i t
      have ht := (ha.1 (.tmp t) (by simp [Op.operands])).1 t rfl
      rw [← ht, ← hx]
      exact h
    · exact h.elim
    · rw [← hx]; exact h
  · rename_i c x y
    rw [← ha.aval (x := c) (by simp [Op.operands]), ← ha.aval (x := x) (by simp [Op.operands]), ← ha.aval (x := y) (by simp [Op.operands])]
    exact h
  · rename_i t x
    have hx : derefO P σ x = derefO P σ' x := by
      have h1 := ha.deref (x := x) (by simp [Op.operands])
      cases x with
      | global g => rfl
      | _ => exact h1
    rw [← hx]
    exact h
  · rename_i t ps
    rw [← ha.parts (ps := ps.toList) (fun p hp => by simp only [Op.operands, List.mem_map]; exact ⟨p, hp, rfl⟩)]
    exact h
  · rename_i t len ps
    rw [← ha.parts (ps := ps.toList) (fun p hp => by simp only [Op.operands, List.mem_map]; exact ⟨p, hp, rfl⟩)]
    exact h
  · rename_i s x f
    have hx := ha.aval (x := x) (by simp [Op.operands])
    have hr := (ha.1 x (by simp [Op.operands])).2
    unfold pFieldAddr at h ⊢
    rw [← hx]
    split at h
    · exact h
    · obtain ⟨j, e1, ds, h0, h1, h2⟩ := h
      exact ⟨j, e1, ds, h0, by rw [← ha.2 j h0]; exact h1, h2⟩
    · rename_i j p hv; rw [hv] at hr; simp only [← hr j rfl]; exact h
    · rename_i j i p hv; rw [hv] at hr; simp only [← hr j rfl]; exact h
    · exact h.elim
  · rename_i t x i
    have hx := ha.aval (x := x) (by simp [Op.operands])
    have hi := ha.aval (x := i) (by simp [Op.operands])
    unfold pIndexAddr at h ⊢
    rw [← hx, ← hi]
    refine bindO_imp h fun e h => ?_
    split at h
    · obtain ⟨h0, h⟩ := h
      refine ⟨h0, ?_⟩
      split at h
      · exact h
      · obtain ⟨j, e', l, h1, h2, h3⟩ := h
        exact ⟨j, e', l, h1, by rw [← ha.2 j h1]; exact h2, h3⟩
      · rename_i j lo hv
        have hr := (ha.1 x (by simp [Op.operands])).2
        rw [hv] at hr
        simp only [← hr j rfl]
        exact h
      · exact h
    · exact h.elim
  · rename_i t x i
    rw [← ha.aval (x := x) (by simp [Op.operands]), ← ha.aval (x := i) (by simp [Op.operands])]
    exact h
  · rename_i t x lo hi
    have hx := ha.aval (x := x) (by simp [Op.operands])
    have hl := fun k => ha.bnd (x := lo) (fun y hy => by subst hy; simp [Op.operands]) k
    have hh := fun k => ha.bnd (x := hi) (fun y hy => by subst hy; simp [Op.operands]) k
    unfold pSlice at h ⊢
    simp only [← hx, ← hl, ← hh]
    exact h
  · rename_i op t x y t'
    rw [← ha.aval (x := x) (by simp [Op.operands]), ← ha.aval (x := y) (by simp [Op.operands])]
    exact h
  · rename_i t x
    rw [← ha.aval (x := x) (by simp [Op.operands])]
    exact h
  · rename_i s t x
    unfold pConvert at h ⊢
    rw [← ha.aval (x := x) (by simp [Op.operands])]
    exact h
  · rename_i x i
    unfold pExtract at h ⊢
    split at h
    · rename_i t
      have ht := (ha.1 (.tmp t) (by simp [Op.operands])).1 t rfl
      rw [← ht]
      exact h
    · exact h.elim
  · rename_i c
    unfold pCall at h ⊢
    split at h
    · rename_i x t hc hx ht
      rw [← ha.aval (x := x) (by simp [Op.operands, Call.operands, hx])]
      exact h
    · rename_i f hc
      have hf := ha.aval (x := f) (by simp [Op.operands, Call.operands, hc])
      have hxs := ha.args (ys := c.args.toList) (fun y hy => by simp only [Op.operands, Call.operands, Array.toList_append, List.mem_append]; exact .inr hy)
      have hls := ha.lends (ys := c.args.toList) (fun y hy => by simp only [Op.operands, Call.operands, Array.toList_append, List.mem_append]; exact .inr hy)
      rw [← hf, ← hxs.1, ← hxs.2, ← hls]
      exact h
    · exact h.elim
  · exact h.elim
end Go.Vw

/- Regions whose order Go leaves open, second part: one walk of the text's order serves every order. -/
namespace Go.Vw
open Go.RowKit Go.Proofs

variable {P : Program} {F : Nat → Bool} {w0 : World} {L0 : Nat → Nat → Prop} {row : Nat → Prop} {n : Nat} {K : St → Prop} {Q : Exit → Act → World → Prop}
  {w w' : World} {L L' : Nat → Nat → Prop} {O O' : Nat → Option Nat} {σ σ' : St} {a : Act} {o : Oper} {d : Nat} {v : Value} {tm : Nat → Value}
  {ops : Array Oper} {md : Region.Mode} {ds : List Nat}

def refB (ds : List Nat) (x : AV) : Bool :=
  match refV x with
  | some j => !ds.contains j
  | none => true
def INV (ds : List Nat) (σ : St) : Prop := (∀ t, refB ds (σ t) = true) ∧ ∀ d ∈ ds, d < 1000000

theorem refB_ne {x : AV} {j : Nat} (h : refB ds x = true) (hj : refV x = some j) : j ∉ ds := by
  simp only [refB, hj] at h
  simpa using h

theorem kill_same {x : AV} (h : refV x ≠ some d) : kill d x = x := by
  cases x with
  | bor j m e l => have : j ≠ d := fun e => h (by simp [refV, e]); simp [kill, this]
  | adr j p => have : j ≠ d := fun e => h (by simp [refV, e]); simp [kill, this]
  | eadr j i p => have : j ≠ d := fun e => h (by simp [refV, e]); simp [kill, this]
  | sub j i => have : j ≠ d := fun e => h (by simp [refV, e]); simp [kill, this]
  | _ => rfl

theorem put_setv {x : AV} (hi : INV ds σ) (hd : d ∈ ds) (hx : refB ds x = true) : put σ d x = setv σ d x := by
  funext i
  simp only [put, setv]
  split
  · exact kill_same fun e => refB_ne hx e hd
  · exact kill_same fun e => refB_ne (hi.1 i) e hd

theorem INV.setv {x : AV} (hi : INV ds σ) (hx : refB ds x = true) : INV ds (setv σ d x) := by
  refine ⟨fun t => ?_, hi.2⟩
  simp only [Vw.setv]
  split
  · exact hx
  · exact hi.1 t

/-- Whether a guarded operation is carried out. -/
def wantV (ops : Array Oper) (o : Oper) (σ : St) : Option Bool :=
  match o.guard with
  | none => some true
  | some (j, want) => match (ops[j]?).bind (·.dst) with
    | some t => (match σ t with
      | .d (.bool b) => some (b == want)
      | .tup [] => some false
      | _ => none)
    | none => none

def YV (P : Program) (F : Nat → Bool) (ops : Array Oper) (ds : List Nat) (o : Oper) (d : Nat) (σ : St) (x : AV) : Prop :=
  o.dst = some d ∧ d ∈ ds ∧ refB ds x = true ∧ ((wantV ops o σ = some true ∧ pureE P F o.op d σ (fun y => y = x)) ∨ (wantV ops o σ = some false ∧ x = .tup []))

def aOp (P : Program) (F : Nat → Bool) (ops : Array Oper) (ds : List Nat) (i : Nat) (K : St → Prop) (σ : St) : Prop :=
  match ops[i]? with
  | none => K σ
  | some o => ∃ d x, YV P F ops ds o d σ x ∧ K (setv σ d x)

theorem aOp_mono {i : Nat} {K K' : St → Prop} (h : ∀ σ, K σ → K' σ) (hh : aOp P F ops ds i K σ) : aOp P F ops ds i K' σ := by
  unfold aOp at *
  split at hh
  · exact h _ hh
  · rename_i o hi
    obtain ⟨d, x, h1, h2⟩ := hh
    exact ⟨d, x, h1, h _ h2⟩

theorem wantV_same {x : AV} (hk : d ∉ o.looksAt ops) : wantV ops o (setv σ d x) = wantV ops o σ := by
  unfold wantV
  split
  · rfl
  · rename_i j want hg
    split
    · rename_i t ht
      have : t ≠ d := by
        rintro rfl
        exact hk (by simp [Oper.looksAt, hg, ht])
      simp only [setv, if_neg this]
    · rfl

theorem agr_setv {x : AV} (hi : INV ds σ) (hd : d ∈ ds) (hk : d ∉ o.looksAt ops) : Agr o.op.operands.toList (setv σ d x) σ := by
  refine ⟨fun y hy => ?_, fun j hj => ?_⟩
  rotate_left
  · have : j ≠ d := fun e => by have := hi.2 d hd; omega
    simp only [setv, if_neg this]
  have hne : ∀ t, y = .tmp t → t ≠ d := by
    rintro t rfl rfl
    exact hk (by simp only [Oper.looksAt, List.mem_append, List.mem_filterMap]; exact .inl ⟨_, hy, rfl⟩)
  refine ⟨fun t ht => by simp only [setv, if_neg (hne t ht)], fun j hj => ?_⟩
  have : j ≠ d := by
    rintro rfl
    cases y with
    | tmp t =>
      have htd := hne t rfl
      simp only [aval, setv, if_neg htd] at hj
      have h1 := hi.1 t
      cases hs : σ t <;> rw [hs] at hj h1 <;> simp only [rd, refV, Option.some.injEq] at hj
      case own => exact htd hj
      case box => exact htd hj
      case bor => subst hj; exact refB_ne h1 rfl hd
      case adr => subst hj; exact refB_ne h1 rfl hd
      case eadr => subst hj; exact refB_ne h1 rfl hd
      case sub => subst hj; exact refB_ne h1 rfl hd
      all_goals cases hj
    | const v =>
      simp only [aval] at hj
      unfold cval at hj
      split at hj <;> simp [refV] at hj
    | func f => simp [aval, refV] at hj
    | global g => simp [aval, refV] at hj
  simp only [setv, if_neg this]

theorem YV.back {x y : AV} {e : Nat} (hi : INV ds σ) (hd : d ∈ ds) (hk : d ∉ o.looksAt ops) (h : YV P F ops ds o e (setv σ d x) y) : YV P F ops ds o e σ y := by
  obtain ⟨h1, h2, h3, h4⟩ := h
  rw [wantV_same hk] at h4
  refine ⟨h1, h2, h3, ?_⟩
  rcases h4 with ⟨h5, h6⟩ | h5
  · exact .inl ⟨h5, pureE_agr (agr_setv hi hd hk) h6⟩
  · exact .inr h5

theorem Agr.symm {xs : List Operand} (h : Agr xs σ σ') : Agr xs σ' σ := by
  refine ⟨fun x hx => ⟨fun t ht => ((h.1 x hx).1 t ht).symm, fun j hj => ?_⟩, fun j hj => (h.2 j hj).symm⟩
  rw [← h.aval hx] at hj
  exact ((h.1 x hx).2 j hj).symm

theorem YV.forth {x y : AV} {e : Nat} (hi : INV ds σ) (hd : d ∈ ds) (hk : d ∉ o.looksAt ops) (h : YV P F ops ds o e σ y) : YV P F ops ds o e (setv σ d x) y := by
  obtain ⟨h1, h2, h3, h4⟩ := h
  refine ⟨h1, h2, h3, ?_⟩
  rw [wantV_same hk]
  rcases h4 with ⟨h5, h6⟩ | h5
  · exact .inl ⟨h5, pureE_agr (agr_setv hi hd hk).symm h6⟩
  · exact .inr h5

theorem setv_comm {d e : Nat} {x y : AV} (h : d ≠ e) : setv (setv σ d x) e y = setv (setv σ e y) d x := by
  funext i
  simp only [setv]
  by_cases h1 : i = d <;> by_cases h2 : i = e <;> simp_all

/-- One operation, apart from 'oi': it makes no difference whether oi's value is there already. -/
theorem aOp_set {j di : Nat} {oi oj : Oper} {x : AV} (hj : ops[j]? = some oj) (hap : oi.apart ops oj = true) (hi : INV ds σ) (hy : YV P F ops ds oi di σ x) {K : St → Prop} (h : aOp P F ops ds j K (setv σ di x)) :
    aOp P F ops ds j (fun σ' => INV ds σ' ∧ YV P F ops ds oi di σ' x ∧ K (setv σ' di x)) σ := by
  obtain ⟨h1, h2, h3⟩ := Oper.apart_spec hap
  unfold aOp at *
  simp only [hj] at *
  obtain ⟨dj, u, hu, hK⟩ := h
  refine ⟨dj, u, hu.back hi hy.2.1 (h1 di hy.1), hi.setv hu.2.2.1, hy.forth hi hu.2.1 (h3 dj hu.1), ?_⟩
  rw [← setv_comm (fun e => h2 di hy.1 (by rw [hu.1, e]))]
  exact hK

/-- Whatever order is picked from here on, as far as the operations go that only yield a value. -/
def anyV (P : Program) (F : Nat → Bool) (md : Region.Mode) (ops : Array Oper) (ds : List Nat) (n : Nat) (Lq : Array Bool → St → Prop) : Nat → Array Bool → St → Prop
  | 0, listed, σ => Lq listed σ
  | f + 1, listed, σ => Region.ready md ops listed ≠ [] ∧ ∀ i ∈ Region.ready md ops listed, i < n ∧ aOp P F ops ds i (anyV P F md ops ds n Lq f (listed.setIfInBounds i true)) σ

theorem anyV_first {n i di : Nat} {oi : Oper} {x : AV} {Lq : Array Bool → St → Prop} (Iv : Array Bool → Prop) (hset : ∀ listed j, Iv listed → j ∈ Region.ready md ops listed → j < n → Iv (listed.setIfInBounds j true)) (hi : ops[i]? = some oi) (hin : i < n)
    (hlt : ∀ listed, Iv listed → ∀ k, k < n → listed.getD k true = false → ∀ j ∈ Region.ready md ops listed, j < n) (hdone : ∀ listed σ, Lq listed σ → ∀ j ∈ Region.ready md ops listed, n ≤ j) :
    ∀ (f : Nat) (listed : Array Bool) (σ : St), Iv listed →
      (∀ j oj, ops[j]? = some oj → j ≠ i → listed.getD j true = false → (∀ e ∈ oj.after, Region.binds md e = true → e.on ≠ i) → oi.apart ops oj = true) →
      i ∈ Region.ready md ops listed → INV ds σ → YV P F ops ds oi di σ x →
      anyV P F md ops ds n Lq f (listed.setIfInBounds i true) (setv σ di x) → anyV P F md ops ds n Lq (f + 1) listed σ := by
  intro f
  induction f with
  | zero =>
    intro listed σ inv _ hr hI hy H
    have hun := (mem_ready.1 hr).1
    refine ⟨fun h => (by rw [h] at hr; cases hr), fun j hj => ?_⟩
    have hjn := hlt listed inv i hin hun j hj
    refine ⟨hjn, ?_⟩
    by_cases hji : j = i
    · subst hji
      unfold aOp; simp only [hi]
      exact ⟨di, x, hy, H⟩
    · have := hdone _ _ H j (ready_mono hj hji)
      omega
  | succ f ih =>
    intro listed σ inv hfree hr hI hy H
    have hun := (mem_ready.1 hr).1
    refine ⟨fun h => (by rw [h] at hr; cases hr), fun j hj => ?_⟩
    have hjn := hlt listed inv i hin hun j hj
    refine ⟨hjn, ?_⟩
    by_cases hji : j = i
    · subst hji
      unfold aOp; simp only [hi]
      exact ⟨di, x, hy, H⟩
    · have h1 := (H.2 j (ready_mono hj hji)).2
      obtain ⟨hjun, oj, hoj, hall⟩ := mem_ready.1 hj
      have hnot : ∀ e ∈ oj.after, Region.binds md e = true → e.on ≠ i := fun e he hb heq => by
        have h1 := hall e he hb
        rw [heq, getD_both hun] at h1
        cases h1
      have h2 := aOp_set hoj (hfree j oj hoj hji hjun hnot) hI hy h1
      have hfree' : ∀ k ok, ops[k]? = some ok → k ≠ i → (listed.setIfInBounds j true).getD k true = false →
          (∀ e ∈ ok.after, Region.binds md e = true → e.on ≠ i) → oi.apart ops ok = true := fun k ok hk hki hun hno => by
        refine hfree k ok hk hki ?_ hno
        by_cases hjk : j = k
        · subst hjk; exact hjun
        · rw [getD_set_ne true hjk] at hun; exact hun
      refine aOp_mono (fun a' h3 => ih (listed.setIfInBounds j true) a' (hset _ _ inv hj hjn) hfree' (ready_mono hr (Ne.symm hji)) h3.1 h3.2.1 ?_) h2
      rw [Array.setIfInBounds_comm _ _ hji]
      exact h3.2.2

/-- The text's order. -/
def dops (P : Program) (F : Nat → Bool) (ops : Array Oper) (ds : List Nat) : List Oper → (St → Prop) → St → Prop
  | [], K, σ => K σ
  | o :: rest, K, σ => bindO o.dst fun d => match o.guard with
    | none => pureE P F o.op d σ fun x => refB ds x = true ∧ dops P F ops ds rest K (setv σ d x)
    | some (j, want) => bindO ((ops[j]?).bind (·.dst)) fun t => (match σ t with
      | .d (.bool b) => (b = want → pureE P F o.op d σ fun x => refB ds x = true ∧ dops P F ops ds rest K (setv σ d x)) ∧ (b ≠ want → dops P F ops ds rest K (setv σ d (.tup [])))
      | .tup [] => dops P F ops ds rest K (setv σ d (.tup []))
      | _ => False)

theorem dops_step {rest : List Oper} (hds : ∀ d, o.dst = some d → d ∈ ds) (h : dops P F ops ds (o :: rest) K σ) : ∃ d x, YV P F ops ds o d σ x ∧ dops P F ops ds rest K (setv σ d x) := by
  simp only [dops] at h
  obtain ⟨d, hd, h⟩ := bindO_ok h
  refine ⟨d, ?_⟩
  cases hg : o.guard with
  | none =>
    rw [hg] at h
    obtain ⟨x, h1, h2, h3⟩ := pureE_det h
    exact ⟨x, ⟨hd, hds d hd, h2, .inl ⟨by simp [wantV, hg], h1⟩⟩, h3⟩
  | some g =>
    obtain ⟨j, want⟩ := g
    rw [hg] at h
    obtain ⟨t, ht, h⟩ := bindO_ok h
    split at h
    · rename_i b hb
      by_cases hbw : b = want
      · obtain ⟨x, h1, h2, h3⟩ := pureE_det (h.1 hbw)
        exact ⟨x, ⟨hd, hds d hd, h2, .inl ⟨by simp [wantV, hg, ht, hb, hbw], h1⟩⟩, h3⟩
      · exact ⟨.tup [], ⟨hd, hds d hd, rfl, .inr ⟨by simp [wantV, hg, ht, hb, hbw], rfl⟩⟩, h.2 hbw⟩
    · rename_i hb
      exact ⟨.tup [], ⟨hd, hds d hd, rfl, .inr ⟨by simp [wantV, hg, ht, hb], rfl⟩⟩, h⟩
    · exact h.elim

theorem anyV_lex {n g : Nat} {K : St → Prop} (Iv : Array Bool → Prop) (hset : ∀ listed j, Iv listed → j ∈ Region.ready md ops listed → j < n → Iv (listed.setIfInBounds j true)) (hlt : ∀ listed, Iv listed → ∀ k, k < n → listed.getD k true = false → ∀ j ∈ Region.ready md ops listed, j < n) :
    ∀ (l : List Oper) (k : Nat) (listed : Array Bool) (σ : St), (∀ o ∈ l, ∀ d, o.dst = some d → d ∈ ds) → (∀ j, j < l.length → l[j]? = ops[k + j]?) → k + l.length = n → Iv listed →
    Region.lexHead md ops g l.length k listed = true → INV ds σ → dops P F ops ds l K σ →
    anyV P F md ops ds n (fun listed' σ' => Region.seqB md ops g n listed' = true ∧ INV ds σ' ∧ K σ') l.length listed σ
  | [], k, listed, σ, _, _, hk, _, hB, hI, h => by
    have : k = n := by simpa using hk
    subst this
    exact ⟨by simpa [Region.lexHead] using hB, hI, h⟩
  | o :: l, k, listed, σ, hds, hl, hk, inv, hB, hI, h => by
    have h0 : ops[k]? = some o := by simpa using (hl 0 (by simp)).symm
    simp only [List.length_cons, Region.lexHead, Bool.and_eq_true] at hB
    obtain ⟨⟨hr, hf⟩, hB'⟩ := hB
    have hkn : k < n := by simp only [List.length_cons] at hk; omega
    have hr' : k ∈ Region.ready md ops listed := by simpa using hr
    obtain ⟨d, x, hy, hK⟩ := dops_step (fun d hd => hds o (by simp) d hd) h
    exact anyV_first Iv hset h0 hkn hlt (fun listed' a' hL => seqB_ready hL.1) l.length listed σ inv (Region.free_spec h0 hf) hr' hI hy
      (anyV_lex Iv hset hlt l (k + 1) _ _ (fun o ho => hds o (by simp [ho])) (fun j hj => by have := hl (j + 1) (by simp; omega); simpa [Nat.add_assoc, Nat.add_comm 1 j] using this) (by simp only [List.length_cons] at hk; omega) (hset _ _ inv hr' hkn) hB' (hI.setv hy.2.2.1) hK)

theorem wanted_of (hR : Rel P w0 L0 row w L O σ (tmOf a)) {b : Bool} (h : wantV ops o σ = some b) : Region.wanted o (yielded ops a.tmps) = b := by
  unfold wantV at h
  cases hg : o.guard with
  | none => rw [hg] at h; simp only [Option.some.injEq] at h; subst h; simp [Region.wanted, hg]
  | some g =>
    obtain ⟨j, want⟩ := g
    rw [hg] at h
    simp only at h
    cases ht : (ops[j]?).bind (·.dst) with
    | none => rw [ht] at h; cases h
    | some t =>
      rw [ht] at h
      simp only at h
      split at h
      · rename_i c hc
        simp only [Option.some.injEq] at h
        have := yielded_of hR ht hc
        simp only [Region.wanted, hg, this, ← h]
        cases c <;> cases want <;> rfl
      · rename_i hc
        simp only [Option.some.injEq] at h
        have := yielded_not hR ht hc
        simp only [Region.wanted, hg, this, ← h]
        rfl
      · cases h

theorem any_of_V {n g : Nat} {k : Nat} {Lq : Array Bool → St → Prop} (hdst : ∀ o ∈ ops.toList, ∀ d, o.dst = some d → d < k)
    (hL : ∀ listed a w, Good P w0 L0 row k (fun σ => INV ds σ ∧ Lq listed σ) a w → wpAny P md ops Q g listed a w) :
    ∀ (f : Nat) (listed : Array Bool) (a : Act) (w : World), Good P w0 L0 row k (fun σ => INV ds σ ∧ anyV P F md ops ds n Lq f listed σ) a w → wpAny P md ops Q (f + g) listed a w
  | 0, listed, a, w, h => by rw [Nat.zero_add]; exact hL _ _ _ h
  | f + 1, listed, a, w, h => by
    obtain ⟨L, O, σ, hR, hdef, hsz, hI, hne, hall⟩ := h
    rw [show f + 1 + g = (f + g) + 1 by omega]
    refine ⟨fun h0 => absurd h0 hne, fun i hi => ?_⟩
    have hop := (hall i hi).2
    unfold aOp at hop
    unfold wpOp
    split at hop
    · rename_i hoi
      simp only [hoi]
      exact any_of_V hdst hL f _ a w ⟨L, O, σ, hR, hdef, hsz, hI, hop⟩
    · rename_i o hoi
      simp only [hoi]
      obtain ⟨d, x, ⟨h1, h2, h3, h4⟩, hK⟩ := hop
      have hmem : o ∈ ops.toList := by rw [Array.mem_toList_iff]; exact Array.mem_of_getElem? hoi
      have hlt := hdst o hmem
      rcases h4 with ⟨hw, hp⟩ | ⟨hw, rfl⟩
      · rw [if_pos (wanted_of hR hw)]
        refine .inl (Oper.wp_mono ?_ (pureE_ok (K := fun τ => τ = put σ d x) h1 (hlt d h1) hsz hdef hR (pureE_mono hp fun y hy => by rw [hy])))
        rintro a' w' ⟨L1, O1, σ1, hR1, hd1, hs1, rfl⟩
        rw [put_setv hI h2 h3] at hR1
        exact any_of_V hdst hL f _ a' w' ⟨L1, O1, _, hR1, hd1, hs1, hI.setv h3, hK⟩
      · rw [if_neg (by rw [wanted_of hR hw]; simp)]
        have hg := goodPutO (K := fun τ => τ = put σ d (.tup [])) hR hlt hsz hdef (by rw [h1]; rfl)
        obtain ⟨L1, O1, σ1, hR1, hd1, hs1, rfl⟩ := hg
        rw [put_setv hI h2 h3] at hR1
        exact any_of_V hdst hL f _ _ w ⟨L1, O1, _, hR1, hd1, hs1, hI.setv h3, hK⟩

def killS (ds : List Nat) (x : AV) : AV :=
  match x with
  | .bor j m e l => if ds.contains j then (if m then .undef else .d (.sl l)) else .bor j m e l
  | .adr j p => if ds.contains j then .undef else .adr j p
  | .eadr j i p => if ds.contains j then .undef else .eadr j i p
  | .sub j i => if ds.contains j then .undef else .sub j i
  | y => y
def clean (ds : List Nat) (σ : St) : St := fun t => killS ds (σ t)

theorem clean_inv (hb : ∀ d ∈ ds, d < 1000000) : INV ds (clean ds σ) := by
  refine ⟨fun t => ?_, hb⟩
  simp only [clean]
  cases σ t with
  | bor j m e l =>
    simp only [killS]
    by_cases h : ds.contains j = true
    · rw [if_pos h]; cases m <;> rfl
    · rw [if_neg h]; simpa [refB, refV] using h
  | adr j p =>
    simp only [killS]
    by_cases h : ds.contains j = true
    · rw [if_pos h]; rfl
    · rw [if_neg h]; simpa [refB, refV] using h
  | eadr j i p =>
    simp only [killS]
    by_cases h : ds.contains j = true
    · rw [if_pos h]; rfl
    · rw [if_neg h]; simpa [refB, refV] using h
  | sub j i =>
    simp only [killS]
    by_cases h : ds.contains j = true
    · rw [if_pos h]; rfl
    · rw [if_neg h]; simpa [refB, refV] using h
  | _ => rfl

theorem Rel.clean (h : Rel P w0 L0 row w L O σ tm) (ds : List Nat) : Rel P w0 L0 row w L O (Vw.clean ds σ) tm := by
  refine ⟨h.grown, h.lok, h.gl, h.old, fun i => ?_, h.inj, h.olt⟩
  have h1 := h.slots i
  have hown : ∀ {j m e l}, σ j = AV.own m e l → Vw.clean ds σ j = .own m e l := fun hj => by simp only [Vw.clean, hj, killS]
  have hbox : ∀ {j b}, boxOf (σ j) = some b → boxOf (Vw.clean ds σ j) = some b := fun {j b} hj => by
    simp only [Vw.clean]; cases hx : σ j <;> rw [hx] at hj <;> simp [boxOf] at hj <;> simpa [killS, boxOf] using hj
  have hown2 : ∀ {j y}, ownOf (σ j) = some y → Vw.clean ds σ j = σ j := fun {j y} hj => by
    simp only [Vw.clean]; cases hx : σ j <;> rw [hx] at hj <;> simp [ownOf] at hj <;> rfl
  show RA P w L O (Vw.clean ds σ) tm (O i) (killS ds (σ i)) (tm i)
  cases hx : σ i <;> rw [hx] at h1 <;> simp only [killS]
  case bor j m e l =>
    split
    · cases m with
      | true => simp [RA, RC]
      | false => exact RA.asD h.slots h1 rfl
    · exact ⟨hown h1.1, h1.2⟩
  case adr j p =>
    split
    · simp [RA, RC]
    · obtain ⟨b, g, off, e1, e2⟩ := h1
      exact ⟨b, g, off, hbox e1, e2⟩
  case eadr j k p =>
    split
    · simp [RA, RC]
    · obtain ⟨e, l, g, sz, m, c, b, off, e1, e2⟩ := h1
      exact ⟨e, l, g, sz, m, c, b, off, by rw [hown2 e1]; exact e1, by rw [hown2 e1]; exact e2⟩
  case sub j k =>
    split
    · simp [RA, RC]
    · obtain ⟨e, l, sz, e1, e2⟩ := h1
      exact ⟨e, l, sz, by rw [hown2 e1]; exact e1, by rw [hown2 e1]; exact e2⟩
  all_goals exact h1

/-- An operation that does more than yield a value. -/
def effB (F : Nat → Bool) (d : Option Nat) : Op → Bool
  | .store _ _ _ => true
  | .call { callee := .builtin .append, .. } => true
  | .call { callee := .builtin .clear, .. } => true
  | .call { callee := .value _, .. } => match d with
    | some d => F (d + 3000000) || F (d + 4000000) || F (d + 5000000)
    | none => false
  | _ => false
def headN (F : Nat → Bool) : List Oper → Nat
  | [] => 0
  | o :: l => if effB F o.dst o.op then 0 else headN F l + 1
def dstsOf (l : List Oper) : List Nat := l.filterMap (·.dst)
/-- The slots of the first operations, which only yield a value. -/
def hdsts (F : Nat → Bool) : List Oper → List Nat
  | [] => []
  | o :: l => if effB F o.dst o.op then [] else (match o.dst with
    | some d => d :: hdsts F l
    | none => hdsts F l)
theorem hdsts_eq : ∀ l : List Oper, hdsts F l = dstsOf (l.take (headN F l))
  | [] => rfl
  | o :: l => by
    simp only [hdsts, headN]
    by_cases he : effB F o.dst o.op = true
    · rw [if_pos he, if_pos he]; rfl
    · rw [if_neg he, if_neg he, List.take_succ_cons, hdsts_eq l]
      cases ho : o.dst <;> simp [dstsOf, ho]

/-- The walk of a region whose order is open. -/
def ddops (P : Program) (F : Nat → Bool) (ops : Array Oper) (ds : List Nat) : List Oper → (St → Prop) → St → Prop
  | [], K, σ => K σ
  | o :: rest, K, σ => if effB F o.dst o.op then vops P F ops (o :: rest) K σ else bindO o.dst fun d => match o.guard with
    | none => pureE P F o.op d σ fun x => refB ds x = true ∧ ddops P F ops ds rest K (setv σ d x)
    | some (j, want) => bindO ((ops[j]?).bind (·.dst)) fun t => (match σ t with
      | .d (.bool b) => (b = want → pureE P F o.op d σ fun x => refB ds x = true ∧ ddops P F ops ds rest K (setv σ d x)) ∧ (b ≠ want → ddops P F ops ds rest K (setv σ d (.tup [])))
      | .tup [] => ddops P F ops ds rest K (setv σ d (.tup []))
      | _ => False)

theorem ddops_split : ∀ (l : List Oper) (σ : St), ddops P F ops ds l K σ → dops P F ops ds (l.take (headN F l)) (fun σ' => vops P F ops (l.drop (headN F l)) K σ') σ
  | [], σ, h => h
  | o :: l, σ, h => by
    simp only [ddops] at h
    by_cases he : effB F o.dst o.op = true
    · rw [if_pos he] at h
      simp only [headN, if_pos he, List.take_zero, List.drop_zero, dops]
      exact h
    · rw [if_neg he] at h
      simp only [headN, if_neg he, List.take_succ_cons, List.drop_succ_cons, dops]
      refine bindO_imp h fun d h => ?_
      cases hg : o.guard with
      | none =>
        rw [hg] at h
        exact pureE_mono h fun x hx => ⟨hx.1, ddops_split l _ hx.2⟩
      | some g =>
        obtain ⟨j, want⟩ := g
        rw [hg] at h
        refine bindO_imp h fun t h => ?_
        split at h
        · exact ⟨fun e => pureE_mono (h.1 e) fun x hx => ⟨hx.1, ddops_split l _ hx.2⟩, fun e => ddops_split l _ (h.2 e)⟩
        · exact ddops_split l _ h
        · exact h.elim

/-! ### moves that may come late -/
/-- Operation i is a move that waits for nothing, and nothing that does not wait for it has to do with its two slots. -/
def lateOne (ops : Array Oper) (i : Nat) : Bool :=
  match ops[i]? with
  | some { dst := some d, op := .move (.tmp t), after, guard := none, .. } => after.isEmpty && Region.noSelect ops && (List.range ops.size).all fun j => j == i || (match ops[j]? with
    | some o => o.dst != some d && o.dst != some t && (!(o.looksAt ops).contains d || Region.waitsFor .any ops j i)
    | none => true)
  | _ => false

theorem lateOne_spec {i : Nat} (h : lateOne ops i = true) : ∃ d t oi, ops[i]? = some oi ∧ oi.dst = some d ∧ oi.op = .move (.tmp t) ∧ oi.after = #[] ∧ oi.guard = none ∧ Region.noSelect ops = true ∧
    ∀ j o, ops[j]? = some o → j ≠ i → o.dst ≠ some d ∧ o.dst ≠ some t ∧ (d ∈ o.looksAt ops → Region.waitsFor .any ops j i = true) := by
  unfold lateOne at h
  split at h
  · rename_i d t ty pos after heq
    simp only [Bool.and_eq_true, Array.isEmpty_iff] at h
    refine ⟨d, t, _, heq, rfl, rfl, h.1.1, rfl, h.1.2, fun j o ho hne => ?_⟩
    have hj : j < ops.size := (Array.getElem?_eq_some_iff.1 ho).1
    have := List.all_eq_true.1 h.2 j (List.mem_range.2 hj)
    simp only [ho, Bool.or_eq_true, beq_iff_eq, hne, false_or, Bool.and_eq_true, bne_iff_ne, ne_eq, Bool.not_eq_true', List.contains_eq_mem, decide_eq_false_iff_not] at this
    exact ⟨this.1.1, this.1.2, fun hd => (this.2.resolve_left (fun h => h hd))⟩
  · cases h

theorem wp_late {o : Oper} {a : Act} {K K' : Act → World → Prop} {Q' : Exit → Act → World → Prop} (hQ : ∀ ch a w, ¬ Q' (.panic ch) a w) (hL : ¬ LetsOut Q') (d : Nat) (v : Value) (he : execOp (a.put (some d) v).eval o = execOp a.eval o)
    (hK : ∀ (x : List Deferred) u w', K' (({ a with defers := x } : Act).put (some d) v |>.put o.dst u) w' → K (({ a with defers := x } : Act).put o.dst u) w') (h : o.wp P (a.put (some d) v) w K' Q') : o.wp P a w K Q' := by
  unfold Oper.wp at h ⊢
  rw [he] at h
  generalize (execOp a.eval o).run P w = res at h ⊢
  unfold Oper.upon at h ⊢
  split <;> simp only at h ⊢
  · exact hK a.defers _ _ h
  · exact hK a.defers _ _ h
  · exact hK _ _ _ h
  · refine h.mono ?_
    intro e' w'' hh
    cases e' with
    | returned u => exact hK a.defers _ _ hh
    | panicked ch => exact absurd hh (hQ _ _ _)
    | outgrown => exact absurd hh hL
  · exact h.mono fun u w'' hh => hK a.defers _ _ hh
  · exact absurd h (hQ _ _ _)

theorem noSelect_spec (h : Region.noSelect ops = true) {j : Nat} {o : Oper} (hj : ops[j]? = some o) : ∀ cs b, o.op ≠ .select cs b := by
  intro cs b e
  unfold Region.noSelect at h
  have := Array.all_eq_true'.1 h o (Array.mem_of_getElem? hj)
  rw [e] at this
  simp at this

/-- One late move may be made first. -/
theorem late_first {i : Nat} {Q' : Exit → Act → World → Prop} (hQ : ∀ ch a w, ¬ Q' (.panic ch) a w) (hL : ¬ LetsOut Q') {d t : Nat} {oi : Oper} (hi : ops[i]? = some oi) (h1 : oi.dst = some d) (h2 : oi.op = .move (.tmp t)) (h3 : oi.after = #[]) (h4 : oi.guard = none) (h5 : Region.noSelect ops = true)
    (h6 : ∀ j o, ops[j]? = some o → j ≠ i → o.dst ≠ some d ∧ o.dst ≠ some t ∧ (d ∈ o.looksAt ops → Region.waitsFor .any ops j i = true)) :
    ∀ (f : Nat) (listed : Array Bool) (a : Act) (w : World), listed.getD i true = false →
      wpAny P .any ops Q' f (listed.setIfInBounds i true) (a.put (some d) (a.eval (.tmp t))) w → wpAny P .any ops Q' (f + 1) listed a w := by
  intro f
  induction f with
  | zero =>
    intro listed a w hun H
    have hr : i ∈ Region.ready .any ops listed := mem_ready.2 ⟨hun, oi, hi, fun e he => by rw [h3] at he; simp at he⟩
    refine ⟨fun h => (by rw [h] at hr; cases hr), fun j hj => ?_⟩
    by_cases hji : j = i
    · subst hji
      unfold wpOp
      simp only [hi, Region.wanted, h4, if_true]
      refine .inl ?_
      have : (execOp a.eval oi).run P w = .ok (.value (a.eval (.tmp t))) w := by simp [execOp, h2]
      unfold Oper.wp
      rw [this]
      simp only [Oper.upon, h1]
      exact H
    · have := ready_mono hj hji
      rw [H.1] at this
      cases this
  | succ f ih =>
    intro listed a w hun H
    have hr : i ∈ Region.ready .any ops listed := mem_ready.2 ⟨hun, oi, hi, fun e he => by rw [h3] at he; simp at he⟩
    refine ⟨fun h => (by rw [h] at hr; cases hr), fun j hj => ?_⟩
    by_cases hji : j = i
    · subst hji
      unfold wpOp
      simp only [hi, Region.wanted, h4, if_true]
      refine .inl ?_
      have : (execOp a.eval oi).run P w = .ok (.value (a.eval (.tmp t))) w := by simp [execOp, h2]
      unfold Oper.wp
      rw [this]
      simp only [Oper.upon, h1]
      exact H
    · have hstep := H.2 j (ready_mono hj hji)
      obtain ⟨hjun, oj, hoj, hall⟩ := mem_ready.1 hj
      obtain ⟨g1, g2, g3⟩ := h6 j oj hoj hji
      have hnl : d ∉ oj.looksAt ops := fun hd => by
        obtain ⟨o', ho', e, he, hb, hon⟩ := Region.waitsFor_spec (g3 hd)
        obtain rfl : oj = o' := Option.some.inj (hoj.symm.trans ho')
        have := hall e he hb
        rw [hon, getD_both hun] at this
        cases this
      have hne : ∀ (x : List Deferred) (u : Value), (({ a with defers := x } : Act).put (some d) (a.eval (.tmp t))).put oj.dst u = (({ a with defers := x } : Act).put oj.dst u).put (some d) ((({ a with defers := x } : Act).put oj.dst u).eval (.tmp t)) := by
        intro x u
        rw [Act.put_comm _ _ _ (fun d' hd' => by obtain rfl : d = d' := (by simpa using hd'); exact g1)]
        congr 1
        rw [Act.eval_put (fun d' hd' e => by
          simp only [Operand.tmp.injEq] at e
          subst e
          exact g2 hd')]
        rfl
      have next : ∀ (x : List Deferred) (u : Value) (w' : World), wpAny P .any ops Q' f ((listed.setIfInBounds i true).setIfInBounds j true) ((({ a with defers := x } : Act).put (some d) (a.eval (.tmp t))).put oj.dst u) w' →
          wpAny P .any ops Q' (f + 1) (listed.setIfInBounds j true) (({ a with defers := x } : Act).put oj.dst u) w' := by
        intro x u w' hx
        rw [hne x u, Array.setIfInBounds_comm _ _ (Ne.symm hji)] at hx
        exact ih _ _ _ (by rw [getD_set_ne true hji]; exact hun) hx
      unfold wpOp at hstep ⊢
      simp only [hoj] at hstep ⊢
      have hy : Region.wanted oj (yielded ops (a.put (some d) (a.eval (.tmp t))).tmps) = Region.wanted oj (yielded ops a.tmps) := by
        unfold Region.wanted
        cases hg : oj.guard with
        | none => rfl
        | some g =>
          obtain ⟨k, want⟩ := g
          have : yielded ops (a.put (some d) (a.eval (.tmp t))).tmps k = yielded ops a.tmps k := by
            unfold yielded
            cases hk : (ops[k]?).bind (·.dst) with
            | none => rfl
            | some s =>
              have hsd : d ≠ s := by
                rintro rfl
                exact hnl (by simp [Oper.looksAt, hg, hk])
              simp [Act.put, Array.getElem?_setIfInBounds_ne hsd]
          simp only [this]
      rw [hy] at hstep
      split
      · rename_i hw
        rw [if_pos hw] at hstep
        rcases hstep with hstep | ⟨_, hstep⟩
        · exact .inl (wp_late hQ hL d _ (execOp_put (ops := ops) oj (noSelect_spec h5 hoj) a (some d) _ (fun d' hd' => by obtain rfl : d = d' := (by simpa using hd'); exact hnl)) next hstep)
        · exact absurd hstep hL
      · rename_i hw
        rw [if_neg hw] at hstep
        exact next a.defers undef w hstep

/-- How many operations, from the first one on, are late moves. -/
def lateN (ops : Array Oper) : Nat := ((List.range ops.size).takeWhile (lateOne ops)).length
theorem lateN_spec {i : Nat} (h : i < lateN ops) : lateOne ops i = true := by
  have hmem : ((List.range ops.size).takeWhile (lateOne ops))[i]? = some i := by
    have h1 : (List.range ops.size).takeWhile (lateOne ops) <+: List.range ops.size := List.takeWhile_prefix _
    obtain ⟨r, hr⟩ := h1
    have h2 : (List.range ops.size)[i]? = ((List.range ops.size).takeWhile (lateOne ops))[i]? := by
      conv => lhs; rw [← hr]
      exact List.getElem?_append_left h
    rw [← h2]
    have h3 : i < (List.range ops.size).length := by rw [← hr]; simp only [List.length_append]; unfold lateN at h; omega
    rw [List.getElem?_range (by simpa using h3)]
  exact List.all_takeWhile (p := lateOne ops) (l := List.range ops.size) |> fun h => List.all_eq_true.1 h i (List.mem_of_getElem? hmem)

def markN : Nat → Array Bool → Array Bool
  | 0, l => l
  | k + 1, l => (markN k l).setIfInBounds k true

def sinkB' (ops : Array Oper) (k n : Nat) : Bool := (List.range n).all fun i => decide (i < k) || (List.range (n + 1)).any fun j => decide (i < j) && Region.waitsFor .any ops j i

theorem tail_waits' {k n : Nat} {listed : Array Bool} (hs : sinkB' ops k n = true) (hc : Region.chainB .any ops n = true) (hn : n < ops.size) (inv : HeadInv .any ops n listed) (hk : ∀ i, i < k → listed.getD i false = true) :
    ∀ (d i : Nat), n - i = d → i < n → listed.getD i true = false → ∀ t, n ≤ t → t ∉ Region.ready .any ops listed := by
  intro d
  induction d using Nat.strongRecOn with
  | _ d ih =>
    intro i hd hi hun t ht hr
    obtain ⟨_, ot, hot, hall⟩ := mem_ready.1 hr
    have htlt : t < ops.size := (Array.getElem?_eq_some_iff.1 hot).1
    by_cases htn : t = n
    · subst htn
      have h1 := List.all_eq_true.1 hs i (List.mem_range.2 hi)
      simp only [Bool.or_eq_true, decide_eq_true_eq] at h1
      rcases h1 with h1 | h1
      · have := hk i h1
        rw [getD_both hun] at this
        cases this
      obtain ⟨j, hj, hj2⟩ := List.any_eq_true.1 h1
      simp only [Bool.and_eq_true, decide_eq_true_eq] at hj2
      obtain ⟨oj, hoj, e, he, hb, hon⟩ := Region.waitsFor_spec hj2.2
      have hjle : j ≤ t := by have := List.mem_range.1 hj; omega
      by_cases hjt : j = t
      · subst hjt
        have : oj = ot := Option.some.inj (hoj.symm.trans hot)
        subst this
        have h2 := hall e he hb
        rw [hon, getD_both hun] at h2
        cases h2
      · cases hl : listed.getD j false with
        | true =>
          have h2 := inv.closed j oj hoj hl e he hb
          rw [hon, getD_both hun] at h2
          cases h2
        | false =>
          have hjs : j < listed.size := by rw [inv.size]; omega
          exact ih (t - j) (by omega) j rfl (by omega) (getD_in hjs hl) t (Nat.le_refl _) hr
    · have h1 := List.all_eq_true.1 hc t (List.mem_range.2 htlt)
      simp only [Bool.or_eq_true, decide_eq_true_eq] at h1
      rcases h1 with h1 | h1
      · omega
      · obtain ⟨o', ho', e, he, hb, hon⟩ := Region.waitsFor_spec h1
        have : o' = ot := Option.some.inj (ho'.symm.trans hot)
        subst this
        have h2 := hall e he hb
        rw [hon, getD_both (inv.tail (t - 1) (by omega) (by omega))] at h2
        cases h2

/-- What is asked of a region's text. -/
def drawB (F : Nat → Bool) (ops : Array Oper) : Bool :=
  let n := headN F ops.toList
  let k := min n (lateN ops)
  (decide (n = ops.size) || (decide (n < ops.size) && sinkB' ops k n && Region.chainB .any ops n)) &&
  Region.lexHead .any ops (ops.size - n) (n - k) k (markN k (Array.replicate ops.size false)) && (ops.toList.all fun o => match o.dst with
    | some d => decide (d < 1000000)
    | none => true)

theorem headN_le : ∀ (l : List Oper), headN F l ≤ l.length
  | [] => Nat.le_refl _
  | o :: l => by simp only [headN]; split <;> simp; have := headN_le l; omega

end Go.Vw

/- Regions whose order Go leaves open, third part: the walk of the text's order serves, late moves too. -/
namespace Go.Vw
open Go.RowKit Go.Proofs

variable {P : Program} {F : Nat → Bool} {w0 : World} {L0 : Nat → Nat → Prop} {row : Nat → Prop} {n : Nat} {K : St → Prop} {Q : Exit → Act → World → Prop}
  {w w' : World} {L L' : Nat → Nat → Prop} {O O' : Nat → Option Nat} {σ σ' : St} {a : Act} {o : Oper} {d : Nat} {v : Value} {tm : Nat → Value}
  {ops : Array Oper} {md : Region.Mode} {ds : List Nat}

theorem markN_size (s : Nat) : ∀ m, (markN m (Array.replicate s false)).size = s
  | 0 => by simp [markN]
  | m + 1 => by simp [markN, markN_size s m]
theorem markN_off {s : Nat} : ∀ (m i : Nat), m ≤ i → i < s → (markN m (Array.replicate s false)).getD i true = false
  | 0, i, _, hi => getD_in (by simpa [markN] using hi) (getD_replicate_false _ _)
  | m + 1, i, h, hi => by
    simp only [markN]
    rw [getD_set_ne true (by omega)]
    exact markN_off m i (by omega) hi
theorem markN_on {s : Nat} : ∀ (m i : Nat), i < m → i < s → (markN m (Array.replicate s false)).getD i false = true
  | 0, i, h, _ => by omega
  | m + 1, i, h, hi => by
    simp only [markN]
    by_cases him : m = i
    · subst him
      have := markN_size s m
      simp [this, hi]
    · rw [getD_set_ne false him]
      exact markN_on m i (by omega) hi

theorem markN_inv {nn : Nat} (hn : nn ≤ ops.size) : ∀ (m : Nat), m ≤ nn → (∀ i, i < m → lateOne ops i = true) → HeadInv .any ops nn (markN m (Array.replicate ops.size false))
  | 0, _, _ => ⟨by simp [markN], fun j oj _ hl => (by simp only [markN] at hl; rw [getD_replicate_false] at hl; cases hl), fun t _ ht => markN_off 0 t (Nat.zero_le _) ht⟩
  | m + 1, hm, hl => by
    have ih := markN_inv hn m (by omega) (fun i hi => hl i (by omega))
    obtain ⟨d, t, oi, g1, g2, g3, g4, g5, g6, g7⟩ := lateOne_spec (hl m (by omega))
    refine ih.set (mem_ready.2 ⟨markN_off m m (Nat.le_refl _) (by omega), oi, g1, fun e he => ?_⟩) (by omega)
    rw [g4] at he; simp at he

theorem draw_ok {id kk : Nat} {K : St → Prop} (hm : P.follows .mixedOrders = true) (hB : drawB F ops = true) (hdst : ∀ o ∈ ops.toList, ∀ d, o.dst = some d → d < kk)
    (h : Good P w0 L0 row kk (fun σ => ddops P F ops (hdsts F ops.toList) ops.toList K (clean (hdsts F ops.toList) σ)) a w) (hQ : ∀ a w, Good P w0 L0 row kk K a w → Q .normal a w) : (Code.region id ops true).wp P Q a w := by
  obtain ⟨L, O, σ, hR, hdef, hsz, h⟩ := h
  simp only [drawB] at hB
  generalize hnn : headN F ops.toList = nn at hB
  generalize hkk : min nn (lateN ops) = k at hB
  simp only [Bool.and_eq_true, Bool.or_eq_true, decide_eq_true_eq] at hB
  obtain ⟨⟨hcase, hlex⟩, hlt6⟩ := hB
  have hle := headN_le (F := F) ops.toList
  rw [Array.length_toList, hnn] at hle
  have hkn : k ≤ nn := by omega
  have hlate : ∀ i, i < k → lateOne ops i = true := fun i hi => lateN_spec (by omega)
  have hds6 : ∀ d ∈ hdsts F ops.toList, d < 1000000 := by
    intro d hd
    rw [hdsts_eq] at hd
    simp only [dstsOf, List.mem_filterMap] at hd
    obtain ⟨o, ho, hod⟩ := hd
    have := List.all_eq_true.1 hlt6 o (List.mem_of_mem_take ho)
    simpa [hod] using this
  have hds : ∀ o ∈ ops.toList.take nn, ∀ d, o.dst = some d → d ∈ hdsts F ops.toList := fun o ho d hd => by rw [hdsts_eq, hnn]; simp only [dstsOf, List.mem_filterMap]; exact ⟨o, ho, hd⟩
  let Q0 : Exit → Act → World → Prop := fun e a w => e = .normal ∧ Good P w0 L0 row kk K a w
  have hQp : ∀ ch a w, ¬ Q0 (.panic ch) a w := fun ch a w h => by cases h.1
  have hQl : ¬ LetsOut Q0 := fun ⟨a, w, h⟩ => by cases h.1
  refine wp_mono (Q := Q0) (wp_region_any hm ?_) (fun e a w ⟨he, hg⟩ => by subst he; exact hQ a w hg)
  generalize hw1 : ({ w with drawn := w.drawn + 1 } : World) = w1
  have hR1 : Rel P w0 L0 row w1 L O (clean (hdsts F ops.toList) σ) (tmOf a) := by rw [← hw1]; exact (hR.drew).clean _
  have h0 := ddops_split (F := F) _ _ h
  rw [hnn] at h0
  have htl : (ops.toList.take nn).length = nn := by simp; omega
  have hdl : (ops.toList.drop nn).length = ops.size - nn := by simp
  -- from the late moves on
  have main : ∀ j, j ≤ k → ∀ a, Good P w0 L0 row kk (fun σ => INV (hdsts F ops.toList) σ ∧ dops P F ops (hdsts F ops.toList) ((ops.toList.take nn).drop (k - j)) (fun σ' => vops P F ops (ops.toList.drop nn) K σ') σ) a w1 →
      wpAny P .any ops Q0 (ops.size - (k - j)) (markN (k - j) (Array.replicate ops.size false)) a w1 := by
    intro j
    induction j with
    | zero =>
      intro _ a hg
      simp only [Nat.sub_zero] at hg ⊢
      obtain ⟨L1, O1, a0, hR2, hd2, hs2, hI, hv⟩ := hg
      have inv0 := markN_inv hle k hkn hlate
      have hk0 : ∀ i, i < k → (markN k (Array.replicate ops.size false)).getD i false = true := fun i hi => markN_on k i hi (by omega)
      have hlt : ∀ listed, HeadInv .any ops nn listed ∧ (∀ i, i < k → listed.getD i false = true) → ∀ i, i < nn → listed.getD i true = false → ∀ j ∈ Region.ready .any ops listed, j < nn := by
        intro listed ⟨inv, hk⟩ i hi hun j hj
        rcases hcase with h1 | ⟨⟨h1, h2⟩, h3⟩
        · obtain ⟨_, o, ho, _⟩ := mem_ready.1 hj
          rw [h1]
          exact (Array.getElem?_eq_some_iff.1 ho).1
        · rcases Nat.lt_or_ge j nn with h4 | h4
          · exact h4
          · exact absurd hj (tail_waits' h2 h3 h1 inv hk _ i rfl hi hun j h4)
      have H := anyV_lex (md := .any) (g := ops.size - nn) (P := P) (F := F) (ds := hdsts F ops.toList) (K := fun σ' => vops P F ops (ops.toList.drop nn) K σ') (fun listed => HeadInv .any ops nn listed ∧ ∀ i, i < k → listed.getD i false = true)
        (fun listed j ⟨h1, h2⟩ hj hjn => ⟨h1.set hj hjn, fun i hi => getD_set_true (h2 i hi)⟩) hlt ((ops.toList.take nn).drop k) k _ a0 (fun o ho => hds o (List.mem_of_mem_drop ho)) (fun j hj => by
          have hj' : k + j < nn := by simp at hj; omega
          simp [List.getElem?_drop, List.getElem?_take, hj']) (by simp; omega) ⟨inv0, hk0⟩ (by rw [List.length_drop, htl]; exact hlex) hI hv
      have := any_of_V (md := .any) (Q := Q0) (g := ops.size - nn) (k := kk) (w0 := w0) (L0 := L0) (row := row) hdst (fun listed a' w' hg => by
        obtain ⟨L1, O1, σ1, hR1, hd1, hs1, _, hseq, _, hv⟩ := hg
        have := wpAny_of_seq (md := .any) (Q' := Q0) (P := P) (ops.toList.drop nn) nn listed a' w' (fun j => by simp [List.getElem?_drop]) (by rw [hdl]; exact hseq)
          (vops_ok (ops.toList.drop nn) a' w' (fun o ho d hd => hdst o (List.mem_of_mem_drop ho) d hd) ⟨L1, O1, σ1, hR1, hd1, hs1, hv⟩ (fun a w hg => ⟨rfl, hg⟩))
        rwa [hdl] at this) _ _ a w1 ⟨L1, O1, a0, hR2, hd2, hs2, hI, H⟩
      rw [List.length_drop, htl, show nn - k + (ops.size - nn) = ops.size - k by omega] at this
      exact this
    | succ j ih =>
      intro hj a hg
      have hik : k - (j + 1) < k := by omega
      obtain ⟨d, t, oi, g1, g2, g3, g4, g5, g6, g7⟩ := lateOne_spec (hlate _ hik)
      have hsucc : k - j = k - (j + 1) + 1 := by omega
      have hstep : ops.size - (k - (j + 1)) = (ops.size - (k - j)) + 1 := by omega
      rw [hstep]
      refine late_first hQp hQl g1 g2 g3 g4 g5 g6 g7 _ _ _ _ (markN_off _ _ (Nat.le_refl _) (by omega)) ?_
      have hmk : (markN (k - (j + 1)) (Array.replicate ops.size false)).setIfInBounds (k - (j + 1)) true = markN (k - j) (Array.replicate ops.size false) := by rw [hsucc]; rfl
      rw [hmk]
      refine ih (by omega) _ ?_
      obtain ⟨L1, O1, σ1, hR2, hd2, hs2, hI, hv⟩ := hg
      have hcons : (ops.toList.take nn).drop (k - (j + 1)) = oi :: (ops.toList.take nn).drop (k - j) := by
        rw [List.drop_eq_getElem_cons (by rw [htl]; omega), hsucc]
        congr 1
        have : (ops.toList.take nn)[k - (j + 1)]? = some oi := by rw [List.getElem?_take, if_pos (by omega)]; simpa using g1
        exact (List.getElem?_eq_some_iff.1 this).2
      rw [hcons] at hv
      have hmem : oi ∈ ops.toList := by rw [Array.mem_toList_iff]; exact Array.mem_of_getElem? g1
      have hmemt : oi ∈ ops.toList.take nn := List.mem_of_mem_drop (i := k - (j + 1)) (by rw [hcons]; simp)
      obtain ⟨d', x, ⟨y1, y2, y3, y4⟩, hK⟩ := dops_step (hds oi hmemt) hv
      obtain rfl : d = d' := by rw [g2] at y1; simpa using y1
      have hp : pureE P F oi.op d σ1 (fun y => y = x) := by
        rcases y4 with ⟨_, hp⟩ | ⟨hw, _⟩
        · exact hp
        · simp [wantV, g5] at hw
      have hwp := pureE_ok (K := fun τ => τ = put σ1 d x) (Q := fun _ _ _ => False) g2 (hdst oi hmem d g2) hs2 hd2 hR2 (pureE_mono hp fun y hy => by rw [hy])
      have hrun : (execOp a.eval oi).run P w1 = .ok (.value (a.eval (.tmp t))) w1 := by simp [execOp, g3]
      unfold Oper.wp at hwp
      rw [hrun] at hwp
      simp only [Oper.upon, g2] at hwp
      obtain ⟨L2, O2, σ2, hR3, hd3, hs3, rfl⟩ := hwp
      rw [put_setv hI y2 y3] at hR3
      exact ⟨L2, O2, _, hR3, hd3, hs3, hI.setv y3, hK⟩
  have := main k (Nat.le_refl _) a ⟨L, O, _, hR1, hdef, hsz, clean_inv hds6, by rw [Nat.sub_self, List.drop_zero]; exact h0⟩
  rw [Nat.sub_self] at this
  exact this
end Go.Vw

/- Regions of open order: every order walked. -/
namespace Go.Vw
open Go.RowKit Go.Proofs

variable {P : Program} {F : Nat → Bool} {w0 : World} {L0 : Nat → Nat → Prop} {row : Nat → Prop} {n : Nat} {K : St → Prop} {Q : Exit → Act → World → Prop}
  {w : World} {a : Act} {ops : Array Oper}

/-- The orders, as a tree of choices. -/
inductive OT where
  | leaf
  | stuck
  | node (l : List (Nat × OT))

mutual
def aT (P : Program) (F : Nat → Bool) (ops : Array Oper) (K : St → Prop) : OT → St → Prop
  | .leaf, σ => K σ
  | .stuck, _ => False
  | .node l, σ => aTL P F ops K l σ
def aTL (P : Program) (F : Nat → Bool) (ops : Array Oper) (K : St → Prop) : List (Nat × OT) → St → Prop
  | [], _ => True
  | (i, t) :: l, σ => (match ops[i]? with
    | none => aT P F ops K t σ
    | some o => vops P F ops [o] (aT P F ops K t) σ) ∧ aTL P F ops K l σ
end
def treeOf (ops : Array Oper) : Nat → Array Bool → OT
  | 0, listed => if Region.ready .any ops listed = [] then .leaf else .stuck
  | g + 1, listed => if Region.ready .any ops listed = [] then .leaf else .node ((Region.ready .any ops listed).map fun i => (i, treeOf ops g (listed.setIfInBounds i true)))

theorem vop1_ok {o : Oper} {K' : Act → World → Prop} (hdst : ∀ d, o.dst = some d → d < n) (h : Good P w0 L0 row n (vops P F ops [o] K) a w) (hQ : ∀ a w, Good P w0 L0 row n K a w → K' a w) :
    if Region.wanted o (yielded ops a.tmps) then o.wp P a w K' Q ∨ (o.asks P a w ∧ LetsOut Q) else K' (a.put o.dst undef) w := by
  have hrest : ∀ a w, Good P w0 L0 row n (vops P F ops [] K) a w → K' a w := fun a w hg => hQ a w hg
  obtain ⟨L, O, σ, hR, hdef, hsz, hv⟩ := h
  simp only [vops] at hv
  have run : vop P F o K σ → o.wp P a w K' Q := fun hv => by
    have h1 : o.wp P a w (Good P w0 L0 row n K) Q := vop_ok hdst hsz hdef hR hv
    exact Oper.wp_mono hQ h1
  cases hg : o.guard with
  | none =>
    rw [hg] at hv
    simp only [Region.wanted, hg, if_true]
    exact .inl (run hv)
  | some g =>
    obtain ⟨j, want⟩ := g
    rw [hg] at hv
    obtain ⟨t, ht, hv⟩ := bindO_ok hv
    split at hv
    · rename_i b hb
      have hy := yielded_of hR ht hb
      by_cases hbw : b = want
      · have : Region.wanted o (yielded ops a.tmps) = true := by simp [Region.wanted, hg, hy, hbw]
        rw [if_pos this]
        exact .inl (run (hv.1 hbw))
      · have : ¬ Region.wanted o (yielded ops a.tmps) = true := by simp [Region.wanted, hg, hy, hbw]
        rw [if_neg this]
        exact hQ _ _ (goodPutO hR hdst hsz hdef (hv.2 hbw))
    · rename_i hb
      have hy := yielded_not hR ht hb
      have : ¬ Region.wanted o (yielded ops a.tmps) = true := by simp [Region.wanted, hg, hy]
      rw [if_neg this]
      exact hQ _ _ (goodPutO hR hdst hsz hdef hv)
    · exact hv.elim

theorem aTL_mem : ∀ {l : List (Nat × OT)} {σ : St}, aTL P F ops K l σ → ∀ {i : Nat} {t : OT}, (i, t) ∈ l → (match ops[i]? with
    | none => aT P F ops K t σ
    | some o => vops P F ops [o] (aT P F ops K t) σ)
  | [], _, _, _, _, hm => by simp at hm
  | x :: l, σ, h, i, t, hm => by
    simp only [aTL] at h
    rcases List.mem_cons.1 hm with rfl | hm
    · exact h.1
    · exact aTL_mem h.2 hm

theorem any_ok (hdst : ∀ o ∈ ops.toList, ∀ d, o.dst = some d → d < n) (hQ : ∀ a w, Good P w0 L0 row n K a w → Q .normal a w) :
    ∀ (g : Nat) (listed : Array Bool) (a : Act) (w : World), Good P w0 L0 row n (aT P F ops K (treeOf ops g listed)) a w → wpAny P .any ops Q g listed a w := by
  intro g
  induction g with
  | zero =>
    intro listed a w h
    rw [treeOf] at h
    split at h
    · rename_i hr
      simp only [aT] at h
      exact ⟨hr, hQ a w h⟩
    · simp only [aT] at h
      obtain ⟨_, _, _, _, _, _, hf⟩ := h
      exact hf.elim
  | succ g ih =>
    intro listed a w h
    rw [treeOf] at h
    split at h
    · rename_i hr
      simp only [aT] at h
      refine ⟨fun _ => hQ a w h, fun i hi => ?_⟩
      rw [hr] at hi
      cases hi
    · rename_i hr
      refine ⟨fun h0 => absurd h0 hr, fun i hi => ?_⟩
      simp only [aT] at h
      obtain ⟨L, O, σ, hR, hdef, hsz, hv⟩ := h
      have h1 := aTL_mem hv (i := i) (t := treeOf ops g (listed.setIfInBounds i true)) (List.mem_map.2 ⟨i, hi, rfl⟩)
      unfold wpOp
      split at h1
      · rename_i ho
        rw [ho]
        exact ih _ _ _ ⟨L, O, σ, hR, hdef, hsz, h1⟩
      · rename_i o ho
        rw [ho]
        simp only
        exact vop1_ok (hdst o (Array.mem_toList_iff.2 (Array.mem_of_getElem? ho))) ⟨L, O, σ, hR, hdef, hsz, h1⟩ (fun a w hg => ih _ _ _ hg)
end Go.Vw

/- Regions of open order whose operations are apart, unless one waits for the other: the walk of the text's order serves; variables may be made and written. -/
set_option linter.unusedSimpArgs false
namespace Go.Vw
open Go.RowKit Go.Proofs

variable {P : Program} {F : Nat → Bool} {w0 : World} {L0 : Nat → Nat → Prop} {row : Nat → Prop} {n : Nat} {K : St → Prop} {Q : Exit → Act → World → Prop}
  {w w' : World} {L L' : Nat → Nat → Prop} {O O' : Nat → Option Nat} {σ σ' : St} {a : Act} {o : Oper} {d : Nat} {v : Value} {tm : Nat → Value}
  {ops : Array Oper} {ds : List Nat}

/-- The slot that an operation changes. -/
def wrO (o : Oper) : Option Nat :=
  match o.dst with
  | some d => some d
  | none => (match o.op with
    | .store _ (.tmp s) _ => some s
    | _ => none)
def apartX (ops : Array Oper) (x y : Oper) : Bool :=
  match wrO x, wrO y with
  | some d, some e => d != e && !(y.looksAt ops).contains d && !(x.looksAt ops).contains e
  | _, _ => false
def swapB (ops : Array Oper) : Bool := (List.range ops.size).all fun k => match ops[k]? with
  | some o => o.guard.isNone && (match wrO o with
    | some d => decide (d < 1000000)
    | none => false) && (o.after.all fun e => !Region.binds .any e || decide (e.on < k)) && ((List.range k).all fun j => Region.waitsFor .any ops k j || (match ops[j]? with
    | some oj => apartX ops oj o
    | none => false))
  | none => false
def wrs (l : List Oper) : List Nat := l.filterMap wrO
def allocB : Op → Option TypeId
  | .alloc e => some e
  | _ => none

/-- The text's order. -/
def xops (P : Program) (F : Nat → Bool) (ds : List Nat) : List Oper → (St → Prop) → St → Prop
  | [], K, σ => K σ
  | o :: rest, K, σ => match o.dst with
    | some d => (match allocB o.op with
      | some e => if F (d + 1000000) = true then False else bindO (zeroD P e) fun z => xops P F ds rest K (setv σ d (.box z))
      | none => pureE P F o.op d σ fun x => refB ds x = true ∧ xops P F ds rest K (setv σ d x))
    | none => (match o.op with
      | .store t (.tmp s) y => (match σ s with
        | .box b => bindO (asD (aval σ y)) fun u => width u = width b ∧ szOf P t = some (width u) ∧ xops P F ds rest K (setv σ s (.box u))
        | _ => False)
      | _ => False)

/-- What an operation does: slot d takes x. -/
def EffX (P : Program) (F : Nat → Bool) (o : Oper) (d : Nat) (σ : St) (x : AV) : Prop :=
  (o.dst = some d ∧ pureE P F o.op d σ (fun y => y = x)) ∨
  (o.dst = some d ∧ ∃ e z, o.op = .alloc e ∧ F (d + 1000000) = false ∧ zeroD P e = some z ∧ x = .box z) ∨
  (o.dst = none ∧ ∃ t y b u, o.op = .store t (.tmp d) y ∧ σ d = .box b ∧ asD (aval σ y) = some u ∧ width u = width b ∧ szOf P t = some (width u) ∧ x = .box u)
def XV (P : Program) (F : Nat → Bool) (ds : List Nat) (o : Oper) (d : Nat) (σ : St) (x : AV) : Prop := wrO o = some d ∧ d ∈ ds ∧ refB ds x = true ∧ EffX P F o d σ x

theorem xops_step {rest : List Oper} (hds : ∀ d, wrO o = some d → d ∈ ds) (h : xops P F ds (o :: rest) K σ) : ∃ d x, XV P F ds o d σ x ∧ xops P F ds rest K (setv σ d x) := by
  simp only [xops] at h
  cases hd : o.dst with
  | some d =>
    rw [hd] at h
    simp only at h
    have hw : wrO o = some d := by simp [wrO, hd]
    cases ha : allocB o.op with
    | some e =>
      rw [ha] at h
      simp only at h
      split at h
      · exact h.elim
      · rename_i hF
        obtain ⟨z, hz, h⟩ := bindO_ok h
        have he : o.op = .alloc e := by
          unfold allocB at ha
          split at ha
          · rename_i e' ho; simp only [Option.some.injEq] at ha; rw [ho, ha]
          · cases ha
        exact ⟨d, .box z, ⟨hw, hds d hw, rfl, .inr (.inl ⟨hd, e, z, he, by simpa using hF, hz, rfl⟩)⟩, h⟩
    | none =>
      rw [ha] at h
      obtain ⟨x, h1, h2, h3⟩ := pureE_det h
      exact ⟨d, x, ⟨hw, hds d hw, h2, .inl ⟨hd, h1⟩⟩, h3⟩
  | none =>
    rw [hd] at h
    simp only at h
    split at h
    · rename_i t s y ho
      split at h
      · rename_i b hb
        obtain ⟨u, hu, h1, h2, h3⟩ := bindO_ok h
        have hw : wrO o = some s := by simp [wrO, hd, ho]
        exact ⟨s, .box u, ⟨hw, hds s hw, rfl, .inr (.inr ⟨hd, t, y, b, u, ho, hb, hu, h1, h2, rfl⟩)⟩, h3⟩
      · exact h.elim
    · exact h.elim

theorem EffX.agr {e : Nat} {y : AV} (hA : Agr o.op.operands.toList σ σ') (h : EffX P F o e σ y) : EffX P F o e σ' y := by
  rcases h with ⟨h1, h2⟩ | h | ⟨h1, t, z, b, u, h2, h3, h4, h5, h6, h7⟩
  · exact .inl ⟨h1, pureE_agr hA h2⟩
  · exact .inr (.inl h)
  · refine .inr (.inr ⟨h1, t, z, b, u, h2, ?_, ?_, h5, h6, h7⟩)
    · rw [← (hA.1 (.tmp e) (by rw [h2]; simp [Op.operands])).1 e rfl]; exact h3
    · rw [← hA.aval (x := z) (by rw [h2]; simp [Op.operands])]; exact h4
theorem XV.back {x y : AV} {e : Nat} (hi : INV ds σ) (hd : d ∈ ds) (hk : d ∉ o.looksAt ops) (h : XV P F ds o e (setv σ d x) y) : XV P F ds o e σ y := ⟨h.1, h.2.1, h.2.2.1, h.2.2.2.agr (agr_setv hi hd hk)⟩
theorem XV.forth {x y : AV} {e : Nat} (hi : INV ds σ) (hd : d ∈ ds) (hk : d ∉ o.looksAt ops) (h : XV P F ds o e σ y) : XV P F ds o e (setv σ d x) y := ⟨h.1, h.2.1, h.2.2.1, h.2.2.2.agr (agr_setv hi hd hk).symm⟩

def xOp (P : Program) (F : Nat → Bool) (ops : Array Oper) (ds : List Nat) (i : Nat) (K : St → Prop) (σ : St) : Prop :=
  match ops[i]? with
  | none => K σ
  | some o => ∃ d x, XV P F ds o d σ x ∧ K (setv σ d x)
theorem xOp_mono {i : Nat} {K K' : St → Prop} (h : ∀ σ, K σ → K' σ) (hh : xOp P F ops ds i K σ) : xOp P F ops ds i K' σ := by
  unfold xOp at *
  split at hh
  · exact h _ hh
  · obtain ⟨d, x, h1, h2⟩ := hh
    exact ⟨d, x, h1, h _ h2⟩
theorem apartX_spec {x y : Oper} (h : apartX ops x y = true) : ∃ d e, wrO x = some d ∧ wrO y = some e ∧ d ≠ e ∧ d ∉ y.looksAt ops ∧ e ∉ x.looksAt ops := by
  unfold apartX at h
  split at h
  · rename_i d e hx hy
    simp only [Bool.and_eq_true, bne_iff_ne, ne_eq, Bool.not_eq_true', List.contains_eq_mem, decide_eq_false_iff_not] at h
    exact ⟨d, e, hx, hy, h.1.1, h.1.2, h.2⟩
  · cases h
theorem xOp_set {j di : Nat} {oi oj : Oper} {x : AV} (hj : ops[j]? = some oj) (hap : apartX ops oi oj = true) (hi : INV ds σ) (hy : XV P F ds oi di σ x) {K : St → Prop} (h : xOp P F ops ds j K (setv σ di x)) :
    xOp P F ops ds j (fun σ' => INV ds σ' ∧ XV P F ds oi di σ' x ∧ K (setv σ' di x)) σ := by
  obtain ⟨d, e, h1, h2, h3, h4, h5⟩ := apartX_spec hap
  obtain rfl : di = d := Option.some.inj (hy.1.symm.trans h1)
  unfold xOp at *
  simp only [hj] at *
  obtain ⟨dj, u, hu, hK⟩ := h
  obtain rfl : dj = e := Option.some.inj (hu.1.symm.trans h2)
  refine ⟨dj, u, hu.back hi hy.2.1 h4, hi.setv hu.2.2.1, hy.forth hi hu.2.1 h5, ?_⟩
  rw [← setv_comm h3]
  exact hK

/-- Whatever order is picked from here on. -/
def anyX (P : Program) (F : Nat → Bool) (ops : Array Oper) (ds : List Nat) (K : St → Prop) : Nat → Array Bool → St → Prop
  | 0, listed, σ => Region.ready .any ops listed = [] ∧ K σ
  | f + 1, listed, σ => Region.ready .any ops listed ≠ [] ∧ ∀ i ∈ Region.ready .any ops listed, xOp P F ops ds i (anyX P F ops ds K f (listed.setIfInBounds i true)) σ

theorem anyX_first {i di : Nat} {oi : Oper} {x : AV} (hi : ops[i]? = some oi) :
    ∀ (f : Nat) (listed : Array Bool) (σ : St),
      (∀ j oj, ops[j]? = some oj → j ≠ i → listed.getD j true = false → (∀ e ∈ oj.after, Region.binds .any e = true → e.on ≠ i) → apartX ops oi oj = true) →
      i ∈ Region.ready .any ops listed → INV ds σ → XV P F ds oi di σ x →
      anyX P F ops ds K f (listed.setIfInBounds i true) (setv σ di x) → anyX P F ops ds K (f + 1) listed σ := by
  intro f
  induction f with
  | zero =>
    intro listed σ _ hr hI hy H
    refine ⟨fun h => (by rw [h] at hr; cases hr), fun j hj => ?_⟩
    by_cases hji : j = i
    · subst hji
      unfold xOp; simp only [hi]
      exact ⟨di, x, hy, H⟩
    · have := ready_mono hj hji
      rw [H.1] at this
      cases this
  | succ f ih =>
    intro listed σ hfree hr hI hy H
    have hun := (mem_ready.1 hr).1
    refine ⟨fun h => (by rw [h] at hr; cases hr), fun j hj => ?_⟩
    by_cases hji : j = i
    · subst hji
      unfold xOp; simp only [hi]
      exact ⟨di, x, hy, H⟩
    · have h1 := H.2 j (ready_mono hj hji)
      obtain ⟨hjun, oj, hoj, hall⟩ := mem_ready.1 hj
      have hnot : ∀ e ∈ oj.after, Region.binds .any e = true → e.on ≠ i := fun e he hb heq => by
        have h1 := hall e he hb
        rw [heq, getD_both hun] at h1
        cases h1
      have h2 := xOp_set hoj (hfree j oj hoj hji hjun hnot) hI hy h1
      have hfree' : ∀ k ok, ops[k]? = some ok → k ≠ i → (listed.setIfInBounds j true).getD k true = false →
          (∀ e ∈ ok.after, Region.binds .any e = true → e.on ≠ i) → apartX ops oi ok = true := fun k ok hk hki hun hno => by
        refine hfree k ok hk hki ?_ hno
        by_cases hjk : j = k
        · subst hjk; exact hjun
        · rw [getD_set_ne true hjk] at hun; exact hun
      refine xOp_mono (fun a' h3 => ih (listed.setIfInBounds j true) a' hfree' (ready_mono hr (Ne.symm hji)) h3.1 h3.2.1 ?_) h2
      rw [Array.setIfInBounds_comm _ _ hji]
      exact h3.2.2

theorem swapB_spec (h : swapB ops = true) {k : Nat} (hk : k < ops.size) : ∃ o d, ops[k]? = some o ∧ o.guard = none ∧ wrO o = some d ∧ d < 1000000 ∧ (∀ e ∈ o.after, Region.binds .any e = true → e.on < k) ∧
    ∀ j, j < k → Region.waitsFor .any ops k j = true ∨ ∃ oj, ops[j]? = some oj ∧ apartX ops oj o = true := by
  have h1 := List.all_eq_true.1 h k (List.mem_range.2 hk)
  split at h1
  · rename_i o ho
    simp only [Bool.and_eq_true, Option.isNone_iff_eq_none] at h1
    obtain ⟨⟨⟨g1, g2⟩, g3⟩, g4⟩ := h1
    split at g2
    · rename_i d hd
      refine ⟨o, d, ho, g1, hd, of_decide_eq_true g2, fun e he hb => ?_, fun j hj => ?_⟩
      · have := Array.all_eq_true'.1 g3 e he
        simpa [hb] using this
      · have := List.all_eq_true.1 g4 j (List.mem_range.2 hj)
        simp only [Bool.or_eq_true] at this
        rcases this with h | h
        · exact .inl h
        · split at h
          · rename_i oj hoj; exact .inr ⟨oj, hoj, h⟩
          · cases h
    · cases g2
  · cases h1

theorem anyX_lex (hs : swapB ops = true) (hds : ∀ o ∈ ops.toList, ∀ d, wrO o = some d → d ∈ ds) :
    ∀ (m k : Nat) (σ : St), k + m = ops.size → INV ds σ → xops P F ds (ops.toList.drop k) K σ → anyX P F ops ds K m (markN k (Array.replicate ops.size false)) σ
  | 0, k, σ, hk, hI, h => by
    rw [List.drop_eq_nil_of_le (by rw [Array.length_toList]; omega)] at h
    refine ⟨?_, h⟩
    rw [List.eq_nil_iff_forall_not_mem]
    intro i hi
    obtain ⟨hun, o, ho, _⟩ := mem_ready.1 hi
    have hlt := (Array.getElem?_eq_some_iff.1 ho).1
    have := markN_on (s := ops.size) k i (by omega) hlt
    rw [getD_both hun] at this
    cases this
  | m + 1, k, σ, hk, hI, h => by
    have hlt : k < ops.size := by omega
    obtain ⟨o, d0, ho, hg, hw, hd6, hedge, _⟩ := swapB_spec hs hlt
    have hcons : ops.toList.drop k = o :: ops.toList.drop (k + 1) := by
      rw [List.drop_eq_getElem_cons (by rw [Array.length_toList]; exact hlt)]
      congr 1
      have : ops.toList[k]? = some o := by simpa using ho
      exact (List.getElem?_eq_some_iff.1 this).2
    rw [hcons] at h
    have hmem : o ∈ ops.toList := by rw [Array.mem_toList_iff]; exact Array.mem_of_getElem? ho
    obtain ⟨d, x, hy, hK⟩ := xops_step (hds o hmem) h
    have hr : k ∈ Region.ready .any ops (markN k (Array.replicate ops.size false)) := mem_ready.2 ⟨markN_off k k (Nat.le_refl _) hlt, o, ho, fun e he hb => markN_on k _ (hedge e he hb) (by have := hedge e he hb; omega)⟩
    refine anyX_first ho m _ σ (fun j oj hoj hjk hun hno => ?_) hr hI hy ?_
    · have hjs := (Array.getElem?_eq_some_iff.1 hoj).1
      have hkj : k < j := by
        rcases Nat.lt_or_ge j k with h1 | h1
        · have := markN_on (s := ops.size) k j h1 hjs
          rw [getD_both hun] at this
          cases this
        · omega
      obtain ⟨oj', _, hoj', _, _, _, _, hpair⟩ := swapB_spec hs hjs
      obtain rfl : oj = oj' := Option.some.inj (hoj.symm.trans hoj')
      rcases hpair k hkj with h1 | ⟨ok, hok, h1⟩
      · obtain ⟨o', ho', e, he, hb, hon⟩ := Region.waitsFor_spec h1
        obtain rfl : oj = o' := Option.some.inj (hoj.symm.trans ho')
        exact absurd hon (hno e he hb)
      · obtain rfl : o = ok := Option.some.inj (ho.symm.trans hok)
        exact h1
    · exact anyX_lex hs hds m (k + 1) _ (by omega) (hI.setv hy.2.2.1) hK

theorem any_of_X (hs : swapB ops = true) (hdst : ∀ o ∈ ops.toList, ∀ d, o.dst = some d → d < n) (hQ : ∀ a w, Good P w0 L0 row n K a w → Q .normal a w) :
    ∀ (f : Nat) (listed : Array Bool) (a : Act) (w : World), Good P w0 L0 row n (fun σ => INV ds σ ∧ anyX P F ops ds K f listed σ) a w → wpAny P .any ops Q f listed a w
  | 0, listed, a, w, h => by
    obtain ⟨L, O, σ, hR, hdef, hsz, hI, hr, hv⟩ := h
    exact ⟨hr, hQ a w ⟨L, O, σ, hR, hdef, hsz, hv⟩⟩
  | f + 1, listed, a, w, h => by
    obtain ⟨L, O, σ, hR, hdef, hsz, hI, hne, hall⟩ := h
    refine ⟨fun h0 => absurd h0 hne, fun i hi => ?_⟩
    have hop := hall i hi
    unfold xOp at hop
    unfold wpOp
    split at hop
    · rename_i hoi
      simp only [hoi]
      exact any_of_X hs hdst hQ f _ a w ⟨L, O, σ, hR, hdef, hsz, hI, hop⟩
    · rename_i o hoi
      simp only [hoi]
      obtain ⟨d, x, ⟨h1, h2, h3, h4⟩, hK⟩ := hop
      have hlt := hdst o (by rw [Array.mem_toList_iff]; exact Array.mem_of_getElem? hoi)
      obtain ⟨o', _, ho', hg, _⟩ := swapB_spec hs (Array.getElem?_eq_some_iff.1 hoi).1
      obtain rfl : o = o' := Option.some.inj (hoi.symm.trans ho')
      rw [if_pos (by simp [Region.wanted, hg])]
      refine .inl (Oper.wp_mono (K := Good P w0 L0 row n (fun τ => τ = put σ d x)) ?_ ?_)
      · rintro a' w' ⟨L1, O1, σ1, hR1, hd1, hs1, rfl⟩
        rw [put_setv hI h2 h3] at hR1
        exact any_of_X hs hdst hQ f _ a' w' ⟨L1, O1, _, hR1, hd1, hs1, hI.setv h3, hK⟩
      · rcases h4 with ⟨e1, hp⟩ | ⟨e1, e, z, e2, e3, e4, rfl⟩ | ⟨e1, t, y, b, u, e2, e3, e4, e5, e6, rfl⟩
        · exact pureE_ok (K := fun τ => τ = put σ d x) e1 (hlt d e1) hsz hdef hR (pureE_mono hp fun y hy => by rw [hy])
        · refine vop_ok (F := F) hlt hsz hdef hR ?_
          simp only [vop, e1, vopd, e2, e3, e4, bindO]
          simp
        · refine vop_ok (F := F) hlt hsz hdef hR ?_
          have ex : aval σ (.tmp d) = .adr d [] := by simp only [aval, e3, rd]
          simp only [vop, e1, e2, vStore, ex, e3, D.get, D.upd, e4, bindO]
          exact ⟨e5, e6, trivial⟩

theorem swap_ok {id : Nat} (hm : P.follows .mixedOrders = true) (hs : swapB ops = true) (hdst : ∀ o ∈ ops.toList, ∀ d, o.dst = some d → d < n)
    (h : Good P w0 L0 row n (fun σ => xops P F (wrs ops.toList) ops.toList K (clean (wrs ops.toList) σ)) a w) (hQ : ∀ a w, Good P w0 L0 row n K a w → Q .normal a w) : (Code.region id ops true).wp P Q a w := by
  obtain ⟨L, O, σ, hR, hdef, hsz, hv⟩ := h
  refine wp_region_any hm (any_of_X hs hdst hQ (ds := wrs ops.toList) (F := F) _ _ _ _ ⟨L, O, clean (wrs ops.toList) σ, hR.drew.clean _, hdef, hsz, clean_inv fun d hd => ?_, ?_⟩)
  · simp only [wrs, List.mem_filterMap] at hd
    obtain ⟨o, ho, hd⟩ := hd
    obtain ⟨k, hk⟩ := List.mem_iff_getElem?.1 ho
    have hk' : ops[k]? = some o := by simpa using hk
    obtain ⟨o', d', ho', _, hw, hlt, _⟩ := swapB_spec hs (Array.getElem?_eq_some_iff.1 hk').1
    obtain rfl : o = o' := Option.some.inj (hk'.symm.trans ho')
    obtain rfl : d = d' := Option.some.inj (hd.symm.trans hw)
    exact hlt
  · exact anyX_lex hs (fun o ho d hd => List.mem_filterMap.2 ⟨o, ho, hd⟩) ops.size 0 _ (by omega) (clean_inv fun d hd => by
      simp only [wrs, List.mem_filterMap] at hd
      obtain ⟨o, ho, hd⟩ := hd
      obtain ⟨k, hk⟩ := List.mem_iff_getElem?.1 ho
      have hk' : ops[k]? = some o := by simpa using hk
      obtain ⟨o', d', ho', _, hw, hlt, _⟩ := swapB_spec hs (Array.getElem?_eq_some_iff.1 hk').1
      obtain rfl : o = o' := Option.some.inj (hk'.symm.trans ho')
      obtain rfl : d = d' := Option.some.inj (hd.symm.trans hw)
      exact hlt) (by rw [List.drop_zero]; exact hv)
end Go.Vw

/- The abstract walk is sound: code, functions. -/
namespace Go.Vw
open Go.RowKit Go.Proofs

/-- A loop: an invariant that bears a number, which every round lowers. -/
def LoopK (body : (Exit → St → Prop) → St → Prop) (Q : Exit → St → Prop) (σ : St) : Prop :=
  ∃ (I : Nat → St → Prop) (k : Nat), I k σ ∧ ∀ m τ, I m τ → body (thenV (fun τ' => ∃ m', m' < m ∧ I m' τ') Q) τ

/-- At the start of a region an own slice may be frozen. -/
def FrzK (b : Bool) (N : St → Prop) (σ : St) : Prop := if b = true then ∃ t e l, σ t = .own true e l ∧ N (put σ t (.own false e l)) else N σ
/-- A small region whose order is open: every order walked, up to a cut. -/
def OrdK (b : Bool) (P : Program) (F : Nat → Bool) (ops : Array Oper) (K N : St → Prop) (σ : St) : Prop := if b = true then ∃ K', aT P F ops K' (treeOf ops ops.size (Array.replicate ops.size false)) σ ∧ ∀ σ', K' σ' → K σ' else N σ
/-- A region whose operations may change places: the text's order walked. -/
def SwpK (b : Bool) (P : Program) (F : Nat → Bool) (ops : Array Oper) (K N : St → Prop) (σ : St) : Prop := if b = true then xops P F (wrs ops.toList) ops.toList K (clean (wrs ops.toList) σ) else N σ
def vwp (P : Program) (F : Nat → Bool) : Code → (Exit → St → Prop) → St → Prop
  | .skip, Q, σ => Q .normal σ
  | .region _ ops false, Q, σ => vops P F ops ops.toList (Q .normal) σ
  | .region id ops true, Q, σ => SwpK (F (9000000 + id)) P F ops (Q .normal) (OrdK (F (8000000 + id)) P F ops (Q .normal) (FrzK (F (7000000 + id)) (fun σ => ddops P F ops (hdsts F ops.toList) ops.toList (Q .normal) (clean (hdsts F ops.toList) σ)))) σ
  | .seq x y, Q, σ => vwp P F x (thenV (vwp P F y Q) Q) σ
  | .cond c x y, Q, σ => (match aval σ c with
    | .d (.bool b) => (b = true → vwp P F x Q σ) ∧ (b = false → vwp P F y Q σ)
    | _ => False)
  | .block id c, Q, σ => vwp P F c (inBlockV id Q) σ
  | .loop c, Q, σ => LoopK (vwp P F c) Q σ
  | .exit id, Q, σ => Q (.exit id) σ
  | .ret, Q, σ => Q .ret σ
  | _, _, _ => False

def okDst (F : Nat → Bool) (n : Nat) : Code → Bool
  | .region id ops dr => (ops.toList.all fun o => match o.dst with
    | some d => decide (d < n)
    | none => true) && (!dr || (if F (9000000 + id) = true then swapB ops else F (8000000 + id) || drawB F ops))
  | .seq x y | .cond _ x y => okDst F n x && okDst F n y
  | .block _ c | .loop c => okDst F n c
  | _ => true

variable {P : Program} {F : Nat → Bool} {w0 : World} {L0 : Nat → Nat → Prop} {row : Nat → Prop} {n : Nat} {K : St → Prop} {Q : Exit → Act → World → Prop}
  {w w' : World} {L L' : Nat → Nat → Prop} {O O' : Nat → Option Nat} {σ σ' : St} {a : Act} {o : Oper} {d : Nat} {v : Value} {tm : Nat → Value}

def post (P : Program) (w0 : World) (L0 : Nat → Nat → Prop) (row : Nat → Prop) (n : Nat) (Q : Exit → St → Prop) : Exit → Act → World → Prop := fun e a w => Good P w0 L0 row n (Q e) a w

theorem vwp_ok (hm : P.follows .mixedOrders = true) : ∀ (c : Code) (Q : Exit → St → Prop) (a : Act) (w : World), okDst F n c = true → Good P w0 L0 row n (vwp P F c Q) a w → c.wp P (post P w0 L0 row n Q) a w
  | .skip, Q, a, w, _, h => wp_skip h
  | .region _ ops false, Q, a, w, hok, h => by
    simp only [okDst, Bool.and_eq_true] at hok
    refine wp_region_list (vops_ok ops.toList a w (fun o ho d hd => ?_) h (fun a w h => h))
    have := List.all_eq_true.1 hok.1 o ho
    simpa [hd] using this
  | .region id ops true, Q, a, w, hok, h => by
    simp only [okDst, Bool.and_eq_true, Bool.not_true, Bool.false_or] at hok
    have hdst : ∀ o ∈ ops.toList, ∀ d, o.dst = some d → d < n := fun o ho d hd => by
      have := List.all_eq_true.1 hok.1 o ho
      simpa [hd] using this
    by_cases h9 : F (9000000 + id) = true
    · rw [if_pos h9] at hok
      obtain ⟨L, O, σ, hR, hdef, hsz, hv⟩ := h
      simp only [vwp, SwpK, h9, if_true] at hv
      exact swap_ok hm hok.2 hdst ⟨L, O, σ, hR, hdef, hsz, hv⟩ (fun a w h => h)
    rw [if_neg h9] at hok
    simp only [Bool.or_eq_true] at hok
    by_cases h8 : F (8000000 + id) = true
    · obtain ⟨L, O, σ, hR, hdef, hsz, hv⟩ := h
      simp only [vwp, SwpK, if_neg h9, OrdK, h8, if_true] at hv
      obtain ⟨K', hv, hk⟩ := hv
      exact wp_region_any hm (any_ok (K := K') hdst (fun a w ⟨L, O, σ, hR, hdef, hsz, h⟩ => ⟨L, O, σ, hR, hdef, hsz, hk σ h⟩) _ _ _ _ ⟨L, O, σ, hR.drew, hdef, hsz, hv⟩)
    have hB : drawB F ops = true := by
      rcases hok.2 with h | h
      · exact absurd h h8
      · exact h
    have h : Good P w0 L0 row n (fun σ => ddops P F ops (hdsts F ops.toList) ops.toList (Q .normal) (clean (hdsts F ops.toList) σ)) a w := by
      obtain ⟨L, O, σ, hR, hdef, hsz, hv⟩ := h
      simp only [vwp, SwpK, if_neg h9, OrdK, if_neg h8, FrzK] at hv
      split at hv
      · obtain ⟨t, e, l, ht, hv⟩ := hv
        obtain ⟨L', hR'⟩ := hR.demote ht false
        exact ⟨L', O, _, hR', hdef, hsz, hv⟩
      · exact ⟨L, O, σ, hR, hdef, hsz, hv⟩
    exact draw_ok hm hB hdst h (fun a w h => h)
  | .seq x y, Q, a, w, hok, h => by
    simp only [okDst, Bool.and_eq_true] at hok
    refine wp_seq (wp_mono (vwp_ok hm x _ a w hok.1 h) ?_)
    intro e a' w' hg
    cases e with
    | normal => exact vwp_ok hm y Q a' w' hok.2 hg
    | exit id => exact hg
    | goto l => exact hg
    | ret => exact hg
    | panic ch => exact hg
    | outgrown => exact hg
  | .cond c x y, Q, a, w, hok, h => by
    simp only [okDst, Bool.and_eq_true] at hok
    obtain ⟨L, O, σ, hR, hdef, hsz, hv⟩ := h
    simp only [vwp] at hv
    split at hv
    · rename_i b hc
      have hcv := (aval_d hR hc).bool_inv
      exact wp_cond_split hcv (fun hb => vwp_ok hm x Q a w hok.1 ⟨L, O, σ, hR, hdef, hsz, hv.1 hb⟩) (fun hb => vwp_ok hm y Q a w hok.2 ⟨L, O, σ, hR, hdef, hsz, hv.2 hb⟩)
    · exact hv.elim
  | .block id c, Q, a, w, hok, h => by
    refine wp_block (wp_mono (vwp_ok hm c _ a w hok h) ?_)
    intro e a' w' hg
    cases e with
    | exit id' =>
      show if id' = id then post P w0 L0 row n Q .normal a' w' else post P w0 L0 row n Q (.exit id') a' w'
      have hg' : Good P w0 L0 row n (fun σ => if id' = id then Q .normal σ else Q (.exit id') σ) a' w' := hg
      split
      · exact hg'.mono fun σ h => by rwa [if_pos (by assumption)] at h
      · exact hg'.mono fun σ h => by rwa [if_neg (by assumption)] at h
    | normal => exact hg
    | goto l => exact hg
    | ret => exact hg
    | panic ch => exact hg
    | outgrown => exact hg
  | .loop c, Q, a, w, hok, h => by
    obtain ⟨L, O, σ, hR, hdef, hsz, I, k, h0, hI⟩ := h
    refine wp_loop_ghost (fun m a w => Good P w0 L0 row n (I m) a w) k ⟨L, O, σ, hR, hdef, hsz, h0⟩ ?_
    intro m a' w' hg
    refine wp_mono (vwp_ok hm c _ a' w' hok (hg.mono fun τ hτ => hI m τ hτ)) ?_
    intro e a2 w2 hg2
    cases e with
    | normal =>
      obtain ⟨L2, O2, σ2, hR2, hd2, hs2, m', hm, hI2⟩ := hg2
      exact ⟨m', hm, L2, O2, σ2, hR2, hd2, hs2, hI2⟩
    | exit id => exact hg2
    | goto l => exact hg2
    | ret => exact hg2
    | panic ch => exact hg2
    | outgrown => exact hg2
  | .exit id, Q, a, w, _, h => wp_exit h
  | .ret, Q, a, w, _, h => wp_ret h
  | .rangeFunc .., Q, a, w, _, h => by obtain ⟨_, _, _, _, _, _, h⟩ := h; simp only [vwp] at h
  | .scope _, Q, a, w, _, h => by obtain ⟨_, _, _, _, _, _, h⟩ := h; simp only [vwp] at h
  | .label _, Q, a, w, _, h => by obtain ⟨_, _, _, _, _, _, h⟩ := h; simp only [vwp] at h
  | .goto _, Q, a, w, _, h => by obtain ⟨_, _, _, _, _, _, h⟩ := h; simp only [vwp] at h
  | .refuse _, Q, a, w, _, h => by obtain ⟨_, _, _, _, _, _, h⟩ := h; simp only [vwp] at h

/-- What a result slot must hold for a contract's result. -/
def Res1 (x r : AV) : Prop :=
  match r with
  | .d y => (match x with
    | .own true _ l => y = .sl l
    | .bor _ true _ l => y = .sl l
    | _ => asD x = some y)
  | .own m e l => (match x with
    | .own m' e' l' => m' = m ∧ e' = e ∧ l' = l
    | .bor _ m' e' l' => m' = m ∧ e' = e ∧ l' = l
    | _ => False)
  | .undef => True
  | _ => False

theorem OwnR.seen {og : Option Nat} {e : TypeId} {l : List D} {v : Value} (hlok : ∀ b q, L b q → b < w.heap.size) (hog : ∀ g, og = some g → g < w.heap.size) (h : OwnR P w L og true e l v) :
    ∃ L', RepV w L' (.sl l) v ∧ (∀ c q, L' c q → c < w.heap.size) ∧ (∀ c q, some c ≠ og → (L' c q ↔ L c q)) ∧ Ext w L w L' := by
  have h' : RC P w L og (.own true e l) v := h
  obtain ⟨L', h1, h2, h3, h4⟩ := h'.demote false hlok hog
  have h1' : OwnR P w L' og false e l v := h1
  exact ⟨L', h1'.at_, h2, h3, h4⟩

/-- A result slot, as the caller sees it. -/
theorem res1_ok (hR : Rel P w0 L0 row w L O σ tm) {t : Nat} {r : AV} (h : Res1 (σ t) r) :
    ∃ L' og', (∀ b q, L' b q → b < w.heap.size) ∧ (∀ b q, b < w0.heap.size → ¬ row b → (L' b q ↔ L0 b q)) ∧ (∀ g, og' = some g → g < w.heap.size ∧ (w0.heap.size ≤ g ∨ row g)) ∧ Ext w L w L' ∧ RC P w L' og' r (tm t) := by
  have h1 := hR.slots t
  have keep : ∀ og', (∀ g, og' = some g → g < w.heap.size ∧ (w0.heap.size ≤ g ∨ row g)) → RC P w L og' r (tm t) →
      ∃ L' og', (∀ b q, L' b q → b < w.heap.size) ∧ (∀ b q, b < w0.heap.size → ¬ row b → (L' b q ↔ L0 b q)) ∧ (∀ g, og' = some g → g < w.heap.size ∧ (w0.heap.size ≤ g ∨ row g)) ∧ Ext w L w L' ∧ RC P w L' og' r (tm t) :=
    fun og' hg hr => ⟨L, og', hR.lok, hR.old, hg, fun _ _ h => ⟨h, fun _ hv => hv⟩, hr⟩
  have seen : ∀ (j : Nat) (e : TypeId) (l : List D), OwnR P w L (O j) true e l (tm t) → r = .d (.sl l) →
      ∃ L' og', (∀ b q, L' b q → b < w.heap.size) ∧ (∀ b q, b < w0.heap.size → ¬ row b → (L' b q ↔ L0 b q)) ∧ (∀ g, og' = some g → g < w.heap.size ∧ (w0.heap.size ≤ g ∨ row g)) ∧ Ext w L w L' ∧ RC P w L' og' r (tm t) := by
    rintro j e l ho rfl
    obtain ⟨L', g1, g2, g3, g4⟩ := ho.seen hR.lok (fun g hg => (hR.olt j g hg).1)
    refine ⟨L', none, g2, fun b q hb hr => ?_, by simp, g4, by simpa only [RC] using g1⟩
    refine (g3 b q (fun e => ?_)).trans (hR.old b q hb hr)
    rcases (hR.olt j b e.symm).2 with h2 | h2
    · omega
    · exact hr h2
  cases r with
  | d y =>
    have other : asD (σ t) = some y → RepV w L y (tm t) := fun h => RA.asD hR.slots h1 h
    simp only [Res1] at h
    split at h
    · rename_i e l hx
      subst h
      rw [hx] at h1
      exact seen t e l h1 rfl
    · rename_i j e l hx
      subst h
      rw [hx] at h1
      obtain ⟨h2, h3⟩ := h1
      have h4 := hR.slots j
      rw [h2] at h4
      exact seen j e l (by rw [h3]; exact h4) rfl
    · exact keep none (by simp) (by simpa only [RC] using other h)
  | own m e l =>
    simp only [Res1] at h
    split at h
    · rename_i m' e' l' hx
      obtain ⟨rfl, rfl, rfl⟩ := h
      rw [hx] at h1
      exact keep (O t) (fun g hg => hR.olt t g hg) h1
    · rename_i j m' e' l' hx
      obtain ⟨rfl, rfl, rfl⟩ := h
      rw [hx] at h1
      obtain ⟨h2, h3⟩ := h1
      have h4 := hR.slots j
      rw [h2] at h4
      exact keep (O j) (fun g hg => hR.olt j g hg) (by rw [h3]; exact h4)
    · exact h.elim
  | undef => exact keep none (by simp) (by simp [RC])
  | _ => exact h.elim

/-- The state at a function's beginning. -/
def initS (args : List AV) : St := fun i => match args[i]? with
  | some x => x
  | none => .undef

def isOwn : AV → Bool
  | .own _ _ _ => true
  | _ => false
def isArg : AV → Bool
  | .d _ => true
  | .own true _ _ => true
  | _ => false

theorem RCs.getI {og : Option Nat} {xs : List AV} {vs : List Value} (h : RCs P w L og xs vs) {i : Nat} {x : AV} (hx : xs[i]? = some x) : ∃ v, vs[i]? = some v ∧ RC P w L og x v := h.get hx

theorem RCs.length {og : Option Nat} : ∀ {xs : List AV} {vs : List Value}, RCs P w L og xs vs → vs.length = xs.length
  | [], _, h => by simp only [RCs] at h; subst h; rfl
  | x :: xs, _, h => by
    simp only [RCs] at h
    obtain ⟨v, us, rfl, h1, h2⟩ := h
    simp [RCs.length h2]

def oneOwn : List AV → Bool
  | [] => true
  | x :: xs => if isOwn x then xs.all (fun y => !isOwn y) else oneOwn xs
theorem oneOwn_ok : ∀ {args : List AV} {i j : Nat} {x y : AV}, oneOwn args = true → args[i]? = some x → args[j]? = some y → isOwn x = true → isOwn y = true → i = j
  | [], i, _, _, _, _, h, _, _, _ => by simp at h
  | z :: zs, i, j, x, y, h, hx, hy, h1, h2 => by
    simp only [oneOwn] at h
    split at h
    · have hz : ∀ (k : Nat) (u : AV), zs[k]? = some u → isOwn u = false := fun k u hk => by
        have := List.all_eq_true.1 h u (List.mem_of_getElem? hk)
        simpa using this
      cases i <;> cases j
      · rfl
      · simp only [List.getElem?_cons_succ] at hy; rw [hz _ _ hy] at h2; cases h2
      · simp only [List.getElem?_cons_succ] at hx; rw [hz _ _ hx] at h1; cases h1
      · simp only [List.getElem?_cons_succ] at hx; rw [hz _ _ hx] at h1; cases h1
    · rename_i hz
      cases i with
      | zero => simp only [List.getElem?_cons_zero, Option.some.injEq] at hx; subst hx; exact absurd h1 hz
      | succ i =>
        cases j with
        | zero => simp only [List.getElem?_cons_zero, Option.some.injEq] at hy; subst hy; exact absurd h2 hz
        | succ j =>
          simp only [List.getElem?_cons_succ] at hx hy
          rw [oneOwn_ok h hx hy h1 h2]

/-- The slot that owns, at the beginning. -/
def ownAt (args : List AV) (og : Option Nat) : Nat → Option Nat := fun i => match args[i]? with
  | some x => if isOwn x then og else none
  | none => none

theorem init_rel {og : Option Nat} {args : List AV} {vals : List Value} {k : Nat} (hlok : ∀ b q, L b q → b < w.heap.size) (hgl : GL P w L) (hog : ∀ g, og = some g → g < w.heap.size ∧ ∀ q, ¬ L g q) (h : RCs P w L og args vals)
    (harg : (args.all isArg) = true) (hone : oneOwn args = true) :
    Rel P w L (optB og) w L (ownAt args og) (initS args) (tmOf { tmps := vals.toArray ++ Array.replicate k undef, defers := [] }) := by
  refine ⟨GrownS.refl w _, hlok, hgl, fun _ _ _ _ => Iff.rfl, fun i => ?_, fun i j g hi hj => ?_, fun i g hi => ?_⟩
  · simp only [ownAt, initS]
    cases hx : args[i]? with
    | none => simp [RA, RC]
    | some x =>
      obtain ⟨v, hv, hr⟩ := h.get hx
      have htm : tmOf { tmps := vals.toArray ++ Array.replicate k undef, defers := [] } i = v := by
        have hl : i < vals.length := (List.getElem?_eq_some_iff.1 hv).1
        simp only [tmOf, Array.getD_eq_getD_getElem?]
        rw [Array.getElem?_append_left (by simpa using hl)]
        simp [hv]
      rw [htm]
      have ha := List.all_eq_true.1 harg x (List.mem_of_getElem? hx)
      cases x <;> simp [isArg] at ha <;> simp only [isOwn, Bool.false_eq_true, if_false, if_true]
      case d y => exact hr
      case own m e l => exact hr
  · simp only [ownAt] at hi hj
    split at hi
    · rename_i x hx
      split at hi
      · rename_i h1
        split at hj
        · rename_i y hy
          split at hj
          · rename_i h2
            exact oneOwn_ok hone hx hy h1 h2
          · cases hj
        · cases hj
      · cases hi
    · cases hi
  · simp only [ownAt] at hi
    split at hi
    · split at hi
      · exact ⟨(hog g hi).1, .inr hi⟩
      · cases hi
    · cases hi

/-- At the end of a function: what its results' slots hold. -/
def EndK (ts : List Nat) (rs : List AV) (single : Bool) (e : Exit) (σ : St) : Prop :=
  (e = .ret ∨ e = .normal) ∧ match ts, rs with
  | [t], [r] => single = true ∧ Res1 (σ t) r
  | _, _ => False

def EndV (t : Nat) (r : AV) : Exit → St → Prop := fun e σ => (e = .ret ∨ e = .normal) ∧ Res1 (σ t) r
def EndV2 (t u : Nat) (r : AV) (y : D) : Exit → St → Prop := fun e σ => (e = .ret ∨ e = .normal) ∧ Res1 (σ t) r ∧ asD (σ u) = some y

theorem fn_of_vwp {f : FuncId} {fn : Func} {c : Code} {args : List AV} {t : Nat} {r : AV} (F : Nat → Bool) (hm : P.follows .mixedOrders = true) (hf : P.funcs[f]? = some fn) (hname : (fn.name == "runtime.NumGoroutine") = false) (hb : fn.body = some c) (hres : fn.results = #[.tmp t])
    (hargs : args.length ≤ fn.ntmps) (hok : okDst F fn.ntmps c = true) (harg : (args.all isArg) = true) (hone : oneOwn args = true)
    (h : vwp P F c (EndV t r) (initS args)) : Ctr P f args r := by
  refine ⟨enters_of hf hname hb, fun w L og vals hlok hgl hog hrc => ?_⟩
  have hl := hrc.length
  refine calls_of_wp hf hb (wp_mono (vwp_ok (n := fn.ntmps) hm c _ _ w hok ⟨L, _, initS args, init_rel hlok hgl hog hrc harg hone, rfl, ?_, h⟩) ?_)
  · simp; omega
  · rintro e a' w' ⟨L', O', σ', hR, hdef, hsz, he, hr⟩
    obtain ⟨L2, og2, h1, h2, h3, _, h4⟩ := res1_ok hR hr
    have hfin : a'.defers = [] ∧ ∃ v, (results fn a'.tmps).run P w' = .ok v w' ∧ (∃ v' L' og', Ending.returned v = .returned v' ∧ GrownS w w' (optB og) ∧ (∀ b q, L' b q → b < w'.heap.size) ∧ (∀ b q, b < w.heap.size → ¬ optB og b → (L' b q ↔ L b q)) ∧
        (∀ g, og' = some g → g < w'.heap.size ∧ (w.heap.size ≤ g ∨ og = some g)) ∧ RC P w' L' og' r v') :=
      ⟨hdef, _, results_tmp hres _ _ _, _, L2, og2, rfl, hR.grown, h1, h2, h3, h4⟩
    rcases he with rfl | rfl
    · exact hfin
    · exact hfin

/-- Two results, the second one a datum. -/
theorem fn_of_vwp2 {f : FuncId} {fn : Func} {c : Code} {args : List AV} {t u : Nat} {r : AV} {y : D} (F : Nat → Bool) (hm : P.follows .mixedOrders = true) (hf : P.funcs[f]? = some fn) (hname : (fn.name == "runtime.NumGoroutine") = false) (hb : fn.body = some c) (hres : fn.results = #[.tmp t, .tmp u])
    (hargs : args.length ≤ fn.ntmps) (hok : okDst F fn.ntmps c = true) (harg : (args.all isArg) = true) (hone : oneOwn args = true)
    (h : vwp P F c (EndV2 t u r y) (initS args)) : Ctr P f args (.tup [r, .d y]) := by
  refine ⟨enters_of hf hname hb, fun w L og vals hlok hgl hog hrc => ?_⟩
  have hl := hrc.length
  refine calls_of_wp hf hb (wp_mono (vwp_ok (n := fn.ntmps) hm c _ _ w hok ⟨L, _, initS args, init_rel hlok hgl hog hrc harg hone, rfl, ?_, h⟩) ?_)
  · simp; omega
  · rintro e a' w' ⟨L', O', σ', hR, hdef, hsz, he, hr, hy⟩
    obtain ⟨L2, og2, h1, h2, h3, h5, h4⟩ := res1_ok hR hr
    have h6 : RC P w' L2 og2 (.d y) (tmOf a' u) := by
      have := RepV.mono h5 (RA.asD hR.slots (hR.slots u) hy)
      simpa only [RC] using this
    have h7 : RC P w' L2 og2 (.tup [r, .d y]) (.tuple #[tmOf a' t, tmOf a' u]) := by
      simp only [RC, RCs]
      exact ⟨[tmOf a' t, tmOf a' u], rfl, _, _, rfl, h4, _, _, rfl, by simpa only [RC] using h6, rfl⟩
    have hfin : a'.defers = [] ∧ ∃ v, (results fn a'.tmps).run P w' = .ok v w' ∧ (∃ v' L' og', Ending.returned v = .returned v' ∧ GrownS w w' (optB og) ∧ (∀ b q, L' b q → b < w'.heap.size) ∧ (∀ b q, b < w.heap.size → ¬ optB og b → (L' b q ↔ L b q)) ∧
        (∀ g, og' = some g → g < w'.heap.size ∧ (w.heap.size ≤ g ∨ og = some g)) ∧ RC P w' L' og' (.tup [r, .d y]) v') :=
      ⟨hdef, _, results_tmp2 hres _ _ _, _, L2, og2, rfl, hR.grown, h1, h2, h3, h7⟩
    rcases he with rfl | rfl
    · exact hfin
    · exact hfin

/-! ### functions with names -/
/-- The state at the beginning: what is named lies from slot 1000000 on. -/
def initG (args hs : List AV) : St := fun i => if 1000000 ≤ i then (match hs[i - 1000000]? with
    | some x => x
    | none => .undef) else (match args[i]? with
    | some x => x
    | none => .undef)
def isDA : AV → Bool
  | .d _ => true
  | _ => false
/-- What a result slot holds, and whose it is. -/
def ResG (σ : St) (t : Nat) (r : AV) : Prop :=
  match σ t with
  | .d y => r = .d y
  | .nils => r = .d (.sl [])
  | .own m e l => r = .own m e l
  | .bor _ m e l => r = .own m e l
  | .tup [] => r = .tup []
  | _ => False
def EndG (t : Nat) (Post : AV → List AV → Prop) : Exit → St → Prop := fun e σ => (e = .ret ∨ e = .normal) ∧ ∃ (r : AV) (ks : List Nat), ks.Nodup ∧ (∀ k ∈ ks, isH (σ k) = true) ∧ ResG σ t r ∧ Post r (ks.map σ)

theorem initG_rel {args hs : List AV} {vals : List Value} {k : Nat} (hlok : ∀ b q, L b q → b < w.heap.size) (hgl : GL P w L) (h : RCs P w L none args vals) (harg : (args.all isDA) = true) (hh : ∀ x ∈ hs, RH P w L x) (hap : apartB (hs.map hblk)) (hblt : ∀ x ∈ hs, ∀ g, hblk x = some g → g < w.heap.size) :
    Rel P w L (fun b => some b ∈ hs.map hblk) w L (fun i => if 1000000 ≤ i then (hs[i - 1000000]?).bind hblk else none) (initG args hs) (tmOf { tmps := vals.toArray ++ Array.replicate k undef, defers := [] }) := by
  refine ⟨GrownS.refl w _, hlok, hgl, fun _ _ _ _ => Iff.rfl, fun i => ?_, fun i j g hi hj => ?_, fun i g hi => ?_⟩
  · simp only [initG]
    by_cases hi : 1000000 ≤ i
    · simp only [hi, if_true]
      cases hx : hs[i - 1000000]? with
      | none => simp [RA, RC]
      | some x =>
        obtain ⟨h1, h2⟩ := hh x (List.mem_of_getElem? hx)
        simp only [Option.bind_some]
        cases x <;> simp [isH] at h1 <;> exact h2
    · simp only [hi, if_false]
      cases hx : args[i]? with
      | none => simp [RA, RC]
      | some x =>
        obtain ⟨v, hv, hr⟩ := h.get hx
        have htm : tmOf { tmps := vals.toArray ++ Array.replicate k undef, defers := [] } i = v := by
          have hl : i < vals.length := (List.getElem?_eq_some_iff.1 hv).1
          simp only [tmOf, Array.getD_eq_getD_getElem?]
          rw [Array.getElem?_append_left (by simpa using hl)]
          simp [hv]
        rw [htm]
        have ha := List.all_eq_true.1 harg x (List.mem_of_getElem? hx)
        cases x <;> simp [isDA] at ha
        exact hr
  · have key : ∀ (l : List (Option Nat)), apartB l → ∀ (i j g : Nat), l[i]? = some (some g) → l[j]? = some (some g) → i = j := by
      intro l
      induction l with
      | nil => intro _ i j g h; simp at h
      | cons x xs ih =>
        intro ha i j g h1 h2
        cases i <;> cases j
        · rfl
        · simp only [List.getElem?_cons_zero, List.getElem?_cons_succ, Option.some.injEq] at h1 h2
          exact absurd (List.mem_of_getElem? h2) (ha.1 g h1)
        · simp only [List.getElem?_cons_zero, List.getElem?_cons_succ, Option.some.injEq] at h1 h2
          exact absurd (List.mem_of_getElem? h1) (ha.1 g h2)
        · simp only [List.getElem?_cons_succ] at h1 h2
          rw [ih ha.2 _ _ g h1 h2]
    split at hi
    · split at hj
      · have conv : ∀ i, (hs[i - 1000000]?).bind hblk = some g → (hs.map hblk)[i - 1000000]? = some (some g) := by
          intro i h
          rw [List.getElem?_map]
          cases hx : hs[i - 1000000]? with
          | none => rw [hx] at h; cases h
          | some x => rw [hx] at h; simpa using h
        have := key _ hap _ _ g (conv i hi) (conv j hj)
        omega
      · cases hj
    · cases hi
  · split at hi
    · cases hx : hs[i - 1000000]? with
      | none => rw [hx] at hi; cases hi
      | some x =>
        rw [hx] at hi
        simp only [Option.bind_some] at hi
        have hm := List.mem_of_getElem? hx
        exact ⟨hblt x hm g hi, .inr (List.mem_map.2 ⟨x, hm, hi⟩)⟩
    · cases hi

theorem RH.lt {x : AV} (h : RH P w L x) {g : Nat} (hg : hblk x = some g) : g < w.heap.size := by
  obtain ⟨h1, h2⟩ := h
  cases x <;> simp [isH] at h1
  case hs u e l =>
    obtain ⟨css, sz, f1, f2, f3, f4, f5⟩ : OwnR P w L (hblk (.hs u e l)) true e l u := h2
    rcases f4.2 with ⟨hv, _⟩ | ⟨g', cap, cur, hv, hh, _⟩
    · subst hv; simp [hblk, Value.ownBlock] at hg
    · subst hv
      obtain rfl : g' = g := by simpa [hblk, Value.ownBlock] using hg
      exact (Array.getElem?_eq_some_iff.1 hh).1
  case hb u e y =>
    obtain ⟨g', C, e1, e2, e3, _⟩ : BoxT w L (hblk (.hb u e y)) e y u := h2
    rw [hg] at e1
    obtain rfl : g = g' := by simpa using e1
    exact (Array.getElem?_eq_some_iff.1 e3).1

theorem fn_of_vwpG {f : FuncId} {fn : Func} {c : Code} {args hs : List AV} {t : Nat} {Post : AV → List AV → Prop} (F : Nat → Bool) (hm : P.follows .mixedOrders = true) (hf : P.funcs[f]? = some fn) (hname : (fn.name == "runtime.NumGoroutine") = false) (hb : fn.body = some c) (hres : fn.results = #[.tmp t])
    (hargs : args.length ≤ fn.ntmps) (hok : okDst F fn.ntmps c = true) (harg : (args.all isDA) = true)
    (h : vwp P F c (EndG t Post) (initG args hs)) : CtrG P f args hs Post := by
  refine ⟨enters_of hf hname hb, fun w L vals hlok hgl hrc hh hap => ?_⟩
  have hl := hrc.length
  refine calls_of_wp hf hb (wp_mono (vwp_ok (n := fn.ntmps) hm c _ _ w hok ⟨L, _, initG args hs, initG_rel hlok hgl hrc harg hh hap (fun x hx g hg => (hh x hx).lt hg), rfl, ?_, h⟩) ?_)
  · simp; omega
  · rintro e a' w' ⟨L', O', σ', hR, hdef, hsz, he, r, ks, hnd, hks, hr, hpost⟩
    have hks' : ∀ k ∈ ks, RH P w' L' (σ' k) ∧ ∀ g, hblk (σ' k) = some g → O' k = some g := by
      intro k hk
      have hs := hR.slots k
      have hH := hks k hk
      have hrc : RC P w' L' (O' k) (σ' k) (tmOf a' k) := by
        cases hx : σ' k <;> rw [hx] at hs hH <;> simp [isH] at hH <;> exact hs
      exact hrc.self hH
    obtain ⟨og, o1, o2, o3⟩ : ∃ og, RC P w' L' og r (tmOf a' t) ∧ (∀ g, og = some g → ∃ j, O' j = some g ∧ isH (σ' j) = false) ∧ True := by
      have hs := hR.slots t
      unfold ResG at hr
      cases hx : σ' t <;> rw [hx] at hr hs
      case d y => subst hr; exact ⟨none, hs, by simp, trivial⟩
      case nils => subst hr; refine ⟨none, ?_, by simp, trivial⟩; simp only [RC]; rw [show tmOf a' t = .slice none 0 0 from hs]; exact nil_rep
      case own m e l => subst hr; exact ⟨O' t, hs, fun g hg => ⟨t, hg, by rw [hx]; rfl⟩, trivial⟩
      case bor j m e l =>
        subst hr
        obtain ⟨h2, h3⟩ := hs
        have h4 := hR.slots j
        rw [h2] at h4
        exact ⟨O' j, by rw [h3]; exact h4, fun g hg => ⟨j, hg, by rw [h2]; rfl⟩, trivial⟩
      case tup l =>
        cases l with
        | nil => subst hr; obtain ⟨vs, h1, h2⟩ := hs; exact ⟨none, by simp only [RC]; exact ⟨vs, h1, by simp only [RCs] at h2 ⊢; exact h2⟩, by simp, trivial⟩
        | cons x l => exact hr.elim
      all_goals exact hr.elim
    have hmap : ∀ g, some g ∈ (ks.map σ').map hblk → ∃ k ∈ ks, O' k = some g := by
      intro g hg
      simp only [List.map_map, List.mem_map, Function.comp_apply] at hg
      obtain ⟨k, hk, hg⟩ := hg
      exact ⟨k, hk, (hks' k hk).2 g hg⟩
    have hapart : ∀ (l : List Nat), l.Nodup → (∀ k ∈ l, ∀ g, hblk (σ' k) = some g → O' k = some g) → apartB ((l.map σ').map hblk) := by
      intro l
      induction l with
      | nil => intro _ _; trivial
      | cons k l ih =>
        intro hn ho
        rw [List.nodup_cons] at hn
        refine ⟨fun g hg hm => ?_, ih hn.2 (fun k hk => ho k (by simp [hk]))⟩
        simp only [List.map_map, List.mem_map, Function.comp_apply] at hm
        obtain ⟨k', hk', hg'⟩ := hm
        have e1 := ho k (by simp) g hg
        have e2 := ho k' (by simp [hk']) g hg'
        exact hn.1 (by rw [hR.inj k k' g e1 e2]; exact hk')
    have hfin : a'.defers = [] ∧ ∃ v, (results fn a'.tmps).run P w' = .ok v w' ∧ (∃ v' L' og r hs', Ending.returned v = .returned v' ∧ GrownS w w' (fun b => some b ∈ hs.map hblk) ∧ (∀ b q, L' b q → b < w'.heap.size) ∧ (∀ b q, b < w.heap.size → some b ∉ hs.map hblk → (L' b q ↔ L b q)) ∧
      (∀ g, some g ∈ og :: hs'.map hblk → g < w'.heap.size ∧ (w.heap.size ≤ g ∨ some g ∈ hs.map hblk)) ∧ apartB (og :: hs'.map hblk) ∧ RC P w' L' og r v' ∧ (∀ x ∈ hs', RH P w' L' x) ∧ Post r hs') := by
      refine ⟨hdef, _, results_tmp hres _ _ _, _, L', og, r, ks.map σ', rfl, hR.grown, hR.lok, hR.old, fun g hg => ?_, ⟨fun g hg hm => ?_, hapart ks hnd (fun k hk => (hks' k hk).2)⟩, o1, fun x hx => ?_, hpost⟩
      · rcases List.mem_cons.1 hg with hg | hg
        · obtain ⟨j, hj, _⟩ := o2 g hg.symm
          exact hR.olt j g hj
        · obtain ⟨k, _, hk⟩ := hmap g hg
          exact hR.olt k g hk
      · obtain ⟨j, hj, hjH⟩ := o2 g hg
        obtain ⟨k, hkm, hk⟩ := hmap g hm
        have := hks k hkm
        rw [hR.inj k j g hk hj] at this
        rw [hjH] at this; cases this
      · obtain ⟨k, hk, rfl⟩ := List.mem_map.1 hx
        exact (hks' k hk).1
    rcases he with rfl | rfl
    · exact hfin
    · exact hfin
end Go.Vw
