/-
  The abstract walk through a translated function, part 4 of 4: its data, its operations, and that it is sound, for every program. No conditions beyond those that each theorem states.
-/import Derived.Test.YtidpnpjebanalaaGreatDoorWc
set_option linter.unusedSimpArgs false
set_option linter.unusedVariables false
namespace Go.Vw
open Go.RowKit Go.Proofs
variable {P : Program} {F : Nat → Bool} {w0 : World} {L0 : Nat → Nat → Prop} {row : Nat → Prop} {n : Nat} {K : St → Prop} {Q : Exit → Act → World → Prop}
  {w w' : World} {L L' : Nat → Nat → Prop} {O O' : Nat → Option Nat} {σ σ' : St} {a : Act} {o : Oper} {d : Nat} {v : Value} {tm : Nat → Value}
  {ops : Array Oper} {ds : List Nat}
def lowV (x : AV) : Bool := match refV x with
  | some j => decide (j < 1000000)
  | none => true
def rawV : AV → Bool
  | .d (.raw _) => true
  | _ => false
def calmX (σ : St) : Operand → Bool
  | .tmp t => decide (t < 1000000) && (lowV (σ t) && (match refV (aval σ (.tmp t)) with
    | some j => decide (j < 1000000) && lowV (σ j)
    | none => true))
  | _ => true
def calmB (σ : St) : Op → Bool
  | .move x => calmX σ x
  | .assign x => calmX σ x
  | .pick c x y => calmX σ c && (calmX σ x && calmX σ y)
  | .load _ x => calmX σ x
  | .fieldAddr _ x _ => calmX σ x && !rawV (aval σ x)
  | .indexAddr _ x i => calmX σ x && (calmX σ i && !rawV (aval σ x))
  | .binOp _ _ x y _ => calmX σ x && calmX σ y
  | .unOp _ _ x => calmX σ x
  | .extract x _ => calmX σ x
  | .call c => (c.args.toList.all fun x => calmX σ x) && (match c.callee with
    | .value f => calmX σ f
    | .builtin _ => c.args.toList.all fun x => !rawV (aval σ x)
    | _ => false)
  | _ => false
def Agr1 (xs : List Operand) (σ σ' : St) : Prop := ∀ x ∈ xs, (∀ t, x = .tmp t → σ t = σ' t) ∧ ∀ j, refV (aval σ x) = some j → σ j = σ' j
theorem Agr.one {xs : List Operand} (h : Agr xs σ σ') : Agr1 xs σ σ' := h.1
theorem Agr1.aval {xs : List Operand} (h : Agr1 xs σ σ') {x : Operand} (hx : x ∈ xs) : Vw.aval σ x = Vw.aval σ' x := by
  cases x with
  | tmp t => simp only [Vw.aval, (h _ hx).1 t rfl]
  | const v => rfl
  | func f => rfl
  | global g => rfl
theorem Agr1.deref {xs : List Operand} (h : Agr1 xs σ σ') {x : Operand} (hx : x ∈ xs) : Vw.deref σ (Vw.aval σ x) = Vw.deref σ' (Vw.aval σ' x) := by
  have h2 := (h x hx).2; rw [← h.aval hx]; cases hv : Vw.aval σ x <;> rw [hv] at h2
  case d z => cases z <;> rfl
  case adr j p => simp only [Vw.deref, h2 j rfl]
  case eadr j i p => simp only [Vw.deref, h2 j rfl]
  all_goals rfl
theorem Agr1.args {xs : List Operand} (h : Agr1 xs σ σ') : ∀ {ys : List Operand}, (∀ y ∈ ys, y ∈ xs) → argsA σ ys = argsA σ' ys ∧ eaten σ ys = eaten σ' ys
  | [], _ => ⟨rfl, rfl⟩
  | y :: ys, hy => by
    have h1 := h.aval (hy y (by simp)); have h2 := h.args (ys := ys) (fun z hz => hy z (List.mem_cons_of_mem _ hz)); simp only [argsA, argA, eaten, h1, h2.1, h2.2, and_self]
theorem Agr1.lends {xs : List Operand} (h : Agr1 xs σ σ') : ∀ {ys : List Operand}, (∀ y ∈ ys, y ∈ xs) → lendsA σ ys = lendsA σ' ys
  | [], _ => rfl
  | y :: ys, hy => by
    have h1 := h.aval (hy y (by simp)); have h2 := h.lends (ys := ys) (fun z hz => hy z (List.mem_cons_of_mem _ hz)); simp only [lendsA, lendA, h1, h2]
theorem Agr1.plain {xs : List Operand} (h : Agr1 xs σ σ') : ∀ {ys : List Operand}, (∀ y ∈ ys, y ∈ xs) → plainA σ ys = plainA σ' ys
  | [], _ => rfl
  | y :: ys, hy => by
    have h1 := h.aval (hy y (by simp)); have h2 := h.plain (ys := ys) (fun z hz => hy z (List.mem_cons_of_mem _ hz)); simp only [plainA, h1, h2]
theorem calmX_agr {xs : List Operand} (h : Agr1 xs σ σ') {x : Operand} (hx : x ∈ xs) : calmX σ x = calmX σ' x := by
  cases x with
  | tmp t =>
    have h1 := (h _ hx).1 t rfl; have h2 := h.aval hx; have h3 := (h _ hx).2; simp only [calmX, ← h1, ← h2]; cases hr : refV (Vw.aval σ (.tmp t)) with
    | none => rfl
    | some j => simp only [← h3 j hr]
  | const v => rfl
  | func f => rfl
  | global g => rfl
theorem calmB_agr {op : Op} (h : Agr1 op.operands.toList σ σ') : calmB σ op = calmB σ' op := by
  unfold calmB; split <;> try rfl
  · rw [calmX_agr h (by simp [Op.operands])]
  · rw [calmX_agr h (by simp [Op.operands])]
  · rename_i c x y
    rw [calmX_agr h (x := c) (by simp [Op.operands]), calmX_agr h (x := x) (by simp [Op.operands]), calmX_agr h (x := y) (by simp [Op.operands])]
  · rw [calmX_agr h (by simp [Op.operands])]
  · rename_i x f
    rw [calmX_agr h (x := x) (by simp [Op.operands]), h.aval (x := x) (by simp [Op.operands])]
  · rename_i x i
    rw [calmX_agr h (x := x) (by simp [Op.operands]), calmX_agr h (x := i) (by simp [Op.operands]), h.aval (x := x) (by simp [Op.operands])]
  · rename_i x y t
    rw [calmX_agr h (x := x) (by simp [Op.operands]), calmX_agr h (x := y) (by simp [Op.operands])]
  · rw [calmX_agr h (by simp [Op.operands])]
  · rw [calmX_agr h (by simp [Op.operands])]
  · rename_i c
    have h1 : ∀ x ∈ c.args.toList, x ∈ (Op.call c).operands.toList := fun y hy => by simp only [Op.operands, Call.operands, Array.toList_append, List.mem_append]; exact .inr hy
    have e1 : (c.args.toList.all fun x => calmX σ x) = c.args.toList.all fun x => calmX σ' x := by
      rw [Bool.eq_iff_iff, List.all_eq_true, List.all_eq_true]; exact ⟨fun q x hx => by rw [← calmX_agr h (h1 x hx)]; exact q x hx, fun q x hx => by rw [calmX_agr h (h1 x hx)]; exact q x hx⟩
    have e2 : (c.args.toList.all fun x => !rawV (aval σ x)) = c.args.toList.all fun x => !rawV (aval σ' x) := by
      rw [Bool.eq_iff_iff, List.all_eq_true, List.all_eq_true]; exact ⟨fun q x hx => by rw [← h.aval (h1 x hx)]; exact q x hx, fun q x hx => by rw [h.aval (h1 x hx)]; exact q x hx⟩
    rw [e1, e2]; cases hc : c.callee with
    | value f =>
      have := calmX_agr h (x := f) (by simp [Op.operands, Call.operands, hc]); simp only [this]
    | builtin b => rfl
    | invoke x m => rfl
theorem pureE_calm {op : Op} {C : AV → Prop} (ha : Agr1 op.operands.toList σ σ') (hcalm : calmB σ op = true) (h : pureE P F op d σ C) : pureE P F op d σ' C := by
  unfold pureE at h ⊢; split at h
  · rename_i x
    have hx := ha.aval (x := x) (by simp [Op.operands]); unfold pMove at h ⊢; split at h
    · rename_i t
      have ht := (ha (.tmp t) (by simp [Op.operands])).1 t rfl; rw [← ht, ← hx]; exact h
    · exact h.elim
    · rw [← hx]; exact h
  · rename_i x
    have hx := ha.aval (x := x) (by simp [Op.operands]); unfold pMove at h ⊢; split at h
    · rename_i t
      have ht := (ha (.tmp t) (by simp [Op.operands])).1 t rfl; rw [← ht, ← hx]; exact h
    · exact h.elim
    · rw [← hx]; exact h
  · rename_i c x y
    rw [← ha.aval (x := c) (by simp [Op.operands]), ← ha.aval (x := x) (by simp [Op.operands]), ← ha.aval (x := y) (by simp [Op.operands])]; exact h
  · rename_i t x
    have hx : derefO P σ x = derefO P σ' x := by
      have h1 := ha.deref (x := x) (by simp [Op.operands]); cases x with
      | global g => rfl
      | _ => exact h1
    rw [← hx]; exact h
  · simp [calmB] at hcalm
  · simp [calmB] at hcalm
  · simp [calmB] at hcalm
  · rename_i s x f
    have hx := ha.aval (x := x) (by simp [Op.operands]); have hr := (ha x (by simp [Op.operands])).2; simp only [calmB, Bool.and_eq_true, Bool.not_eq_true'] at hcalm; unfold pFieldAddr at h ⊢; rw [← hx]; split at h
    · exact h
    · rename_i u hv; rw [hv] at hcalm; simp [rawV] at hcalm
    · rename_i j p hv; rw [hv] at hr; simp only [← hr j rfl]; exact h
    · rename_i j i p hv; rw [hv] at hr; simp only [← hr j rfl]; exact h
    · exact h.elim
  · rename_i t x i
    have hx := ha.aval (x := x) (by simp [Op.operands]); have hi := ha.aval (x := i) (by simp [Op.operands]); simp only [calmB, Bool.and_eq_true, Bool.not_eq_true'] at hcalm; unfold pIndexAddr at h ⊢; rw [← hx, ← hi]; refine bindO_imp h fun e h => ?_
    split at h
    · obtain ⟨h0, h⟩ := h; refine ⟨h0, ?_⟩; split at h
      · exact h
      · rename_i u hv; rw [hv] at hcalm; simp [rawV] at hcalm
      · rename_i j lo hv
        have hr := (ha x (by simp [Op.operands])).2; rw [hv] at hr; simp only [← hr j rfl]; exact h
      · exact h
    · exact h.elim
  · simp [calmB] at hcalm
  · simp [calmB] at hcalm
  · rename_i op t x y t'
    rw [← ha.aval (x := x) (by simp [Op.operands]), ← ha.aval (x := y) (by simp [Op.operands])]; exact h
  · rename_i t x
    rw [← ha.aval (x := x) (by simp [Op.operands])]; exact h
  · simp [calmB] at hcalm
  · rename_i x i
    unfold pExtract at h ⊢; split at h
    · rename_i t
      have ht := (ha (.tmp t) (by simp [Op.operands])).1 t rfl; rw [← ht]; exact h
    · exact h.elim
  · rename_i c
    simp only [calmB, Bool.and_eq_true] at hcalm; unfold pCall at h ⊢; split at h
    · rename_i x t hc hx ht
      have hraw := hcalm.2; rw [hc] at hraw; simp only [hx, List.all_cons, List.all_nil, Bool.and_true, Bool.not_eq_true'] at hraw; rw [← ha.aval (x := x) (by simp [Op.operands, Call.operands, hx])]; split at h
      · exact h
      · exact h
      · split at h
        · rename_i u hv; rw [hv] at hraw; simp [rawV] at hraw
        · exact h.elim
      · exact h.elim
    · rename_i f hc
      have hf := ha.aval (x := f) (by simp [Op.operands, Call.operands, hc]); have hxs := ha.args (ys := c.args.toList) (fun y hy => by simp only [Op.operands, Call.operands, Array.toList_append, List.mem_append]; exact .inr hy); have hls := ha.lends (ys := c.args.toList) (fun y hy => by simp only [Op.operands, Call.operands, Array.toList_append, List.mem_append]; exact .inr hy); rw [← hf, ← hxs.1, ← hxs.2, ← hls]; exact h
    · exact h.elim
  · simp [calmB] at hcalm
  · exact h.elim
theorem calm_all {op : Op} (h : calmB σ op = true) : ∀ x ∈ op.operands.toList, calmX σ x = true := by
  intro y hy; unfold calmB at h; split at h
  · simp only [Op.operands, List.mem_singleton] at hy; rw [hy]; exact h
  · simp only [Op.operands, List.mem_singleton] at hy; rw [hy]; exact h
  · simp only [Bool.and_eq_true] at h; simp only [Op.operands, List.mem_cons, List.not_mem_nil, or_false] at hy; rcases hy with rfl | rfl | rfl
    · exact h.1
    · exact h.2.1
    · exact h.2.2
  · simp only [Op.operands, List.mem_singleton] at hy; rw [hy]; exact h
  · simp only [Bool.and_eq_true] at h; simp only [Op.operands, List.mem_singleton] at hy; rw [hy]; exact h.1
  · simp only [Bool.and_eq_true] at h; simp only [Op.operands, List.mem_cons, List.not_mem_nil, or_false] at hy; rcases hy with rfl | rfl
    · exact h.1
    · exact h.2.1
  · simp only [Bool.and_eq_true] at h; simp only [Op.operands, List.mem_cons, List.not_mem_nil, or_false] at hy; rcases hy with rfl | rfl
    · exact h.1
    · exact h.2
  · simp only [Op.operands, List.mem_singleton] at hy; rw [hy]; exact h
  · simp only [Op.operands, List.mem_singleton] at hy; rw [hy]; exact h
  · rename_i c
    simp only [Bool.and_eq_true, List.all_eq_true] at h; simp only [Op.operands, Call.operands, Array.toList_append, List.mem_append] at hy; rcases hy with hy | hy
    · cases hc : c.callee with
      | value f =>
        rw [hc] at h hy; simp only [List.mem_singleton] at hy; rw [hy]; exact h.2
      | builtin b => rw [hc] at hy; simp at hy
      | invoke x m => rw [hc] at h; exact absurd h.2 (by simp)
    · exact h.1 y hy
  · cases h
theorem low_kill {x : AV} (h : lowV x = true) (k : Nat) (hk : 1000000 ≤ k) : kill k x = x := kill_same fun e => by
  simp only [lowV, e, decide_eq_true_eq] at h; omega
theorem putH_keep : ∀ (hs : List AV) (ks : List Nat) (b : Nat) (τ : St) (i : Nat), (∀ k ∈ ks, 1000000 ≤ k) → 1000000 ≤ b → i < 1000000 → (∀ k, 1000000 ≤ k → kill k (τ i) = τ i) → putH τ ks b hs i = τ i
  | [], ks, b, τ, i, _, _, _, _ => by cases ks <;> rfl
  | x :: xs, k :: ks, b, τ, i, hks, hb, hi, hk => by
    have hk1 := hks k (by simp); have e : put τ k x i = τ i := by simp only [put, if_neg (show ¬ i = k by omega)]; exact hk k hk1
    rw [putH, putH_keep xs ks b _ i (fun q hq => hks q (by simp [hq])) hb hi (by rw [e]; exact hk), e]
  | x :: xs, [], b, τ, i, hks, hb, hi, hk => by
    have e : put τ b x i = τ i := by simp only [put, if_neg (show ¬ i = b by omega)]; exact hk b hb
    rw [putH, putH_keep xs [] (b + 1) _ i (by simp) (by omega) hi (by rw [e]; exact hk), e]
theorem takeH_keep : ∀ (ks : List Nat) (τ : St) (i : Nat), (∀ k ∈ ks, 1000000 ≤ k) → i < 1000000 → (∀ k, 1000000 ≤ k → kill k (τ i) = τ i) → takeH τ ks i = τ i
  | [], _, _, _, _, _ => rfl
  | k :: ks, τ, i, hks, hi, hk => by
    have hk1 := hks k (by simp); have e : put τ k .undef i = τ i := by simp only [put, if_neg (show ¬ i = k by omega)]; exact hk k hk1
    rw [takeH, takeH_keep ks _ i (fun q hq => hks q (by simp [hq])) hi (by rw [e]; exact hk), e]
def afterG (σ : St) (ks : List Nat) (d : Nat) (r : AV) (b : Nat) (hs : List AV) : St := putH (put (takeH σ ks) d r) ks b hs
theorem after_keep {ks : List Nat} {r : AV} {b : Nat} {hs : List AV} (hks : ∀ k ∈ ks, 1000000 ≤ k) (hb : 1000000 ≤ b) {i : Nat} (hi : i < 1000000) (hid : i ≠ d) (hl : lowV (σ i) = true) (hr : refV (σ i) ≠ some d) : afterG σ ks d r b hs i = σ i := by
  have h1 := takeH_keep ks σ i hks hi (fun k hk => low_kill hl k hk); have h2 : put (takeH σ ks) d r i = σ i := by simp only [put, if_neg hid, h1]; exact kill_same hr
  unfold afterG; rw [putH_keep hs ks b _ i hks hb hi (by rw [h2]; exact fun k hk => low_kill hl k hk), h2]
theorem put_setv_comm {di k : Nat} {x y : AV} (hne : di ≠ k) (hk : kill k x = x) : put (setv σ di x) k y = setv (put σ k y) di x := by
  funext i
  simp only [put, setv]; by_cases h1 : i = k
  · subst h1; simp [show ¬ i = di from fun e => hne e.symm]
  · by_cases h2 : i = di
    · subst h2; simp [hne, hk]
    · simp [h1, h2]
theorem takeH_setv {di : Nat} {x : AV} (hi : di < 1000000) (hk : ∀ k, 1000000 ≤ k → kill k x = x) : ∀ (ks : List Nat) (τ : St), (∀ k ∈ ks, 1000000 ≤ k) → takeH (setv τ di x) ks = setv (takeH τ ks) di x
  | [], _, _ => rfl
  | k :: ks, τ, hks => by
    have hk1 := hks k (by simp); rw [takeH, put_setv_comm (by omega) (hk k hk1), takeH_setv hi hk ks _ (fun q hq => hks q (by simp [hq]))]; rfl
theorem putH_setv {di : Nat} {x : AV} (hi : di < 1000000) (hk : ∀ k, 1000000 ≤ k → kill k x = x) : ∀ (hs : List AV) (ks : List Nat) (b : Nat) (τ : St), (∀ k ∈ ks, 1000000 ≤ k) → 1000000 ≤ b → putH (setv τ di x) ks b hs = setv (putH τ ks b hs) di x
  | [], ks, b, τ, _, _ => by cases ks <;> rfl
  | y :: ys, k :: ks, b, τ, hks, hb => by
    have hk1 := hks k (by simp); rw [putH, put_setv_comm (by omega) (hk k hk1), putH_setv hi hk ys ks b _ (fun q hq => hks q (by simp [hq])) hb]; rfl
  | y :: ys, [], b, τ, hks, hb => by
    rw [putH, put_setv_comm (by omega) (hk b hb), putH_setv hi hk ys [] (b + 1) _ (by simp) (by omega)]; rfl
theorem after_setv {di : Nat} {x : AV} {ks : List Nat} {r : AV} {b : Nat} {hs : List AV} (hks : ∀ k ∈ ks, 1000000 ≤ k) (hb : 1000000 ≤ b) (hi : di < 1000000) (hne : di ≠ d) (hl : lowV x = true) (hr : refV x ≠ some d) : afterG (setv σ di x) ks d r b hs = setv (afterG σ ks d r b hs) di x := by
  unfold afterG; rw [takeH_setv hi (fun k hk => low_kill hl k hk) ks σ hks, put_setv_comm hne (kill_same hr), putH_setv hi (fun k hk => low_kill hl k hk) hs ks b _ hks hb]
theorem refB_put {k : Nat} {x : AV} (hx : refB ds x = true) (h : ∀ t, refB ds (σ t) = true) : ∀ t, refB ds (put σ k x t) = true := by
  have key : ∀ y : AV, refB ds y = true → refB ds (kill k y) = true := fun y hy => by
    cases y with
    | bor j m e l => simp only [kill]; split
                     · cases m <;> rfl
                     · exact hy
    | adr j p => simp only [kill]; split
                 · rfl
                 · exact hy
    | eadr j i p => simp only [kill]; split
                    · rfl
                    · exact hy
    | sub j i => simp only [kill]; split
                 · rfl
                 · exact hy
    | _ => exact hy
  intro t; simp only [put]; split
  · exact key _ hx
  · exact key _ (h t)
theorem refB_take : ∀ (ks : List Nat) {σ : St}, (∀ t, refB ds (σ t) = true) → ∀ t, refB ds (takeH σ ks t) = true
  | [], _, h => h
  | k :: ks, _, h => refB_take ks (refB_put rfl h)
theorem refB_putH : ∀ (hs : List AV) (ks : List Nat) (b : Nat) {σ : St}, (hs.all (refB ds)) = true → (∀ t, refB ds (σ t) = true) → ∀ t, refB ds (putH σ ks b hs t) = true
  | [], ks, b, _, _, h => by cases ks <;> exact h
  | x :: xs, k :: ks, b, _, hx, h => by
    simp only [List.all_cons, Bool.and_eq_true] at hx; exact refB_putH xs ks b hx.2 (refB_put hx.1 h)
  | x :: xs, [], b, _, hx, h => by
    simp only [List.all_cons, Bool.and_eq_true] at hx; exact refB_putH xs [] (b + 1) hx.2 (refB_put hx.1 h)
theorem INV.after {ks : List Nat} {r : AV} {b : Nat} {hs : List AV} (hI : INV ds σ) (h : (r :: hs).all (refB ds) = true) : INV ds (afterG σ ks d r b hs) := by
  simp only [List.all_cons, Bool.and_eq_true] at h; exact ⟨refB_putH hs ks b h.2 (refB_put h.1 (refB_take ks hI.1)), hI.2⟩
theorem agr_after {xs : List Operand} {ks : List Nat} {r : AV} {b : Nat} {hs : List AV} (hks : ∀ k ∈ ks, 1000000 ≤ k) (hb : 1000000 ≤ b) (hI : INV ds σ) (hd : d ∈ ds) (hc : ∀ x ∈ xs, calmX σ x = true) (hne : ∀ t, Operand.tmp t ∈ xs → t ≠ d) : Agr1 xs σ (afterG σ ks d r b hs) := by
  intro x hx; have hcx := hc x hx; refine ⟨fun t ht => ?_, fun j hj => ?_⟩
  · subst ht; simp only [calmX, Bool.and_eq_true, decide_eq_true_eq] at hcx; exact (after_keep hks hb hcx.1 (hne t hx) hcx.2.1 (fun e => refB_ne (hI.1 t) e hd)).symm
  · cases x with
    | tmp t =>
      simp only [calmX, Bool.and_eq_true, decide_eq_true_eq, hj] at hcx; have hjd : j ≠ d := by
        rintro rfl; have h1 := hI.1 t; simp only [aval] at hj; cases hs' : σ t <;> rw [hs'] at hj h1 <;> simp only [rd, refV, Option.some.injEq] at hj
        case own => exact hne t hx hj
        case box => exact hne t hx hj
        case bor => subst hj; exact refB_ne h1 rfl hd
        case adr => subst hj; exact refB_ne h1 rfl hd
        case eadr => subst hj; exact refB_ne h1 rfl hd
        case sub => subst hj; exact refB_ne h1 rfl hd
        all_goals cases hj
      exact (after_keep hks hb hcx.2.2.1 hjd hcx.2.2.2 (fun e => refB_ne (hI.1 j) e hd)).symm
    | const v =>
      simp only [aval] at hj; unfold cval at hj; split at hj <;> simp [refV] at hj
    | func f => simp [aval, refV] at hj
    | global g => simp [aval, refV] at hj
def namedG (F : Nat → Bool) (o : Oper) : Option (Nat × FuncId × List Operand) :=
  match o.dst, o.op with
  | some d, .call { callee := .value (.func g), args, argTypes := _ } => if F (d + 5000000) && !F (d + 2000000) && !F (d + 3000000) && !F (d + 4000000) then some (d, g, args.toList) else none
  | _, _ => none
def GivF (P : Program) (ds : List Nat) (g : FuncId) (args : List AV) (σ : St) (d : Nat) (K : St → Prop) : Prop :=
  ∃ ks b Post, (∀ k ∈ ks, 1000000 ≤ k) ∧ 1000000 ≤ b ∧ (∀ k ∈ ks, isH (σ k) = true) ∧ ks.Nodup ∧ CtrG P g args (ks.map σ) Post ∧ ∀ r hs', Post r hs' → (r :: hs').all (refB ds) = true ∧ K (afterG σ ks d r b hs')
def CV (P : Program) (F : Nat → Bool) (ops : Array Oper) (ds : List Nat) (o : Oper) (K : St → Prop) (σ : St) : Prop :=
  ∃ d g xs xa, namedG F o = some (d, g, xs) ∧ d ∈ ds ∧ wantV ops o σ = some true ∧ plainA σ xs = some xa ∧ GivF P ds g xa σ d K
def DV (P : Program) (F : Nat → Bool) (ops : Array Oper) (ds : List Nat) (o : Oper) (d : Nat) (σ : St) (x : AV) : Prop :=
  YV P F ops ds o d σ x ∧ lowV x = true ∧ (wantV ops o σ = some true → calmB σ o.op = true)
def fOp (P : Program) (F : Nat → Bool) (ops : Array Oper) (ds : List Nat) (i : Nat) (K : St → Prop) (σ : St) : Prop :=
  match ops[i]? with
  | none => K σ
  | some o => (∃ d x, DV P F ops ds o d σ x ∧ K (setv σ d x)) ∨ CV P F ops ds o K σ
theorem GivF.mono {g : FuncId} {args : List AV} {K K' : St → Prop} (h : ∀ σ, K σ → K' σ) (hh : GivF P ds g args σ d K) : GivF P ds g args σ d K' := by
  obtain ⟨ks, b, Post, h1, h2, h3, h4, h5, h6⟩ := hh; exact ⟨ks, b, Post, h1, h2, h3, h4, h5, fun r hs' hp => ⟨(h6 r hs' hp).1, h _ (h6 r hs' hp).2⟩⟩
theorem fOp_mono {i : Nat} {K K' : St → Prop} (h : ∀ σ, K σ → K' σ) (hh : fOp P F ops ds i K σ) : fOp P F ops ds i K' σ := by
  unfold fOp at *; split at hh
  · exact h _ hh
  · rcases hh with ⟨d, x, h1, h2⟩ | ⟨d, g, xs, xa, h1, h2, h3, h4, h5⟩
    · exact .inl ⟨d, x, h1, h _ h2⟩
    · exact .inr ⟨d, g, xs, xa, h1, h2, h3, h4, h5.mono h⟩
theorem namedG_spec {g : FuncId} {xs : List Operand} (h : namedG F o = some (d, g, xs)) : o.dst = some d ∧ ∃ args ts, o.op = .call { callee := .value (.func g), args, argTypes := ts } ∧ args.toList = xs ∧ F (d + 5000000) = true ∧ F (d + 2000000) = false ∧ F (d + 3000000) = false ∧ F (d + 4000000) = false := by
  unfold namedG at h; split at h
  · rename_i d' g' args ts hd ho
    split at h
    · rename_i hc
      simp only [Option.some.injEq, Prod.mk.injEq] at h; obtain ⟨rfl, rfl, rfl⟩ := h; simp only [Bool.and_eq_true, Bool.not_eq_true'] at hc; exact ⟨hd, args, ts, ho, rfl, hc.1.1.1, hc.1.1.2, hc.1.2, hc.2⟩
    · cases h
  · cases h
theorem DV.back {x y : AV} {e : Nat} (hi : INV ds σ) (hd : d ∈ ds) (hk : d ∉ o.looksAt ops) (h : DV P F ops ds o e (setv σ d x) y) : DV P F ops ds o e σ y := by
  obtain ⟨h1, h2, h3⟩ := h; refine ⟨h1.back hi hd hk, h2, fun hw => ?_⟩; rw [← calmB_agr (agr_setv (x := x) hi hd hk).one]; exact h3 (by rw [wantV_same hk]; exact hw)
theorem DV.forth {x y : AV} {e : Nat} (hi : INV ds σ) (hd : d ∈ ds) (hk : d ∉ o.looksAt ops) (h : DV P F ops ds o e σ y) : DV P F ops ds o e (setv σ d x) y := by
  obtain ⟨h1, h2, h3⟩ := h; refine ⟨h1.forth hi hd hk, h2, fun hw => ?_⟩; rw [calmB_agr (agr_setv (x := x) hi hd hk).one]; exact h3 (by rw [wantV_same hk] at hw; exact hw)
theorem wantV_after {ks : List Nat} {r : AV} {b : Nat} {hs : List AV} {bb : Bool} (hall : ∀ o ∈ ops.toList, ∀ t, o.dst = some t → t ∈ ds) (hks : ∀ k ∈ ks, 1000000 ≤ k) (hb : 1000000 ≤ b) (hI : INV ds σ) (hk : d ∉ o.looksAt ops) (hw : wantV ops o σ = some bb) : wantV ops o (afterG σ ks d r b hs) = some bb := by
  unfold wantV at hw ⊢; cases hg : o.guard with
  | none => rw [hg] at hw; exact hw
  | some g =>
    obtain ⟨j, want⟩ := g; rw [hg] at hw; simp only at hw ⊢; cases ht : (ops[j]?).bind (·.dst) with
    | none => rw [ht] at hw; cases hw
    | some t =>
      rw [ht] at hw; simp only at hw ⊢; have htd : t ≠ d := by
        rintro rfl; exact hk (by simp [Oper.looksAt, hg, ht])
      have ht6 : t < 1000000 := by
        cases hoj : ops[j]? with
        | none => rw [hoj] at ht; cases ht
        | some oj =>
          rw [hoj] at ht; exact hI.2 t (hall oj (by rw [Array.mem_toList_iff]; exact Array.mem_of_getElem? hoj) t ht)
      have key : ∀ v, σ t = v → lowV v = true → refV v ≠ some d → afterG σ ks d r b hs t = v := fun v hv h1 h2 => by
        subst hv; exact after_keep hks hb ht6 htd h1 h2
      split at hw
      · rename_i c hc
        rw [key _ hc rfl (by simp [refV])]; exact hw
      · rename_i hc
        rw [key _ hc rfl (by simp [refV])]; exact hw
      · cases hw
theorem DV.after {ks : List Nat} {r y : AV} {b e : Nat} {hs : List AV} (hall : ∀ o ∈ ops.toList, ∀ t, o.dst = some t → t ∈ ds) (hks : ∀ k ∈ ks, 1000000 ≤ k) (hb : 1000000 ≤ b) (hI : INV ds σ) (hd : d ∈ ds) (hk : d ∉ o.looksAt ops) (h : DV P F ops ds o e σ y) : DV P F ops ds o e (afterG σ ks d r b hs) y := by
  obtain ⟨⟨h1, h2, h3, h4⟩, h5, h6⟩ := h; have hne : ∀ t, Operand.tmp t ∈ o.op.operands.toList → t ≠ d := fun t ht => by
    rintro rfl; exact hk (by simp only [Oper.looksAt, List.mem_append, List.mem_filterMap]; exact .inl ⟨_, ht, rfl⟩)
  rcases h4 with ⟨hw, hp⟩ | ⟨hw, hy⟩
  · have hA := agr_after (r := r) (hs := hs) hks hb hI hd (calm_all (h6 hw)) hne; exact ⟨⟨h1, h2, h3, .inl ⟨wantV_after hall hks hb hI hk hw, pureE_calm hA (h6 hw) hp⟩⟩, h5, fun _ => by rw [← calmB_agr hA]; exact h6 hw⟩
  · have hw' := wantV_after (r := r) (hs := hs) hall hks hb hI hk hw; exact ⟨⟨h1, h2, h3, .inr ⟨hw', hy⟩⟩, h5, fun q => by rw [hw'] at q; cases q⟩
theorem fOp_set {j di : Nat} {oi oj : Oper} {x : AV} (hall : ∀ o ∈ ops.toList, ∀ t, o.dst = some t → t ∈ ds) (hj : ops[j]? = some oj) (hap : oi.apart ops oj = true) (hi : INV ds σ) (hy : DV P F ops ds oi di σ x) {K : St → Prop} (h : fOp P F ops ds j K (setv σ di x)) :
    fOp P F ops ds j (fun σ' => INV ds σ' ∧ DV P F ops ds oi di σ' x ∧ K (setv σ' di x)) σ := by
  obtain ⟨h1, h2, h3⟩ := Oper.apart_spec hap; have hdi := hy.1.2.1; have hk := h1 di hy.1.1; unfold fOp at *; simp only [hj] at *; rcases h with ⟨dj, u, hu, hK⟩ | ⟨dj, g, xs, xa, g1, g2, g3, g4, ks, b, Post, g5, g6, g7, g8, g9, g10⟩
  · refine .inl ⟨dj, u, hu.back hi hdi hk, hi.setv hu.1.2.2.1, hy.forth hi hu.1.2.1 (h3 dj hu.1.1), ?_⟩; rw [← setv_comm (fun e => h2 di hy.1.1 (by rw [hu.1.1, e]))]; exact hK
  · obtain ⟨q1, args, ts, q2, q3, q4⟩ := namedG_spec g1; have hdi6 := hi.2 di hdi; have hmem : ∀ z ∈ xs, z ∈ oj.op.operands.toList := fun z hz => by
      rw [q2]; simp only [Op.operands, Call.operands, Array.toList_append, List.mem_append]; exact .inr (by rw [q3]; exact hz)
    have hA := (agr_setv (x := x) hi hdi hk).one; have hks : ∀ k ∈ ks, setv σ di x k = σ k := fun k hk' => by
      have := g5 k hk'; simp only [setv, if_neg (show ¬ k = di by omega)]
    have hne : di ≠ dj := fun e => h2 di hy.1.1 (by rw [q1, e])
    refine .inr ⟨dj, g, xs, xa, g1, g2, by rw [wantV_same hk] at g3; exact g3, by rw [← hA.plain hmem]; exact g4, ks, b, Post, g5, g6, fun k hk' => by rw [← hks k hk']; exact g7 k hk', g8, ?_, fun r hs' hp => ?_⟩
    · rw [← List.map_congr_left hks]; exact g9
    · obtain ⟨p1, p2⟩ := g10 r hs' hp; refine ⟨p1, hi.after p1, hy.after hall g5 g6 hi g2 (h3 dj q1), ?_⟩; rw [← after_setv g5 g6 hdi6 hne hy.2.1 (fun e => refB_ne hy.1.2.2.1 e g2)]; exact p2
def anyF (P : Program) (F : Nat → Bool) (ops : Array Oper) (ds : List Nat) (K : St → Prop) : Nat → Array Bool → St → Prop
  | 0, listed, σ => Region.ready .any ops listed = [] ∧ K σ
  | f + 1, listed, σ => Region.ready .any ops listed ≠ [] ∧ ∀ i ∈ Region.ready .any ops listed, fOp P F ops ds i (anyF P F ops ds K f (listed.setIfInBounds i true)) σ
theorem anyF_first {i di : Nat} {oi : Oper} {x : AV} (hall : ∀ o ∈ ops.toList, ∀ t, o.dst = some t → t ∈ ds) (hi : ops[i]? = some oi) :
    ∀ (f : Nat) (listed : Array Bool) (σ : St),
      (∀ j oj, ops[j]? = some oj → j ≠ i → listed.getD j true = false → (∀ e ∈ oj.after, Region.binds .any e = true → e.on ≠ i) → oi.apart ops oj = true) →
      i ∈ Region.ready .any ops listed → INV ds σ → DV P F ops ds oi di σ x →
      anyF P F ops ds K f (listed.setIfInBounds i true) (setv σ di x) → anyF P F ops ds K (f + 1) listed σ := by
  intro f
  induction f with
  | zero =>
    intro listed σ _ hr hI hy H; refine ⟨fun h => (by rw [h] at hr; cases hr), fun j hj => ?_⟩; by_cases hji : j = i
    · subst hji; unfold fOp; simp only [hi]; exact .inl ⟨di, x, hy, H⟩
    · have := ready_mono hj hji; rw [H.1] at this; cases this
  | succ f ih =>
    intro listed σ hfree hr hI hy H; have hun := (mem_ready.1 hr).1; refine ⟨fun h => (by rw [h] at hr; cases hr), fun j hj => ?_⟩; by_cases hji : j = i
    · subst hji; unfold fOp; simp only [hi]; exact .inl ⟨di, x, hy, H⟩
    · have h1 := H.2 j (ready_mono hj hji); obtain ⟨hjun, oj, hoj, hall'⟩ := mem_ready.1 hj; have hnot : ∀ e ∈ oj.after, Region.binds .any e = true → e.on ≠ i := fun e he hb heq => by
        have h1 := hall' e he hb; rw [heq, getD_both hun] at h1; cases h1
      have h2 := fOp_set hall hoj (hfree j oj hoj hji hjun hnot) hI hy h1; have hfree' : ∀ k ok, ops[k]? = some ok → k ≠ i → (listed.setIfInBounds j true).getD k true = false →
          (∀ e ∈ ok.after, Region.binds .any e = true → e.on ≠ i) → oi.apart ops ok = true := fun k ok hk hki hun hno => by
        refine hfree k ok hk hki ?_ hno; by_cases hjk : j = k
        · subst hjk; exact hjun
        · rw [getD_set_ne true hjk] at hun; exact hun
      refine fOp_mono (fun a' h3 => ih (listed.setIfInBounds j true) a' hfree' (ready_mono hr (Ne.symm hji)) h3.1 h3.2.1 ?_) h2; rw [Array.setIfInBounds_comm _ _ hji]; exact h3.2.2
def fact (P : Program) (F : Nat → Bool) (ds : List Nat) (o : Oper) (d : Nat) (K : St → Prop) (σ : St) : Prop :=
  match namedG F o with
  | some (_, g, xs) => bindO (plainA σ xs) fun xa => GivF P ds g xa σ d K
  | none => calmB σ o.op = true ∧ pureE P F o.op d σ fun x => (lowV x = true ∧ refB ds x = true) ∧ K (setv σ d x)
def gops (P : Program) (F : Nat → Bool) (ops : Array Oper) (ds : List Nat) : List Oper → (St → Prop) → St → Prop
  | [], K, σ => K σ
  | o :: rest, K, σ => bindO o.dst fun d => match o.guard with
    | none => fact P F ds o d (gops P F ops ds rest K) σ
    | some (j, want) => bindO ((ops[j]?).bind (·.dst)) fun t => (match σ t with
      | .d (.bool b) => (b = want → fact P F ds o d (gops P F ops ds rest K) σ) ∧ (b ≠ want → gops P F ops ds rest K (setv σ d (.tup [])))
      | .tup [] => gops P F ops ds rest K (setv σ d (.tup []))
      | _ => False)
theorem fact_step {K : St → Prop} (hd : o.dst = some d) (hds : d ∈ ds) (hw : wantV ops o σ = some true) (h : fact P F ds o d K σ) : (∃ x, DV P F ops ds o d σ x ∧ K (setv σ d x)) ∨ CV P F ops ds o K σ := by
  unfold fact at h; split at h
  · rename_i d' g xs hn
    obtain ⟨xa, h1, h2⟩ := bindO_ok h; obtain ⟨q1, _⟩ := namedG_spec hn; obtain rfl : d = d' := Option.some.inj (hd.symm.trans q1); exact .inr ⟨d, g, xs, xa, hn, hds, hw, h1, h2⟩
  · obtain ⟨h1, h2⟩ := h; obtain ⟨x, h3, ⟨h4, h5⟩, h6⟩ := pureE_det h2; exact .inl ⟨x, ⟨⟨hd, hds, h5, .inl ⟨hw, h3⟩⟩, h4, fun _ => h1⟩, h6⟩
theorem gops_step {rest : List Oper} (hds : ∀ d, o.dst = some d → d ∈ ds) (h : gops P F ops ds (o :: rest) K σ) :
    (∃ d x, DV P F ops ds o d σ x ∧ gops P F ops ds rest K (setv σ d x)) ∨ CV P F ops ds o (gops P F ops ds rest K) σ := by
  simp only [gops] at h; obtain ⟨d, hd, h⟩ := bindO_ok h; cases hg : o.guard with
  | none =>
    rw [hg] at h; rcases fact_step (ops := ops) hd (hds d hd) (by simp [wantV, hg]) h with ⟨x, h1, h2⟩ | h1
    · exact .inl ⟨d, x, h1, h2⟩
    · exact .inr h1
  | some g =>
    obtain ⟨j, want⟩ := g; rw [hg] at h; obtain ⟨t, ht, h⟩ := bindO_ok h; split at h
    · rename_i b hb
      by_cases hbw : b = want
      · rcases fact_step (ops := ops) hd (hds d hd) (by simp [wantV, hg, ht, hb, hbw]) (h.1 hbw) with ⟨x, h1, h2⟩ | h1
        · exact .inl ⟨d, x, h1, h2⟩
        · exact .inr h1
      · have hw : wantV ops o σ = some false := (by simp [wantV, hg, ht, hb, hbw]); exact .inl ⟨d, .tup [], ⟨⟨hd, hds d hd, rfl, .inr ⟨hw, rfl⟩⟩, rfl, fun q => by rw [hw] at q; cases q⟩, h.2 hbw⟩
    · rename_i hb
      have hw : wantV ops o σ = some false := (by simp [wantV, hg, ht, hb]); exact .inl ⟨d, .tup [], ⟨⟨hd, hds d hd, rfl, .inr ⟨hw, rfl⟩⟩, rfl, fun q => by rw [hw] at q; cases q⟩, h⟩
    · exact h.elim
def floB (F : Nat → Bool) (ops : Array Oper) : List Nat → Array Bool → Bool
  | [], listed => (Region.ready .any ops listed).isEmpty
  | i :: l, listed => (match ops[i]? with
    | some o => (Region.ready .any ops listed).contains i && (if (namedG F o).isSome = true then (Region.ready .any ops listed).all (fun j => j == i) else Region.free .any ops listed i)
    | none => false) && floB F ops l (listed.setIfInBounds i true)
theorem anyF_lex (hall : ∀ o ∈ ops.toList, ∀ t, o.dst = some t → t ∈ ds) : ∀ (l : List Nat) (listed : Array Bool) (σ : St), floB F ops l listed = true → INV ds σ → gops P F ops ds (l.filterMap fun i => ops[i]?) K σ → anyF P F ops ds K l.length listed σ
  | [], listed, σ, hB, _, h => ⟨by simpa [floB] using hB, h⟩
  | i :: l, listed, σ, hB, hI, h => by
    simp only [floB, Bool.and_eq_true] at hB; obtain ⟨hB1, hB2⟩ := hB; cases ho : ops[i]? with
    | none => rw [ho] at hB1; cases hB1
    | some o =>
      rw [ho] at hB1; simp only [Bool.and_eq_true] at hB1; obtain ⟨hr, hc⟩ := hB1; have hr' : i ∈ Region.ready .any ops listed := (by simpa using hr); have hmem : o ∈ ops.toList := by rw [Array.mem_toList_iff]; exact Array.mem_of_getElem? ho
      rw [List.filterMap_cons, ho] at h; simp only at h; rcases gops_step (hall o hmem) h with ⟨d, x, hD, hK⟩ | hC
      · have ih := anyF_lex hall l (listed.setIfInBounds i true) _ hB2 (hI.setv hD.1.2.2.1) hK; by_cases hn : (namedG F o).isSome = true
        · rw [if_pos hn] at hc; refine ⟨fun e => (by rw [e] at hr'; cases hr'), fun j hj => ?_⟩; have : j = i := by simpa using List.all_eq_true.1 hc j hj
          subst this; unfold fOp; simp only [ho]; exact .inl ⟨d, x, hD, ih⟩
        · rw [if_neg hn] at hc; exact anyF_first hall ho l.length listed σ (Region.free_spec ho hc) hr' hI hD ih
      · have hn : (namedG F o).isSome = true := by obtain ⟨d, g, xs, xa, q, _⟩ := hC; rw [q]; rfl
        rw [if_pos hn] at hc; refine ⟨fun e => (by rw [e] at hr'; cases hr'), fun j hj => ?_⟩; have : j = i := by simpa using List.all_eq_true.1 hc j hj
        subst this; unfold fOp; simp only [ho]; obtain ⟨d, g, xs, xa, q1, q2, q3, q4, ks, b, Post, q5, q6, q7, q8, q9, q10⟩ := hC; exact .inr ⟨d, g, xs, xa, q1, q2, q3, q4, ks, b, Post, q5, q6, q7, q8, q9, fun r hs' hp => ⟨(q10 r hs' hp).1, anyF_lex hall l _ _ hB2 (hI.after (q10 r hs' hp).1) (q10 r hs' hp).2⟩⟩
theorem any_of_F {k : Nat} (hdst : ∀ o ∈ ops.toList, ∀ d, o.dst = some d → d < k) (hQ : ∀ a w, Good P w0 L0 row k K a w → Q .normal a w) :
    ∀ (f : Nat) (listed : Array Bool) (a : Act) (w : World), Good P w0 L0 row k (fun σ => INV ds σ ∧ anyF P F ops ds K f listed σ) a w → wpAny P .any ops Q f listed a w
  | 0, listed, a, w, h => by
    obtain ⟨L, O, σ, hR, hdef, hsz, hI, hr, hK⟩ := h; exact ⟨hr, hQ a w ⟨L, O, σ, hR, hdef, hsz, hK⟩⟩
  | f + 1, listed, a, w, h => by
    obtain ⟨L, O, σ, hR, hdef, hsz, hI, hne, hal⟩ := h; refine ⟨fun h0 => absurd h0 hne, fun i hi => ?_⟩; have hop := hal i hi; unfold fOp at hop; unfold wpOp; split at hop
    · rename_i hoi
      simp only [hoi]; exact any_of_F hdst hQ f _ a w ⟨L, O, σ, hR, hdef, hsz, hI, hop⟩
    · rename_i o hoi
      simp only [hoi]; have hmem : o ∈ ops.toList := by rw [Array.mem_toList_iff]; exact Array.mem_of_getElem? hoi
      have hlt := hdst o hmem; rcases hop with ⟨d, x, ⟨⟨h1, h2, h3, h4⟩, _, _⟩, hK⟩ | ⟨d, g, xs, xa, q1, q2, q3, q4, ks, b, Post, q5, q6, q7, q8, q9, q10⟩
      · rcases h4 with ⟨hw, hp⟩ | ⟨hw, rfl⟩
        · rw [if_pos (wanted_of hR hw)]; refine .inl (Oper.wp_mono ?_ (pureE_ok (K := fun τ => τ = put σ d x) h1 (hlt d h1) hsz hdef hR (pureE_mono hp fun y hy => by rw [hy]))); rintro a' w' ⟨L1, O1, σ1, hR1, hd1, hs1, rfl⟩; rw [put_setv hI h2 h3] at hR1; exact any_of_F hdst hQ f _ a' w' ⟨L1, O1, _, hR1, hd1, hs1, hI.setv h3, hK⟩
        · rw [if_neg (by rw [wanted_of hR hw]; simp)]; have hg := goodPutO (K := fun τ => τ = put σ d (.tup [])) hR hlt hsz hdef (by rw [h1]; rfl); obtain ⟨L1, O1, σ1, hR1, hd1, hs1, rfl⟩ := hg; rw [put_setv hI h2 h3] at hR1; exact any_of_F hdst hQ f _ _ w ⟨L1, O1, _, hR1, hd1, hs1, hI.setv h3, hK⟩
      · rw [if_pos (wanted_of hR q3)]; obtain ⟨e1, args, ts, e2, e3, e4, e5, e6, e7⟩ := namedG_spec q1; refine .inl (Oper.wp_mono (K := Good P w0 L0 row k (fun τ => INV ds τ ∧ anyF P F ops ds K f (listed.setIfInBounds i true) τ)) (fun a' w' hg => any_of_F hdst hQ f _ a' w' hg) ?_); refine vop_ok (F := F) hlt hsz hdef hR ?_; have hcl : aval σ (.func g) = .d (.clo g []) := rfl; simp only [vop, e1, vopd, e2, vCall, hcl, e3, q4, e4, e5, e6, e7, bindO, if_true, List.all_nil, List.map_nil, List.append_nil, Bool.false_eq_true, if_false, true_and]; exact ⟨ks, b, Post, q7, q8, q9, fun r hs' hp => ⟨hI.after (q10 r hs' hp).1, (q10 r hs' hp).2⟩⟩
theorem flo_ok {id kk : Nat} {l : List Nat} (hm : P.follows .mixedOrders = true) (hB : floB F ops l (Array.replicate ops.size false) = true) (hlen : l.length = ops.size) (hdst : ∀ o ∈ ops.toList, ∀ d, o.dst = some d → d < kk) (h6 : ∀ d ∈ dstsOf ops.toList, d < 1000000)
    (h : Good P w0 L0 row kk (fun σ => gops P F ops (dstsOf ops.toList) (l.filterMap fun i => ops[i]?) K (clean (dstsOf ops.toList) σ)) a w) (hQ : ∀ a w, Good P w0 L0 row kk K a w → Q .normal a w) : (Code.region id ops true).wp P Q a w := by
  obtain ⟨L, O, σ, hR, hdef, hsz, h⟩ := h; refine wp_region_any hm ?_; have hI := clean_inv (σ := σ) h6; have hall : ∀ o ∈ ops.toList, ∀ t, o.dst = some t → t ∈ dstsOf ops.toList := fun o ho t ht => List.mem_filterMap.2 ⟨o, ho, ht⟩
  have := any_of_F (P := P) (F := F) (ds := dstsOf ops.toList) (K := K) (Q := Q) (w0 := w0) (L0 := L0) (row := row) hdst hQ l.length (Array.replicate ops.size false) a { w with drawn := w.drawn + 1 } ⟨L, O, _, hR.drew.clean _, hdef, hsz, hI, anyF_lex hall l _ _ hB hI h⟩; rw [hlen] at this; exact this
end Go.Vw
namespace Go.Vw
open Go.RowKit Go.Proofs
def FloK (P : Program) (F : Nat → Bool) (ops : Array Oper) (K : St → Prop) (σ : St) : Prop := ∃ l, floB F ops l (Array.replicate ops.size false) = true ∧ l.length = ops.size ∧ gops P F ops (dstsOf ops.toList) (l.filterMap fun i => ops[i]?) K (clean (dstsOf ops.toList) σ)
def vwp3 (P : Program) (F : Nat → Bool) : Code → (Exit → St → Prop) → St → Prop
  | .region id ops true, Q, σ => if F (20000000 + id) = true then FloK P F ops (Q .normal) σ else vwp P F (.region id ops true) Q σ
  | .seq x y, Q, σ => vwp3 P F x (thenV (vwp3 P F y Q) Q) σ
  | .cond c x y, Q, σ => (match aval σ c with
    | .d (.bool b) => (b = true → vwp3 P F x Q σ) ∧ (b = false → vwp3 P F y Q σ)
    | _ => False)
  | .block id c, Q, σ => vwp3 P F c (inBlockV id Q) σ
  | .loop c, Q, σ => LoopK (vwp3 P F c) Q σ
  | c, Q, σ => vwp P F c Q σ
def okDst3 (F : Nat → Bool) (n : Nat) : Code → Bool
  | .region id ops true => if F (20000000 + id) = true then (ops.toList.all fun o => match o.dst with
    | some d => decide (d < n) && decide (d < 1000000)
    | none => true) else okDst F n (.region id ops true)
  | .seq x y | .cond _ x y => okDst3 F n x && okDst3 F n y
  | .block _ c | .loop c => okDst3 F n c
  | c => okDst F n c
variable {ds : List Nat} {P : Program} {F : Nat → Bool} {w0 : World} {L0 : Nat → Nat → Prop} {row : Nat → Prop} {n : Nat} {K : St → Prop} {Q : Exit → St → Prop}
  {w w' : World} {L L' : Nat → Nat → Prop} {O O' : Nat → Option Nat} {σ σ' : St} {a : Act} {o : Oper} {d : Nat} {v : Value} {tm : Nat → Value}
theorem vwp3_ok (hm : P.follows .mixedOrders = true) : ∀ (c : Code) (Q : Exit → St → Prop) (a : Act) (w : World), okDst3 F n c = true → Good P w0 L0 row n (vwp3 P F c Q) a w → c.wp P (post P w0 L0 row n Q) a w
  | .skip, Q, a, w, hok, h => vwp_ok hm .skip Q a w hok h
  | .region id ops false, Q, a, w, hok, h => vwp_ok hm (.region id ops false) Q a w hok h
  | .region id ops true, Q, a, w, hok, h => by
    simp only [okDst3] at hok; by_cases hf : F (20000000 + id) = true
    · rw [if_pos hf] at hok; have hdst : ∀ o ∈ ops.toList, ∀ d, o.dst = some d → d < n ∧ d < 1000000 := fun o ho d hd => by
        have := List.all_eq_true.1 hok o ho; simpa [hd] using this
      obtain ⟨L, O, σ, hR, hdef, hsz, hv⟩ := h; simp only [vwp3, if_pos hf] at hv; obtain ⟨l, hB, hlen, hv⟩ := hv; exact flo_ok hm hB hlen (fun o ho d hd => (hdst o ho d hd).1) (fun d hd => by
        obtain ⟨o, ho, e⟩ := List.mem_filterMap.1 hd; exact (hdst o ho d e).2) ⟨L, O, σ, hR, hdef, hsz, hv⟩ (fun a w h => h)
    · rw [if_neg hf] at hok; obtain ⟨L, O, σ, hR, hdef, hsz, hv⟩ := h; simp only [vwp3, if_neg hf] at hv; exact vwp_ok hm (.region id ops true) Q a w hok ⟨L, O, σ, hR, hdef, hsz, hv⟩
  | .seq x y, Q, a, w, hok, h => by
    simp only [okDst3, Bool.and_eq_true] at hok; refine wp_seq (wp_mono (vwp3_ok hm x _ a w hok.1 h) ?_); intro e a' w' hg; cases e with
    | normal => exact vwp3_ok hm y Q a' w' hok.2 hg
    | exit id => exact hg
    | goto l => exact hg
    | ret => exact hg
    | panic ch => exact hg
    | outgrown => exact hg
  | .cond c x y, Q, a, w, hok, h => by
    simp only [okDst3, Bool.and_eq_true] at hok; obtain ⟨L, O, σ, hR, hdef, hsz, hv⟩ := h; simp only [vwp3] at hv; split at hv
    · rename_i b hc
      have hcv := (aval_d hR hc).bool_inv; exact wp_cond_split hcv (fun hb => vwp3_ok hm x Q a w hok.1 ⟨L, O, σ, hR, hdef, hsz, hv.1 hb⟩) (fun hb => vwp3_ok hm y Q a w hok.2 ⟨L, O, σ, hR, hdef, hsz, hv.2 hb⟩)
    · exact hv.elim
  | .block id c, Q, a, w, hok, h => by
    refine wp_block (wp_mono (vwp3_ok hm c _ a w hok h) ?_); intro e a' w' hg; cases e with
    | exit id' =>
      show if id' = id then post P w0 L0 row n Q .normal a' w' else post P w0 L0 row n Q (.exit id') a' w'
      have hg' : Good P w0 L0 row n (fun σ => if id' = id then Q .normal σ else Q (.exit id') σ) a' w' := hg; split
      · exact hg'.mono fun σ h => by rwa [if_pos (by assumption)] at h
      · exact hg'.mono fun σ h => by rwa [if_neg (by assumption)] at h
    | normal => exact hg
    | goto l => exact hg
    | ret => exact hg
    | panic ch => exact hg
    | outgrown => exact hg
  | .loop c, Q, a, w, hok, h => by
    obtain ⟨L, O, σ, hR, hdef, hsz, I, k, h0, hI⟩ := h; refine wp_loop_ghost (fun m a w => Good P w0 L0 row n (I m) a w) k ⟨L, O, σ, hR, hdef, hsz, h0⟩ ?_; intro m a' w' hg; refine wp_mono (vwp3_ok hm c _ a' w' hok (hg.mono fun τ hτ => hI m τ hτ)) ?_; intro e a2 w2 hg2; cases e with
    | normal =>
      obtain ⟨L2, O2, σ2, hR2, hd2, hs2, m', hm, hI2⟩ := hg2; exact ⟨m', hm, L2, O2, σ2, hR2, hd2, hs2, hI2⟩
    | exit id => exact hg2
    | goto l => exact hg2
    | ret => exact hg2
    | panic ch => exact hg2
    | outgrown => exact hg2
  | .exit id, Q, a, w, hok, h => vwp_ok hm (.exit id) Q a w hok h
  | .ret, Q, a, w, hok, h => vwp_ok hm (.ret) Q a w hok h
  | .rangeFunc .., Q, a, w, hok, h => vwp_ok hm _ Q a w hok h
  | .scope x, Q, a, w, hok, h => vwp_ok hm (.scope x) Q a w hok h
  | .label x, Q, a, w, hok, h => vwp_ok hm (.label x) Q a w hok h
  | .goto x, Q, a, w, hok, h => vwp_ok hm (.goto x) Q a w hok h
  | .refuse x, Q, a, w, hok, h => vwp_ok hm (.refuse x) Q a w hok h
theorem fn_of_vwpF {f : FuncId} {fn : Func} {c : Code} {args : List AV} {t : Nat} {r : AV} (F : Nat → Bool) (hm : P.follows .mixedOrders = true) (hf : P.funcs[f]? = some fn) (hname : (fn.name == "runtime.NumGoroutine") = false) (hb : fn.body = some c) (hres : fn.results = #[.tmp t])
    (hargs : args.length ≤ fn.ntmps) (hok : okDst3 F fn.ntmps c = true) (harg : (args.all isArg) = true) (hone : oneOwn args = true)
    (h : vwp3 P F c (EndV t r) (initS args)) : Ctr P f args r := by
  refine ⟨enters_of hf hname hb, fun w L og vals hlok hgl hog hrc => ?_⟩; have hl := hrc.length; refine calls_of_wp hf hb (wp_mono (vwp3_ok (n := fn.ntmps) hm c _ _ w hok ⟨L, _, initS args, init_rel hlok hgl hog hrc harg hone, rfl, ?_, h⟩) ?_)
  · simp; omega
  · rintro e a' w' ⟨L', O', σ', hR, hdef, hsz, he, hr⟩; obtain ⟨L2, og2, h1, h2, h3, _, h4⟩ := res1_ok hR hr; have hfin : a'.defers = [] ∧ ∃ v, (results fn a'.tmps).run P w' = .ok v w' ∧ (∃ v' L' og', Ending.returned v = .returned v' ∧ GrownS w w' (optB og) ∧ (∀ b q, L' b q → b < w'.heap.size) ∧ (∀ b q, b < w.heap.size → ¬ optB og b → (L' b q ↔ L b q)) ∧
        (∀ g, og' = some g → g < w'.heap.size ∧ (w.heap.size ≤ g ∨ og = some g)) ∧ RC P w' L' og' r v') :=
      ⟨hdef, _, results_tmp hres _ _ _, _, L2, og2, rfl, hR.grown, h1, h2, h3, h4⟩
    rcases he with rfl | rfl
    · exact hfin
    · exact hfin
@[simp] theorem vwp3_skip' : vwp3 P F .skip Q σ = Q .normal σ := by simp only [vwp3, vwp]
@[simp] theorem vwp3_region' (id : Nat) (ops : List Oper) : vwp3 P F (.region id ops.toArray false) Q σ = vops P F ops.toArray ops (Q .normal) σ := by simp only [vwp3, vwp]
def floD (b : Bool) (P : Program) (F : Nat → Bool) (id : Nat) (l : List Oper) (Q : Exit → St → Prop) (K : St → Prop) (σ : St) : Prop := if b = true then FloK P F l.toArray K σ else vwp P F (.region id l.toArray true) Q σ
@[simp] theorem floD_false (id : Nat) (l : List Oper) : floD false P F id l Q K σ = vwp P F (.region id l.toArray true) Q σ := by simp only [floD, Bool.false_eq_true, if_false]
@[simp] theorem vwp3_draw' (id : Nat) (ops : List Oper) : vwp3 P F (.region id ops.toArray true) Q σ = floD (F (20000000 + id)) P F id ops Q (Q .normal) σ := by simp only [vwp3, floD]
def pickO (l : List Oper) : List Nat → List Oper
  | [] => []
  | i :: is => (l.drop i).take 1 ++ pickO l is
@[simp] theorem pickO_nil (l : List Oper) : pickO l [] = [] := rfl
@[simp] theorem pickO_cons (l : List Oper) (i : Nat) (is : List Nat) : pickO l (i :: is) = (l.drop i).take 1 ++ pickO l is := rfl
theorem pickO_eq (l : List Oper) : ∀ is : List Nat, pickO l is = is.filterMap fun i => l.toArray[i]?
  | [] => rfl
  | i :: is => by
    rw [pickO, pickO_eq l is, List.filterMap_cons]; simp only [List.getElem?_toArray]; cases h : l[i]? with
    | none =>
      rw [List.drop_eq_nil_of_le (List.getElem?_eq_none_iff.1 h)]; simp
    | some o =>
      obtain ⟨hi, rfl⟩ := List.getElem?_eq_some_iff.1 h; rw [List.drop_eq_getElem_cons hi]; rfl
def floW (P : Program) (F : Nat → Bool) (ops : Array Oper) (l : List Oper) (ds : List Nat) (K : St → Prop) (σ : St) : Prop := gops P F ops ds l K (clean ds σ)
@[simp] theorem floW_eq (ops : Array Oper) (l : List Oper) (ds : List Nat) : floW P F ops l ds K σ = gops P F ops ds l K (clean ds σ) := rfl
theorem floK {id : Nat} {l : List Oper} (is ds : List Nat) (h1 : floB F l.toArray is (Array.replicate l.toArray.size false) = true) (h2 : is.length = l.toArray.size) (h3 : dstsOf l = ds) (h : floW P F l.toArray (pickO l is) ds K σ) : floD true P F id l Q K σ := by
  subst h3; rw [pickO_eq] at h; simp only [floD, if_true]; exact ⟨is, h1, h2, h⟩
def headF (ds : List Nat) (d : Nat) (N : St → Prop) (σ : St) (x : AV) : Prop := (lowV x = true ∧ refB ds x = true) ∧ N (setv σ d x)
@[simp] theorem headF_at (ds : List Nat) (d : Nat) (N : St → Prop) (x : AV) : headF ds d N σ x = ((lowV x = true ∧ refB ds x = true) ∧ N (setv σ d x)) := rfl
def factN (P : Program) (F : Nat → Bool) (ds : List Nat) (op : Op) (d : Nat) (K : St → Prop) (σ : St) : Option (Nat × FuncId × List Operand) → Prop
  | some (_, g, xs) => bindO (plainA σ xs) fun xa => GivF P ds g xa σ d K
  | none => calmB σ op = true ∧ pureE P F op d σ (headF ds d K σ)
@[simp] theorem factN_none (op : Op) (ds : List Nat) (d : Nat) : factN P F ds op d K σ none = (calmB σ op = true ∧ pureE P F op d σ (headF ds d K σ)) := rfl
@[simp] theorem factN_some (op : Op) (ds : List Nat) (d d' : Nat) (g : FuncId) (xs : List Operand) : factN P F ds op d K σ (some (d', g, xs)) = bindO (plainA σ xs) fun xa => GivF P ds g xa σ d K := rfl
def namedO (F : Nat → Bool) (d : Nat) : Op → Option (Nat × FuncId × List Operand)
  | .call { callee := .value (.func g), args, argTypes := _ } => if F (d + 5000000) && !F (d + 2000000) && !F (d + 3000000) && !F (d + 4000000) then some (d, g, args.toList) else none
  | _ => none
theorem fact_eq {o : Oper} {d : Nat} (h : o.dst = some d) : fact P F ds o d K σ = factN P F ds o.op d K σ (namedO F d o.op) := by
  have e : namedG F o = namedO F d o.op := by
    unfold namedG namedO; rw [h]; split
    · rename_i h1 h2; cases h1; rw [h2]
    · rename_i hn
      split
      · rename_i h2; exact absurd h2 (hn _ _ _ _ rfl)
      · rfl
  unfold fact; rw [e]; cases namedO F d o.op with
  | none => rfl
  | some x => rfl
@[simp] theorem gops_nil (ops : Array Oper) (ds : List Nat) : gops P F ops ds [] K σ = K σ := rfl
@[simp] theorem gops_cons (ops : Array Oper) (ds : List Nat) (d : Nat) (op : Op) (ty : TypeId) (pos : String) (after : Array Edge) (rest : List Oper) :
    gops P F ops ds ({ dst := some d, op, type := ty, pos, after, guard := none } :: rest) K σ = factN P F ds op d (gops P F ops ds rest K) σ (namedO F d op) := by
  simp only [gops, bindO_some]; exact fact_eq rfl
@[simp] theorem gops_guard (ops : Array Oper) (ds : List Nat) (d : Nat) (op : Op) (ty : TypeId) (pos : String) (after : Array Edge) (j : Nat) (want : Bool) (rest : List Oper) :
    gops P F ops ds ({ dst := some d, op, type := ty, pos, after, guard := some (j, want) } :: rest) K σ = bindO ((ops[j]?).bind (·.dst)) fun t => (match σ t with
      | .d (.bool b) => if b = want then factN P F ds op d (gops P F ops ds rest K) σ (namedO F d op) else gops P F ops ds rest K (setv σ d (.tup []))
      | .tup [] => gops P F ops ds rest K (setv σ d (.tup []))
      | _ => False) := by
  simp only [gops, bindO_some]; congr 1
  funext t
  rw [fact_eq rfl]; cases σ t with
  | d x => cases x with
    | bool b => by_cases hb : b = want <;> simp [hb]
    | _ => rfl
  | tup l => cases l <;> rfl
  | _ => rfl
theorem givF {g : FuncId} {args : List AV} {d : Nat} (ks : List Nat) (b : Nat) {hs : List AV} {Post : AV → List AV → Prop} (h : CtrG P g args hs Post) (h1 : ks.map σ = hs) (h2 : hs.all isH = true) (h3 : ks.Nodup) (h4 : (ks.all fun k => decide (1000000 ≤ k)) = true) (h5 : 1000000 ≤ b)
    (hk : ∀ r hs', Post r hs' → (r :: hs').all (refB ds) = true ∧ K (putH (put (takeH σ ks) d r) ks b hs')) : GivF P ds g args σ d K :=
  ⟨ks, b, Post, fun k hk => by simpa using List.all_eq_true.1 h4 k hk, h5, fun k hk => by
    have : σ k ∈ hs := by rw [← h1]; exact List.mem_map.2 ⟨k, hk, rfl⟩
    exact List.all_eq_true.1 h2 _ this, h3, by rw [h1]; exact h, hk⟩
def lowO : Option Nat → Bool
  | some j => decide (j < 1000000)
  | none => true
@[simp] theorem lowO_none : lowO none = true := rfl
@[simp] theorem lowO_some (j : Nat) : lowO (some j) = decide (j < 1000000) := rfl
@[simp] theorem lowV_eq (x : AV) : lowV x = lowO (refV x) := rfl
def calmR (σ : St) : Option Nat → Bool
  | some j => decide (j < 1000000) && lowV (σ j)
  | none => true
@[simp] theorem calmR_none : calmR σ none = true := rfl
@[simp] theorem calmR_some (j : Nat) : calmR σ (some j) = (decide (j < 1000000) && lowV (σ j)) := rfl
@[simp] theorem calmX_tmp (t : Nat) : calmX σ (.tmp t) = (decide (t < 1000000) && (lowV (σ t) && calmR σ (refV (aval σ (.tmp t))))) := rfl
@[simp] theorem calmX_const (v : Value) : calmX σ (.const v) = true := rfl
@[simp] theorem calmX_func (v : FuncId) : calmX σ (.func v) = true := rfl
attribute [simp] calmB rawV namedO refV
@[congr] theorem calmR_c {x x' : Option Nat} (h : mkd x = x') : calmR σ x = calmR σ x' := by rw [mkd_eq] at h; subst h; rfl
@[congr] theorem GivF_c {g : FuncId} {xs xs' : List AV} {d : Nat} (h : mkd (xs) = xs') (hs : mkd (σ) = σ') : GivF P ds g xs σ d K = GivF P ds g xs' σ' d K := by rw [mkd_eq] at h; subst h; rw [mkd_eq] at hs; subst hs; rfl
@[congr] theorem gops_c {ops : Array Oper} {l : List Oper} (h : mkd (σ) = σ') : gops P F ops ds l K σ = gops P F ops ds l K σ' := by rw [mkd_eq] at h; subst h; rfl
@[congr] theorem floW_c {ops : Array Oper} {l l' : List Oper} {ds ds' : List Nat} (hl : mkd l = l') (hd : mkd ds = ds') (h : mkd σ = σ') : floW P F ops l ds K σ = floW P F ops l' ds' K σ' := by rw [mkd_eq] at hl hd h; subst hl hd h; rfl
@[congr] theorem floD_c {b b' : Bool} {id : Nat} {l : List Oper} (hb : mkd b = b') : floD b P F id l Q K σ = floD b' P F id l Q K σ := by rw [mkd_eq] at hb; subst hb; rfl
@[simp] theorem vwp3_seq' (x y : Code) : vwp3 P F (.seq x y) Q σ = vwp3 P F x (thenV (vwp3 P F y Q) Q) σ := by simp only [vwp3]
@[simp] theorem vwp3_cond' (c : Operand) (x y : Code) : vwp3 P F (.cond c x y) Q σ = (match aval σ c with
    | .d (.bool b) => if b = true then vwp3 P F x Q σ else vwp3 P F y Q σ
    | _ => False) := by
  simp only [vwp3]; cases aval σ c with
  | d x => cases x with
    | bool b => cases b <;> simp
    | _ => rfl
  | _ => rfl
@[simp] theorem vwp3_block' (id : Nat) (c : Code) : vwp3 P F (.block id c) Q σ = vwp3 P F c (inBlockV id Q) σ := by simp only [vwp3]
@[simp] theorem vwp3_loop' (c : Code) : vwp3 P F (.loop c) Q σ = LoopK (vwp3 P F c) Q σ := by simp only [vwp3]
@[simp] theorem vwp3_exit' (id : Nat) : vwp3 P F (.exit id) Q σ = Q (.exit id) σ := by simp only [vwp3, vwp]
@[simp] theorem vwp3_ret' : vwp3 P F .ret Q σ = Q .ret σ := by simp only [vwp3, vwp]
@[congr] theorem vwp3_c {c : Code} (h : mkd (σ) = σ') : vwp3 P F c Q σ = vwp3 P F c Q σ' := by rw [mkd_eq] at h; subst h; rfl
end Go.Vw