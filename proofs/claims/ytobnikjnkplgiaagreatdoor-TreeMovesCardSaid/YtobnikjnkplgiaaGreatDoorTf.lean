/-
  What the statement TreeMoves of layer 10 (tree) reaches, with the rule for a region whose tail floats: contracts and plain laws, for lists and strings of bounded size (each theorem states its bound).
-/
import Derived.Test.YtobnikjnkplgiaaGreatDoorWc
import Derived.Test.YtobnikjnkplgiaaGreatDoorTd
import Derived.Test.YtobnikjnkplgiaaGreatDoorTb

set_option linter.unusedSimpArgs false
set_option linter.unusedVariables false

/- Regions whose order Go leaves open: the text's order ahead, then every order walked. -/
set_option linter.unusedSimpArgs false
namespace Go.Vw
open Go.RowKit Go.Proofs

variable {P : Program} {F : Nat → Bool} {w0 : World} {L0 : Nat → Nat → Prop} {row : Nat → Prop} {n : Nat} {K : St → Prop} {Q : Exit → Act → World → Prop}
  {w w' : World} {L L' : Nat → Nat → Prop} {O O' : Nat → Option Nat} {σ σ' : St} {a : Act} {o : Oper} {d : Nat} {v : Value} {tm : Nat → Value}
  {ops : Array Oper} {md : Region.Mode} {ds : List Nat}

/-- Each operation behind the n-th waits for one from there on. -/
def rootB (ops : Array Oper) (n : Nat) : Bool := (List.range ops.size).all fun t => decide (t ≤ n) || (List.range t).any fun j => decide (n ≤ j) && Region.waitsFor .any ops t j
def lexHead2 (ops : Array Oper) (L : Array Bool) (n : Nat) : Nat → Nat → Array Bool → Bool
  | 0, _, listed => decide (listed = L) && (Region.ready .any ops listed).all fun j => decide (n ≤ j)
  | f + 1, k, listed => (Region.ready .any ops listed).contains k && Region.free .any ops listed k && lexHead2 ops L n f (k + 1) (listed.setIfInBounds k true)
theorem anyV_lex2 {n : Nat} {LL : Array Bool} {K : St → Prop} (Iv : Array Bool → Prop) (hset : ∀ listed j, Iv listed → j ∈ Region.ready .any ops listed → j < n → Iv (listed.setIfInBounds j true)) (hlt : ∀ listed, Iv listed → ∀ k, k < n → listed.getD k true = false → ∀ j ∈ Region.ready .any ops listed, j < n) :
    ∀ (l : List Oper) (k : Nat) (listed : Array Bool) (σ : St), (∀ o ∈ l, ∀ d, o.dst = some d → d ∈ ds) → (∀ j, j < l.length → l[j]? = ops[k + j]?) → k + l.length = n → Iv listed →
    lexHead2 ops LL n l.length k listed = true → INV ds σ → dops P F ops ds l K σ →
    anyV P F .any ops ds n (fun listed' σ' => (listed' = LL ∧ ∀ j ∈ Region.ready .any ops listed', n ≤ j) ∧ INV ds σ' ∧ K σ') l.length listed σ
  | [], k, listed, σ, _, _, hk, _, hB, hI, h => by
    have : k = n := by simpa using hk
    subst this
    simp only [lexHead2, Bool.and_eq_true, decide_eq_true_eq, List.all_eq_true, List.length_nil] at hB
    exact ⟨⟨hB.1, hB.2⟩, hI, h⟩
  | o :: l, k, listed, σ, hds, hl, hk, inv, hB, hI, h => by
    have h0 : ops[k]? = some o := by simpa using (hl 0 (by simp)).symm
    simp only [List.length_cons, lexHead2, Bool.and_eq_true] at hB
    obtain ⟨⟨hr, hf⟩, hB'⟩ := hB
    have hkn : k < n := by simp only [List.length_cons] at hk; omega
    have hr' : k ∈ Region.ready .any ops listed := by simpa using hr
    obtain ⟨d, x, hy, hK⟩ := dops_step (fun d hd => hds o (by simp) d hd) h
    exact anyV_first Iv hset h0 hkn hlt (fun listed' a' hL => hL.1.2) l.length listed σ inv (Region.free_spec h0 hf) hr' hI hy
      (anyV_lex2 Iv hset hlt l (k + 1) _ _ (fun o ho => hds o (by simp [ho])) (fun j hj => by have := hl (j + 1) (by simp; omega); simpa [Nat.add_assoc, Nat.add_comm 1 j] using this) (by simp only [List.length_cons] at hk; omega) (hset _ _ inv hr' hkn) hB' (hI.setv hy.2.2.1) hK)

theorem tail_waits2 {k n : Nat} {listed : Array Bool} (hs : sinkB' ops k n = true) (hc : rootB ops n = true) (hn : n < ops.size) (inv : HeadInv .any ops n listed) (hk : ∀ i, i < k → listed.getD i false = true) :
    ∀ (d i : Nat), n - i = d → i < n → listed.getD i true = false → ∀ t, n ≤ t → t ∉ Region.ready .any ops listed := by
  intro d
  induction d using Nat.strongRecOn with
  | _ d ih =>
    intro i hd hi hun t ht hr
    obtain ⟨_, ot, hot, hall⟩ := mem_ready.1 hr
    have htlt : t < ops.size := (Array.getElem?_eq_some_iff.1 hot).1
    by_cases htn : t = n
    · subst htn
      have h1 := List.all_eq_true.1 hs i (List.mem_range.2 hi)
      simp only [Bool.or_eq_true, decide_eq_true_eq] at h1
      rcases h1 with h1 | h1
      · have := hk i h1
        rw [getD_both hun] at this
        cases this
      obtain ⟨j, hj, hj2⟩ := List.any_eq_true.1 h1
      simp only [Bool.and_eq_true, decide_eq_true_eq] at hj2
      obtain ⟨oj, hoj, e, he, hb, hon⟩ := Region.waitsFor_spec hj2.2
      have hjle : j ≤ t := by have := List.mem_range.1 hj; omega
      by_cases hjt : j = t
      · subst hjt
        have : oj = ot := Option.some.inj (hoj.symm.trans hot)
        subst this
        have h2 := hall e he hb
        rw [hon, getD_both hun] at h2
        cases h2
      · cases hl : listed.getD j false with
        | true =>
          have h2 := inv.closed j oj hoj hl e he hb
          rw [hon, getD_both hun] at h2
          cases h2
        | false =>
          have hjs : j < listed.size := by rw [inv.size]; omega
          exact ih (t - j) (by omega) j rfl (by omega) (getD_in hjs hl) t (Nat.le_refl _) hr
    · have h1 := List.all_eq_true.1 hc t (List.mem_range.2 htlt)
      simp only [Bool.or_eq_true, decide_eq_true_eq] at h1
      rcases h1 with h1 | h1
      · omega
      · obtain ⟨j, hj, hj2⟩ := List.any_eq_true.1 h1
        simp only [Bool.and_eq_true, decide_eq_true_eq] at hj2
        have hjt := List.mem_range.1 hj
        obtain ⟨o', ho', e, he, hb, hon⟩ := Region.waitsFor_spec hj2.2
        have : o' = ot := Option.some.inj (ho'.symm.trans hot)
        subst this
        have h2 := hall e he hb
        rw [hon, getD_both (inv.tail j hj2.1 (by omega))] at h2
        cases h2

/-- What is asked of such a region's text. -/
def treB (F : Nat → Bool) (ops : Array Oper) : Bool :=
  let n := headN F ops.toList
  let k := min n (lateN ops)
  decide (n < ops.size) && sinkB' ops k n && rootB ops n && lexHead2 ops (markN n (Array.replicate ops.size false)) n (n - k) k (markN k (Array.replicate ops.size false)) && (ops.toList.all fun o => match o.dst with
    | some d => decide (d < 1000000)
    | none => true)
/-- The tree of the orders behind the n-th operation. -/
def treT (F : Nat → Bool) (ops : Array Oper) : OT := treeOf ops (ops.size - headN F ops.toList) (markN (headN F ops.toList) (Array.replicate ops.size false))
theorem headN_take : ∀ l : List Oper, headN F (l.take (headN F l)) = headN F l
  | [] => rfl
  | o :: l => by
    by_cases he : effB F o.dst o.op = true
    · simp only [headN, if_pos he, List.take_zero]
    · simp only [headN, if_neg he, List.take_succ_cons]
      rw [headN_take l]
theorem tre_ok {id kk : Nat} {K : St → Prop} (hm : P.follows .mixedOrders = true) (hB : treB F ops = true) (hdst : ∀ o ∈ ops.toList, ∀ d, o.dst = some d → d < kk)
    (h : Good P w0 L0 row kk (fun σ => ddops P F ops (hdsts F ops.toList) (ops.toList.take (headN F ops.toList)) (aT P F ops K (treT F ops)) (clean (hdsts F ops.toList) σ)) a w) (hQ : ∀ a w, Good P w0 L0 row kk K a w → Q .normal a w) : (Code.region id ops true).wp P Q a w := by
  obtain ⟨L, O, σ, hR, hdef, hsz, h⟩ := h
  simp only [treB] at hB
  unfold treT at h
  have hht := headN_take (F := F) ops.toList
  generalize hnn : headN F ops.toList = nn at hB h hht
  generalize hkk : min nn (lateN ops) = k at hB
  simp only [Bool.and_eq_true, decide_eq_true_eq] at hB
  obtain ⟨⟨⟨⟨h1', h2'⟩, h3'⟩, hlex⟩, hlt6⟩ := hB
  have hle := headN_le (F := F) ops.toList
  rw [Array.length_toList, hnn] at hle
  have hkn : k ≤ nn := by omega
  have hlate : ∀ i, i < k → lateOne ops i = true := fun i hi => lateN_spec (by omega)
  have hds6 : ∀ d ∈ hdsts F ops.toList, d < 1000000 := by
    intro d hd
    rw [hdsts_eq] at hd
    simp only [dstsOf, List.mem_filterMap] at hd
    obtain ⟨o, ho, hod⟩ := hd
    have := List.all_eq_true.1 hlt6 o (List.mem_of_mem_take ho)
    simpa [hod] using this
  have hds : ∀ o ∈ ops.toList.take nn, ∀ d, o.dst = some d → d ∈ hdsts F ops.toList := fun o ho d hd => by rw [hdsts_eq, hnn]; simp only [dstsOf, List.mem_filterMap]; exact ⟨o, ho, hd⟩
  let Q0 : Exit → Act → World → Prop := fun e a w => e = .normal ∧ Good P w0 L0 row kk K a w
  have hQp : ∀ ch a w, ¬ Q0 (.panic ch) a w := fun ch a w h => by cases h.1
  have hQl : ¬ LetsOut Q0 := fun ⟨a, w, h⟩ => by cases h.1
  refine wp_mono (Q := Q0) (wp_region_any hm ?_) (fun e a w ⟨he, hg⟩ => by subst he; exact hQ a w hg)
  generalize hw1 : ({ w with drawn := w.drawn + 1 } : World) = w1
  have hR1 : Rel P w0 L0 row w1 L O (clean (hdsts F ops.toList) σ) (tmOf a) := by rw [← hw1]; exact (hR.drew).clean _
  have h0 := ddops_split (F := F) _ _ h
  rw [hht, List.take_take, Nat.min_self] at h0
  have hdn : (ops.toList.take nn).drop nn = [] := List.drop_eq_nil_of_le (by simp only [List.length_take]; omega)
  rw [hdn] at h0
  simp only [vops] at h0
  have htl : (ops.toList.take nn).length = nn := by simp; omega
  have hdl : (ops.toList.drop nn).length = ops.size - nn := by simp
  -- from the late moves on
  have main : ∀ j, j ≤ k → ∀ a, Good P w0 L0 row kk (fun σ => INV (hdsts F ops.toList) σ ∧ dops P F ops (hdsts F ops.toList) ((ops.toList.take nn).drop (k - j)) (fun σ' => aT P F ops K (treeOf ops (ops.size - nn) (markN nn (Array.replicate ops.size false))) σ') σ) a w1 →
      wpAny P .any ops Q0 (ops.size - (k - j)) (markN (k - j) (Array.replicate ops.size false)) a w1 := by
    intro j
    induction j with
    | zero =>
      intro _ a hg
      simp only [Nat.sub_zero] at hg ⊢
      obtain ⟨L1, O1, a0, hR2, hd2, hs2, hI, hv⟩ := hg
      have inv0 := markN_inv hle k hkn hlate
      have hk0 : ∀ i, i < k → (markN k (Array.replicate ops.size false)).getD i false = true := fun i hi => markN_on k i hi (by omega)
      have hlt : ∀ listed, HeadInv .any ops nn listed ∧ (∀ i, i < k → listed.getD i false = true) → ∀ i, i < nn → listed.getD i true = false → ∀ j ∈ Region.ready .any ops listed, j < nn := by
        intro listed ⟨inv, hk⟩ i hi hun j hj
        rcases Nat.lt_or_ge j nn with h4 | h4
        · exact h4
        · exact absurd hj (tail_waits2 h2' h3' h1' inv hk _ i rfl hi hun j h4)
      have H := anyV_lex2 (LL := markN nn (Array.replicate ops.size false)) (P := P) (F := F) (ds := hdsts F ops.toList) (K := fun σ' => aT P F ops K (treeOf ops (ops.size - nn) (markN nn (Array.replicate ops.size false))) σ') (fun listed => HeadInv .any ops nn listed ∧ ∀ i, i < k → listed.getD i false = true)
        (fun listed j ⟨h1, h2⟩ hj hjn => ⟨h1.set hj hjn, fun i hi => getD_set_true (h2 i hi)⟩) hlt ((ops.toList.take nn).drop k) k _ a0 (fun o ho => hds o (List.mem_of_mem_drop ho)) (fun j hj => by
          have hj' : k + j < nn := by simp at hj; omega
          simp [List.getElem?_drop, List.getElem?_take, hj']) (by simp; omega) ⟨inv0, hk0⟩ (by rw [List.length_drop, htl]; exact hlex) hI hv
      have := any_of_V (md := .any) (Q := Q0) (g := ops.size - nn) (k := kk) (w0 := w0) (L0 := L0) (row := row) hdst (fun listed a' w' hg => by
        obtain ⟨L1, O1, σ1, hR1, hd1, hs1, _, hseq, _, hv⟩ := hg
        rw [hseq.1]
        exact any_ok (K := K) hdst (fun a w hg => ⟨rfl, hg⟩) _ _ _ _ ⟨L1, O1, σ1, hR1, hd1, hs1, hv⟩) _ _ a w1 ⟨L1, O1, a0, hR2, hd2, hs2, hI, H⟩
      rw [List.length_drop, htl, show nn - k + (ops.size - nn) = ops.size - k by omega] at this
      exact this
    | succ j ih =>
      intro hj a hg
      have hik : k - (j + 1) < k := by omega
      obtain ⟨d, t, oi, g1, g2, g3, g4, g5, g6, g7⟩ := lateOne_spec (hlate _ hik)
      have hsucc : k - j = k - (j + 1) + 1 := by omega
      have hstep : ops.size - (k - (j + 1)) = (ops.size - (k - j)) + 1 := by omega
      rw [hstep]
      refine late_first hQp hQl g1 g2 g3 g4 g5 g6 g7 _ _ _ _ (markN_off _ _ (Nat.le_refl _) (by omega)) ?_
      have hmk : (markN (k - (j + 1)) (Array.replicate ops.size false)).setIfInBounds (k - (j + 1)) true = markN (k - j) (Array.replicate ops.size false) := by rw [hsucc]; rfl
      rw [hmk]
      refine ih (by omega) _ ?_
      obtain ⟨L1, O1, σ1, hR2, hd2, hs2, hI, hv⟩ := hg
      have hcons : (ops.toList.take nn).drop (k - (j + 1)) = oi :: (ops.toList.take nn).drop (k - j) := by
        rw [List.drop_eq_getElem_cons (by rw [htl]; omega), hsucc]
        congr 1
        have : (ops.toList.take nn)[k - (j + 1)]? = some oi := by rw [List.getElem?_take, if_pos (by omega)]; simpa using g1
        exact (List.getElem?_eq_some_iff.1 this).2
      rw [hcons] at hv
      have hmem : oi ∈ ops.toList := by rw [Array.mem_toList_iff]; exact Array.mem_of_getElem? g1
      have hmemt : oi ∈ ops.toList.take nn := List.mem_of_mem_drop (i := k - (j + 1)) (by rw [hcons]; simp)
      obtain ⟨d', x, ⟨y1, y2, y3, y4⟩, hK⟩ := dops_step (hds oi hmemt) hv
      obtain rfl : d = d' := by rw [g2] at y1; simpa using y1
      have hp : pureE P F oi.op d σ1 (fun y => y = x) := by
        rcases y4 with ⟨_, hp⟩ | ⟨hw, _⟩
        · exact hp
        · simp [wantV, g5] at hw
      have hwp := pureE_ok (K := fun τ => τ = put σ1 d x) (Q := fun _ _ _ => False) g2 (hdst oi hmem d g2) hs2 hd2 hR2 (pureE_mono hp fun y hy => by rw [hy])
      have hrun : (execOp a.eval oi).run P w1 = .ok (.value (a.eval (.tmp t))) w1 := by simp [execOp, g3]
      unfold Oper.wp at hwp
      rw [hrun] at hwp
      simp only [Oper.upon, g2] at hwp
      obtain ⟨L2, O2, σ2, hR3, hd3, hs3, rfl⟩ := hwp
      rw [put_setv hI y2 y3] at hR3
      exact ⟨L2, O2, _, hR3, hd3, hs3, hI.setv y3, hK⟩
  have := main k (Nat.le_refl _) a ⟨L, O, _, hR1, hdef, hsz, clean_inv hds6, by rw [Nat.sub_self, List.drop_zero]; exact h0⟩
  rw [Nat.sub_self] at this
  exact this
end Go.Vw

/- The abstract walk, with regions whose tail floats. -/
set_option linter.unusedSimpArgs false
namespace Go.Vw
open Go.RowKit Go.Proofs

/-- A region of open order: the text's order ahead, then every order of the rest. -/
def TreK (P : Program) (F : Nat → Bool) (ops : Array Oper) (l : List Oper) (ds : List Nat) (K : St → Prop) (σ : St) : Prop := ddops P F ops ds l (aT P F ops K (treT F ops)) (clean ds σ)
def vwp2 (P : Program) (F : Nat → Bool) : Code → (Exit → St → Prop) → St → Prop
  | .region id ops true, Q, σ => if F (16000000 + id) = true then TreK P F ops (ops.toList.take (headN F ops.toList)) (hdsts F ops.toList) (Q .normal) σ else vwp P F (.region id ops true) Q σ
  | .seq x y, Q, σ => vwp2 P F x (thenV (vwp2 P F y Q) Q) σ
  | .cond c x y, Q, σ => (match aval σ c with
    | .d (.bool b) => (b = true → vwp2 P F x Q σ) ∧ (b = false → vwp2 P F y Q σ)
    | _ => False)
  | .block id c, Q, σ => vwp2 P F c (inBlockV id Q) σ
  | .loop c, Q, σ => LoopK (vwp2 P F c) Q σ
  | c, Q, σ => vwp P F c Q σ
def okDst2 (F : Nat → Bool) (n : Nat) : Code → Bool
  | .region id ops true => if F (16000000 + id) = true then (ops.toList.all fun o => match o.dst with
    | some d => decide (d < n)
    | none => true) && treB F ops else okDst F n (.region id ops true)
  | .seq x y | .cond _ x y => okDst2 F n x && okDst2 F n y
  | .block _ c | .loop c => okDst2 F n c
  | c => okDst F n c

variable {P : Program} {F : Nat → Bool} {w0 : World} {L0 : Nat → Nat → Prop} {row : Nat → Prop} {n : Nat} {K : St → Prop} {Q : Exit → St → Prop}
  {w w' : World} {L L' : Nat → Nat → Prop} {O O' : Nat → Option Nat} {σ σ' : St} {a : Act} {o : Oper} {d : Nat} {v : Value} {tm : Nat → Value}

theorem vwp2_ok (hm : P.follows .mixedOrders = true) : ∀ (c : Code) (Q : Exit → St → Prop) (a : Act) (w : World), okDst2 F n c = true → Good P w0 L0 row n (vwp2 P F c Q) a w → c.wp P (post P w0 L0 row n Q) a w
  | .skip, Q, a, w, hok, h => vwp_ok hm .skip Q a w hok h
  | .region id ops false, Q, a, w, hok, h => vwp_ok hm (.region id ops false) Q a w hok h
  | .region id ops true, Q, a, w, hok, h => by
    simp only [okDst2] at hok
    by_cases hf : F (16000000 + id) = true
    · rw [if_pos hf] at hok
      simp only [Bool.and_eq_true] at hok
      have hdst : ∀ o ∈ ops.toList, ∀ d, o.dst = some d → d < n := fun o ho d hd => by
        have := List.all_eq_true.1 hok.1 o ho
        simpa [hd] using this
      obtain ⟨L, O, σ, hR, hdef, hsz, hv⟩ := h
      simp only [vwp2, if_pos hf, TreK] at hv
      exact tre_ok hm hok.2 hdst ⟨L, O, σ, hR, hdef, hsz, hv⟩ (fun a w h => h)
    · rw [if_neg hf] at hok
      obtain ⟨L, O, σ, hR, hdef, hsz, hv⟩ := h
      simp only [vwp2, if_neg hf] at hv
      exact vwp_ok hm (.region id ops true) Q a w hok ⟨L, O, σ, hR, hdef, hsz, hv⟩
  | .seq x y, Q, a, w, hok, h => by
    simp only [okDst2, Bool.and_eq_true] at hok
    refine wp_seq (wp_mono (vwp2_ok hm x _ a w hok.1 h) ?_)
    intro e a' w' hg
    cases e with
    | normal => exact vwp2_ok hm y Q a' w' hok.2 hg
    | exit id => exact hg
    | goto l => exact hg
    | ret => exact hg
    | panic ch => exact hg
    | outgrown => exact hg
  | .cond c x y, Q, a, w, hok, h => by
    simp only [okDst2, Bool.and_eq_true] at hok
    obtain ⟨L, O, σ, hR, hdef, hsz, hv⟩ := h
    simp only [vwp2] at hv
    split at hv
    · rename_i b hc
      have hcv := (aval_d hR hc).bool_inv
      exact wp_cond_split hcv (fun hb => vwp2_ok hm x Q a w hok.1 ⟨L, O, σ, hR, hdef, hsz, hv.1 hb⟩) (fun hb => vwp2_ok hm y Q a w hok.2 ⟨L, O, σ, hR, hdef, hsz, hv.2 hb⟩)
    · exact hv.elim
  | .block id c, Q, a, w, hok, h => by
    refine wp_block (wp_mono (vwp2_ok hm c _ a w hok h) ?_)
    intro e a' w' hg
    cases e with
    | exit id' =>
      show if id' = id then post P w0 L0 row n Q .normal a' w' else post P w0 L0 row n Q (.exit id') a' w'
      have hg' : Good P w0 L0 row n (fun σ => if id' = id then Q .normal σ else Q (.exit id') σ) a' w' := hg
      split
      · exact hg'.mono fun σ h => by rwa [if_pos (by assumption)] at h
      · exact hg'.mono fun σ h => by rwa [if_neg (by assumption)] at h
    | normal => exact hg
    | goto l => exact hg
    | ret => exact hg
    | panic ch => exact hg
    | outgrown => exact hg
  | .loop c, Q, a, w, hok, h => by
    obtain ⟨L, O, σ, hR, hdef, hsz, I, k, h0, hI⟩ := h
    refine wp_loop_ghost (fun m a w => Good P w0 L0 row n (I m) a w) k ⟨L, O, σ, hR, hdef, hsz, h0⟩ ?_
    intro m a' w' hg
    refine wp_mono (vwp2_ok hm c _ a' w' hok (hg.mono fun τ hτ => hI m τ hτ)) ?_
    intro e a2 w2 hg2
    cases e with
    | normal =>
      obtain ⟨L2, O2, σ2, hR2, hd2, hs2, m', hm, hI2⟩ := hg2
      exact ⟨m', hm, L2, O2, σ2, hR2, hd2, hs2, hI2⟩
    | exit id => exact hg2
    | goto l => exact hg2
    | ret => exact hg2
    | panic ch => exact hg2
    | outgrown => exact hg2
  | .exit id, Q, a, w, hok, h => vwp_ok hm (.exit id) Q a w hok h
  | .ret, Q, a, w, hok, h => vwp_ok hm (.ret) Q a w hok h
  | .rangeFunc .., Q, a, w, hok, h => vwp_ok hm _ Q a w hok h
  | .scope x, Q, a, w, hok, h => vwp_ok hm (.scope x) Q a w hok h
  | .label x, Q, a, w, hok, h => vwp_ok hm (.label x) Q a w hok h
  | .goto x, Q, a, w, hok, h => vwp_ok hm (.goto x) Q a w hok h
  | .refuse x, Q, a, w, hok, h => vwp_ok hm (.refuse x) Q a w hok h

theorem fn_of_vwpT {f : FuncId} {fn : Func} {c : Code} {args : List AV} {t : Nat} {r : AV} (F : Nat → Bool) (hm : P.follows .mixedOrders = true) (hf : P.funcs[f]? = some fn) (hname : (fn.name == "runtime.NumGoroutine") = false) (hb : fn.body = some c) (hres : fn.results = #[.tmp t])
    (hargs : args.length ≤ fn.ntmps) (hok : okDst2 F fn.ntmps c = true) (harg : (args.all isArg) = true) (hone : oneOwn args = true)
    (h : vwp2 P F c (EndV t r) (initS args)) : Ctr P f args r := by
  refine ⟨enters_of hf hname hb, fun w L og vals hlok hgl hog hrc => ?_⟩
  have hl := hrc.length
  refine calls_of_wp hf hb (wp_mono (vwp2_ok (n := fn.ntmps) hm c _ _ w hok ⟨L, _, initS args, init_rel hlok hgl hog hrc harg hone, rfl, ?_, h⟩) ?_)
  · simp; omega
  · rintro e a' w' ⟨L', O', σ', hR, hdef, hsz, he, hr⟩
    obtain ⟨L2, og2, h1, h2, h3, _, h4⟩ := res1_ok hR hr
    have hfin : a'.defers = [] ∧ ∃ v, (results fn a'.tmps).run P w' = .ok v w' ∧ (∃ v' L' og', Ending.returned v = .returned v' ∧ GrownS w w' (optB og) ∧ (∀ b q, L' b q → b < w'.heap.size) ∧ (∀ b q, b < w.heap.size → ¬ optB og b → (L' b q ↔ L b q)) ∧
        (∀ g, og' = some g → g < w'.heap.size ∧ (w.heap.size ≤ g ∨ og = some g)) ∧ RC P w' L' og' r v') :=
      ⟨hdef, _, results_tmp hres _ _ _, _, L2, og2, rfl, hR.grown, h1, h2, h3, h4⟩
    rcases he with rfl | rfl
    · exact hfin
    · exact hfin


@[simp] theorem vwp2_skip' : vwp2 P F .skip Q σ = Q .normal σ := by simp only [vwp2, vwp]
@[simp] theorem vwp2_region' (id : Nat) (ops : List Oper) : vwp2 P F (.region id ops.toArray false) Q σ = vops P F ops.toArray ops (Q .normal) σ := by simp only [vwp2, vwp]
def treD (b : Bool) (P : Program) (F : Nat → Bool) (id : Nat) (l : List Oper) (Q : Exit → St → Prop) (K : St → Prop) (σ : St) : Prop := if b = true then TreK P F l.toArray (l.take (headN F l)) (hdsts F l) K σ else vwp P F (.region id l.toArray true) Q σ
@[simp] theorem treD_false (id : Nat) (l : List Oper) : treD false P F id l Q K σ = vwp P F (.region id l.toArray true) Q σ := by simp only [treD, Bool.false_eq_true, if_false]
@[simp] theorem vwp2_draw' (id : Nat) (ops : List Oper) : vwp2 P F (.region id ops.toArray true) Q σ = treD (F (16000000 + id)) P F id ops Q (Q .normal) σ := by simp only [vwp2, treD]
def treW (P : Program) (F : Nat → Bool) (ops : Array Oper) (l : List Oper) (ds : List Nat) (K : St → Prop) (σ : St) : Prop := ddops P F ops ds l K (clean ds σ)
@[simp] theorem treW_eq (ops : Array Oper) (l : List Oper) (ds : List Nat) : treW P F ops l ds K σ = ddops P F ops ds l K (clean ds σ) := rfl
theorem treK {id : Nat} {l : List Oper} (t : OT) (m : Nat) (ds : List Nat) (ht : treT F l.toArray = t) (hh : headN F l = m) (hs : hdsts F l = ds) (h : treW P F l.toArray (l.take m) ds (aT P F l.toArray K t) σ) : treD true P F id l Q K σ := by
  subst ht hh hs
  simpa only [treD, if_true, TreK, treW] using h
@[simp] theorem vwp2_seq' (x y : Code) : vwp2 P F (.seq x y) Q σ = vwp2 P F x (thenV (vwp2 P F y Q) Q) σ := by simp only [vwp2]
@[simp] theorem vwp2_cond' (c : Operand) (x y : Code) : vwp2 P F (.cond c x y) Q σ = (match aval σ c with
    | .d (.bool b) => if b = true then vwp2 P F x Q σ else vwp2 P F y Q σ
    | _ => False) := by
  simp only [vwp2]
  cases aval σ c with
  | d x => cases x with
    | bool b => cases b <;> simp
    | _ => rfl
  | _ => rfl
@[simp] theorem vwp2_block' (id : Nat) (c : Code) : vwp2 P F (.block id c) Q σ = vwp2 P F c (inBlockV id Q) σ := by simp only [vwp2]
@[simp] theorem vwp2_loop' (c : Code) : vwp2 P F (.loop c) Q σ = LoopK (vwp2 P F c) Q σ := by simp only [vwp2]
@[simp] theorem vwp2_exit' (id : Nat) : vwp2 P F (.exit id) Q σ = Q (.exit id) σ := by simp only [vwp2, vwp]
@[simp] theorem vwp2_ret' : vwp2 P F .ret Q σ = Q .ret σ := by simp only [vwp2, vwp]
@[congr] theorem vwp2_c {c : Code} (h : mkd (σ) = σ') : vwp2 P F c Q σ = vwp2 P F c Q σ' := by rw [mkd_eq] at h; subst h; rfl
@[congr] theorem treD_c {b b' : Bool} {id : Nat} {l : List Oper} (hb : mkd b = b') : treD b P F id l Q K σ = treD b' P F id l Q K σ := by rw [mkd_eq] at hb; subst hb; rfl
@[congr] theorem treW_c {ops : Array Oper} {l l' : List Oper} {ds ds' : List Nat} (hl : mkd l = l') (hd : mkd ds = ds') (h : mkd σ = σ') : treW P F ops l ds K σ = treW P F ops l' ds' K σ' := by rw [mkd_eq] at hl hd h; subst hl hd h; rfl
end Go.Vw

/- For the bundle of TreeMoves alone (the theorems of TrC that the shake takes out of its bundle). Not a text to be built beside TrC. -/
namespace Go.Proofs.Tz
open Go.Vw Go.RowKit Go.Proofs Go.Sort

theorem obs_MV {E : List Ent} {fr to : Str} (h : MV E fr to) : obsE E fr to = 0 := by
  unfold obsE
  have h1 := h.src; have h2 := h.tgt; have h3 := h.free; have h4 := h.out; have h5 := h.par; have h6 := h.low; have h7 := h.deep
  simp [h1, h2, h3, h4, h5, h6, h7]
theorem move_back {E : List Ent} (h : TI E) {fr to : Str} (ho : (moveE E fr to).2 = 0) : moveE (moveE E fr to).1 to fr = (E, 0) := by
  unfold moveE at ho
  split at ho
  · rename_i h0
    have hm := MV.of h h0
    obtain ⟨hb, he⟩ := hm.back
    have e1 : moveE E fr to = (movedE E fr to, 0) := by rw [moveE, if_pos h0]
    rw [e1]
    simp only
    rw [moveE, if_pos (obs_MV hb), he]
  · rename_i h0; exact absurd ho h0

end Go.Proofs.Tz

/- The statement TreeMoves. -/
set_option maxRecDepth 100000
set_option maxHeartbeats 8000000
set_option linter.unusedSimpArgs false
set_option linter.unusedVariables false
namespace Go.Proofs.Tz
open Go.Vw Go.RowKit Go.Proofs Go.Sort

def L6I (R : List Str) (l : List TOp) (k : Nat) (τ : St) : Prop := ∃ E p u X, TI E ∧ FE E ∧ RootI R E ∧ τ 0 = .d (strs R) ∧ τ 1 = .d (topsD l) ∧ τ 5 = .d (.raw (va p)) ∧ τ 7 = .d (.int .i64 k) ∧
  τ 1000000 = .hb (va p) 61 (.agg [.raw (.map (some u))]) ∧ τ 1000001 = .hm (.map (some u)) 9 (mapE E) X
def tT : OT := .node [(14, .node [(15, .node [(16, .node [(17, .node [(18, .node [(19, .node [(20, .node [(21, .node [(22, .node [(23, .leaf)])])])]), (20, .node [(19, .node [(21, .node [(22, .node [(23, .leaf)])])])])]), (20, .node [(18, .node [(19, .node [(21, .node [(22, .node [(23, .leaf)])])])])])])])])])]
theorem do_move {E : List Ent} {n to : Str} {a : List Att} {c : Int} {V : List Ent × Int} (h : doE E (c, n, to, a) = V) (hc : c = 3) : moveE E n to = V := by
  subst hc
  simpa [doE] using h
theorem law6T_fn (R : List Str) (l : List TOp) : Ctr Tryz.prog 6 [.d (strs R), .d (topsD l)] (.d (.bool true)) := by
  refine fn_of_vwpT (fun i => i == 5000019 || i == 5000040 || i == 5000047 || i == 5000063 || i == 5000078 || i == 5000083 || i == 2000085 || i == 16000015) (by kernel_rfl) Tryz.func6 (by kernel_rfl) rfl rfl (Nat.le_of_ble_eq_true rfl) (by kernel_rfl) rfl rfl ?_
  have c1 := lightT_fn R l
  have cA := awakeT_fn
  simp only [strs, topsD] at c1
  cases hL : lightB R l with
  | false =>
    rw [hL] at c1
    simp -implicitDefEqProofs [strs, topsD]
    refine callK c1 ?_
    simp -implicitDefEqProofs
    refine callK cA ?_
    simp -implicitDefEqProofs
  | true =>
  rw [hL] at c1
  obtain ⟨hR, hR6, hl24, hfit⟩ := light_R hL
  have c2 := tnew_fn R hR
  simp only [strs] at c2
  have hnew := @new_ok R
  have hroot := @new_roots R
  generalize newE R = V at *
  obtain ⟨E0, er⟩ := V
  simp only at hnew hroot
  by_cases h0 : er = 0
  case neg =>
    simp -implicitDefEqProofs [strs, topsD]
    refine callK c1 ?_
    simp -implicitDefEqProofs
    refine givB [] 1000000 c2 (by simp) rfl (by simp) ?_
    rintro r hs' (⟨_, rfl, rfl⟩ | ⟨h, _⟩)
    case inr => exact absurd h h0
    simp -implicitDefEqProofs [takeH, putH, h0]
    refine callK cA ?_
    simp -implicitDefEqProofs
  subst h0
  obtain ⟨hT0, hF0, _, _⟩ := hnew rfl
  obtain ⟨hr0, hnd⟩ := hroot rfl
  simp -implicitDefEqProofs [strs, topsD]
  refine callK c1 ?_
  simp -implicitDefEqProofs
  refine givB [] 1000000 c2 (by simp) rfl (by simp) ?_
  rintro r hs' (⟨h, _⟩ | ⟨_, p, u, rfl, rfl⟩)
  · exact absurd rfl h
  simp -implicitDefEqProofs [takeH, putH, tr]
  refine loopN l.length (L6I R l) ⟨E0, p, u, none, hT0, hF0, hr0, by simp [strs], by simp [topsD], by simp, by simp, by simp, by simp⟩ ?_
  clear c1 c2 hnew
  rintro k τ hk ⟨E, p, u, X, hT, hF, hr, g0, g1, g5, g7, gA, gB⟩
  by_cases hlt : k < l.length
  · have hlt' : (k : Int) < l.length := by omega
    have hx := hfit _ (List.getElem_mem hlt)
    have c3 := tsubtree_fn p u E X hT hF [] (by simp)
    have c4 := fun X => tdo_fn p u E X hT l[k] hx
    have hT2 := hT.act l[k]
    have hF2 := hF.act hx
    have hr2 := hr.act hT l[k]
    have hn := hx.1
    have hto := hx.2.1
    generalize hxe : l[k] = x at *
    generalize hV : doE E x = V at *
    obtain ⟨E2, er⟩ := V
    obtain ⟨c, n, to, a⟩ := x
    simp only at hT2 hF2 hr2 hn hto
    have htd : topD (c, n, to, a) = .agg [.int .i64 c, .str n, .str to, .sl (a.map att)] := rfl
    rw [htd] at c4
    have c8 := sameEs_fn _ _ (fits_sub hT hF []) (fits_sub hT hF [])
    simp only [decide_true] at c8
    simp only [entsD] at c8
    have hback : er = 0 → c = 3 → moveE E2 to n = (E, 0) := fun e1 e2 => by
      have hm := do_move hV e2
      have := move_back hT (fr := n) (to := to) (by rw [hm]; exact e1)
      rw [hm] at this
      exact this
    have c5 := fun p u X => tclone_fn p u E2 X hT2
    have c6 := fun p u X => tmove_fn p u E2 X hT2 to n hto hn
    have c7 := fun p u X => tsubtree_fn p u E X hT hF [] (by simp)
    generalize hS : subtreeE E [] = S0 at *
    simp -implicitDefEqProofs [g0, g1, g5, g7, gA, gB, topsD, hlt, hlt', hxe, htd, takeH, putH, tr]
    refine givB [1000000, 1000001] 1000000 c3 (by simp [gA, gB, tr]) rfl (by simp) ?_
    rintro r hs' ⟨rfl, X1, rfl⟩
    simp -implicitDefEqProofs [g0, g1, g5, g7, gA, gB, topsD, hlt, hlt', hxe, htd, takeH, putH, tr]
    repeat refine And.intro (by first | omega | rfl) ?_
    refine givB [1000000, 1000001] 1000000 (c4 X1) (by simp [tr]) rfl (by simp) ?_
    rintro r hs' ⟨p', u', rfl, X', rfl⟩
    by_cases he : er = 0
    · by_cases hc : c = 3
      · have hb := hback he hc
        rw [hb] at c6
        subst hc he
        simp -implicitDefEqProofs [g0, g1, g5, g7, gA, gB, topsD, hlt, hlt', hxe, htd, takeH, putH, tr, ]
        repeat refine And.intro (by first | omega | rfl) ?_
        refine givB [1000000, 1000001] 1000002 (c5 p' u' X') (by simp [tr]) rfl (by simp) ?_
        rintro r hs' ⟨p2, u2, X2, rfl, rfl⟩
        simp -implicitDefEqProofs [g0, g1, g5, g7, gA, gB, topsD, hlt, hlt', hxe, htd, takeH, putH, tr, ]
        refine treK tT 14 [64, 65, 66, 67, 68, 69, 70, 71, 72, 73, 74, 75, 76, 77] (by kernel_rfl) (by kernel_rfl) (by kernel_rfl) ?_
        simp -implicitDefEqProofs [tT, aT, aTL, g0, g1, g5, g7, gA, gB, topsD, hlt, hlt', hxe, htd, takeH, putH, tr]
        refine givB [1000002, 1000003] 1000002 (c6 p2 u2 none) (by simp [tr]) rfl (by simp) ?_
        rintro r hs' ⟨rfl, u3, X3, rfl⟩
        simp -implicitDefEqProofs [g0, g1, g5, g7, gA, gB, topsD, hlt, hlt', hxe, htd, takeH, putH, tr, aT, aTL]
        refine ⟨⟨?_, ?_⟩, ?_⟩
        all_goals
          refine givB [1000002, 1000003] 1000002 (c7 p2 u3 X3) (by simp [tr]) rfl (by simp) ?_
          rintro r hs' ⟨rfl, X4, rfl⟩
          simp -implicitDefEqProofs [g0, g1, g5, g7, gA, gB, topsD, hlt, hlt', hxe, htd, takeH, putH, tr, aT, aTL]
          refine lendK c8 rfl ?_
          simp -implicitDefEqProofs [g0, g1, g5, g7, gA, gB, topsD, hlt, hlt', hxe, htd, takeH, putH, tr, aT, aTL]
          repeat refine And.intro (by first | omega | rfl) ?_
          exact again hlt ⟨E2, p', u', X2, hT2, hF2, hr2, by simp [g0, strs], by simp [g1, topsD], by simp, by simp, by simp, by simp⟩
      · simp -implicitDefEqProofs [g0, g1, g5, g7, gA, gB, topsD, hlt, hlt', hxe, htd, takeH, putH, tr, he, hc]
        repeat refine And.intro (by first | omega | rfl) ?_
        exact again hlt ⟨E2, p', u', X', hT2, hF2, hr2, by simp [g0, strs], by simp [g1, topsD], by simp, by simp, by simp, by simp⟩
    · simp -implicitDefEqProofs [g0, g1, g5, g7, gA, gB, topsD, hlt, hlt', hxe, htd, takeH, putH, tr, he]
      repeat refine And.intro (by first | omega | rfl) ?_
      exact again hlt ⟨E2, p', u', X', hT2, hF2, hr2, by simp [g0, strs], by simp [g1, topsD], by simp, by simp, by simp, by simp⟩
  · have hlt' : ¬ (k : Int) < l.length := by omega
    simp -implicitDefEqProofs [g0, g1, g5, g7, topsD, hlt, hlt']
    refine callK cA ?_
    simp -implicitDefEqProofs
end Go.Proofs.Tz

/- The statement TreeMoves: its own form. -/
set_option linter.unusedVariables false
namespace Go.Proofs.Tz
open Go.Vw Go.RowKit Go.Proofs

theorem fits_top {d : D} (h : Sh.Fits (.agg [.int .i64, .str, .str, .sl (.agg [.str, .sl .str])]) d) : ∃ x : TOp, d = topD x := by
  simp only [Sh.Fits, Sh.FitsL] at h
  obtain ⟨ds, rfl, w, ws, rfl, ⟨i, rfl, _⟩, x, xs, rfl, ⟨s, rfl, _⟩, y, ys, rfl, ⟨t, rfl, _⟩, z, zs, rfl, hz, rfl⟩ := h
  obtain ⟨vs, rfl⟩ := fits_atts (by simpa only [Sh.Fits, Sh.FitsL] using hz)
  exact ⟨(i, s, t, vs), rfl⟩
theorem fits_tops {d : D} (h : Sh.Fits (.sl (.agg [.int .i64, .str, .str, .sl (.agg [.str, .sl .str])])) d) : ∃ l : List TOp, d = topsD l := fits_list _ (fun _ h => fits_top h) h

theorem TreeMoves_ok (r : List Str) (l : List TOp) (hb : D.lims 140737488351232 [strs r, topsD l]) : Ctr Tryz.prog 6 [.d (strs r), .d (topsD l)] (.d (.bool true)) := law6T_fn r l
end Go.Proofs.Tz
