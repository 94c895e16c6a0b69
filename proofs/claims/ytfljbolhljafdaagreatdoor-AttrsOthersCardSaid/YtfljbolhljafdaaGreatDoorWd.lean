/-
  Regions, loops and whole functions in the abstract walk: for every program. No conditions beyond those that each theorem states.
-/
import Derived.Test.YtfljbolhljafdaaGreatDoorWc
import Derived.Shelf.GgSortFunc.RowK
import Derived.Shelf.GgSortFunc.InsertionK

set_option linter.unusedSimpArgs false
set_option linter.unusedVariables false

/- Regions whose order Go leaves open, second part: one walk of the text's order serves every order. -/
namespace Go.Vw
open Go.RowKit Go.Proofs

variable {P : Program} {F : Nat → Bool} {w0 : World} {L0 : Nat → Nat → Prop} {row : Nat → Prop} {n : Nat} {K : St → Prop} {Q : Exit → Act → World → Prop}
  {w w' : World} {L L' : Nat → Nat → Prop} {O O' : Nat → Option Nat} {σ σ' : St} {a : Act} {o : Oper} {d : Nat} {v : Value} {tm : Nat → Value}
  {ops : Array Oper} {md : Region.Mode} {ds : List Nat}

def refB (ds : List Nat) (x : AV) : Bool :=
  match refV x with
  | some j => !ds.contains j
  | none => true
def INV (ds : List Nat) (σ : St) : Prop := (∀ t, refB ds (σ t) = true) ∧ ∀ d ∈ ds, d < 1000000

theorem refB_ne {x : AV} {j : Nat} (h : refB ds x = true) (hj : refV x = some j) : j ∉ ds := by
  simp only [refB, hj] at h
  simpa using h

theorem kill_same {x : AV} (h : refV x ≠ some d) : kill d x = x := by
  cases x with
  | bor j m e l => have : j ≠ d := fun e => h (by simp [refV, e]); simp [kill, this]
  | adr j p => have : j ≠ d := fun e => h (by simp [refV, e]); simp [kill, this]
  | eadr j i p => have : j ≠ d := fun e => h (by simp [refV, e]); simp [kill, this]
  | sub j i => have : j ≠ d := fun e => h (by simp [refV, e]); simp [kill, this]
  | _ => rfl

theorem put_setv {x : AV} (hi : INV ds σ) (hd : d ∈ ds) (hx : refB ds x = true) : put σ d x = setv σ d x := by
  funext i
  simp only [put, setv]
  split
  · exact kill_same fun e => refB_ne hx e hd
  · exact kill_same fun e => refB_ne (hi.1 i) e hd

theorem INV.setv {x : AV} (hi : INV ds σ) (hx : refB ds x = true) : INV ds (setv σ d x) := by
  refine ⟨fun t => ?_, hi.2⟩
  simp only [Vw.setv]
  split
  · exact hx
  · exact hi.1 t

/-- Whether a guarded operation is carried out. -/
def wantV (ops : Array Oper) (o : Oper) (σ : St) : Option Bool :=
  match o.guard with
  | none => some true
  | some (j, want) => match (ops[j]?).bind (·.dst) with
    | some t => (match σ t with
      | .d (.bool b) => some (b == want)
      | .tup [] => some false
      | _ => none)
    | none => none

def YV (P : Program) (F : Nat → Bool) (ops : Array Oper) (ds : List Nat) (o : Oper) (d : Nat) (σ : St) (x : AV) : Prop :=
  o.dst = some d ∧ d ∈ ds ∧ refB ds x = true ∧ ((wantV ops o σ = some true ∧ pureE P F o.op d σ (fun y => y = x)) ∨ (wantV ops o σ = some false ∧ x = .tup []))

def aOp (P : Program) (F : Nat → Bool) (ops : Array Oper) (ds : List Nat) (i : Nat) (K : St → Prop) (σ : St) : Prop :=
  match ops[i]? with
  | none => K σ
  | some o => ∃ d x, YV P F ops ds o d σ x ∧ K (setv σ d x)

theorem aOp_mono {i : Nat} {K K' : St → Prop} (h : ∀ σ, K σ → K' σ) (hh : aOp P F ops ds i K σ) : aOp P F ops ds i K' σ := by
  unfold aOp at *
  split at hh
  · exact h _ hh
  · rename_i o hi
    obtain ⟨d, x, h1, h2⟩ := hh
    exact ⟨d, x, h1, h _ h2⟩

theorem wantV_same {x : AV} (hk : d ∉ o.looksAt ops) : wantV ops o (setv σ d x) = wantV ops o σ := by
  unfold wantV
  split
  · rfl
  · rename_i j want hg
    split
    · rename_i t ht
      have : t ≠ d := by
        rintro rfl
        exact hk (by simp [Oper.looksAt, hg, ht])
      simp only [setv, if_neg this]
    · rfl

theorem agr_setv {x : AV} (hi : INV ds σ) (hd : d ∈ ds) (hk : d ∉ o.looksAt ops) : Agr o.op.operands.toList (setv σ d x) σ := by
  refine ⟨fun y hy => ?_, fun j hj => ?_⟩
  rotate_left
  · have : j ≠ d := fun e => by have := hi.2 d hd; omega
    simp only [setv, if_neg this]
  have hne : ∀ t, y = .tmp t → t ≠ d := by
    rintro t rfl rfl
    exact hk (by simp only [Oper.looksAt, List.mem_append, List.mem_filterMap]; exact .inl ⟨_, hy, rfl⟩)
  refine ⟨fun t ht => by simp only [setv, if_neg (hne t ht)], fun j hj => ?_⟩
  have : j ≠ d := by
    rintro rfl
    cases y with
    | tmp t =>
      have htd := hne t rfl
      simp only [aval, setv, if_neg htd] at hj
      have h1 := hi.1 t
      cases hs : σ t <;> rw [hs] at hj h1 <;> simp only [rd, refV, Option.some.injEq] at hj
      case own => exact htd hj
      case box => exact htd hj
      case bor => subst hj; exact refB_ne h1 rfl hd
      case adr => subst hj; exact refB_ne h1 rfl hd
      case eadr => subst hj; exact refB_ne h1 rfl hd
      case sub => subst hj; exact refB_ne h1 rfl hd
      all_goals cases hj
    | const v =>
      simp only [aval] at hj
      unfold cval at hj
      split at hj <;> simp [refV] at hj
    | func f => simp [aval, refV] at hj
    | global g => simp [aval, refV] at hj
  simp only [setv, if_neg this]

theorem YV.back {x y : AV} {e : Nat} (hi : INV ds σ) (hd : d ∈ ds) (hk : d ∉ o.looksAt ops) (h : YV P F ops ds o e (setv σ d x) y) : YV P F ops ds o e σ y := by
  obtain ⟨h1, h2, h3, h4⟩ := h
  rw [wantV_same hk] at h4
  refine ⟨h1, h2, h3, ?_⟩
  rcases h4 with ⟨h5, h6⟩ | h5
  · exact .inl ⟨h5, pureE_agr (agr_setv hi hd hk) h6⟩
  · exact .inr h5

theorem Agr.symm {xs : List Operand} (h : Agr xs σ σ') : Agr xs σ' σ := by
  refine ⟨fun x hx => ⟨fun t ht => ((h.1 x hx).1 t ht).symm, fun j hj => ?_⟩, fun j hj => (h.2 j hj).symm⟩
  rw [← h.aval hx] at hj
  exact ((h.1 x hx).2 j hj).symm

theorem YV.forth {x y : AV} {e : Nat} (hi : INV ds σ) (hd : d ∈ ds) (hk : d ∉ o.looksAt ops) (h : YV P F ops ds o e σ y) : YV P F ops ds o e (setv σ d x) y := by
  obtain ⟨h1, h2, h3, h4⟩ := h
  refine ⟨h1, h2, h3, ?_⟩
  rw [wantV_same hk]
  rcases h4 with ⟨h5, h6⟩ | h5
  · exact .inl ⟨h5, pureE_agr (agr_setv hi hd hk).symm h6⟩
  · exact .inr h5

theorem setv_comm {d e : Nat} {x y : AV} (h : d ≠ e) : setv (setv σ d x) e y = setv (setv σ e y) d x := by
  funext i
  simp only [setv]
  by_cases h1 : i = d <;> by_cases h2 : i = e <;> simp_all

/-- One operation, apart from 'oi': it makes no difference whether oi's value is there already. -/
theorem aOp_set {j di : Nat} {oi oj : Oper} {x : AV} (hj : ops[j]? = some oj) (hap : oi.apart ops oj = true) (hi : INV ds σ) (hy : YV P F ops ds oi di σ x) {K : St → Prop} (h : aOp P F ops ds j K (setv σ di x)) :
    aOp P F ops ds j (fun σ' => INV ds σ' ∧ YV P F ops ds oi di σ' x ∧ K (setv σ' di x)) σ := by
  obtain ⟨h1, h2, h3⟩ := Oper.apart_spec hap
  unfold aOp at *
  simp only [hj] at *
  obtain ⟨dj, u, hu, hK⟩ := h
  refine ⟨dj, u, hu.back hi hy.2.1 (h1 di hy.1), hi.setv hu.2.2.1, hy.forth hi hu.2.1 (h3 dj hu.1), ?_⟩
  rw [← setv_comm (fun e => h2 di hy.1 (by rw [hu.1, e]))]
  exact hK

/-- Whatever order is picked from here on, as far as the operations go that only yield a value. -/
def anyV (P : Program) (F : Nat → Bool) (md : Region.Mode) (ops : Array Oper) (ds : List Nat) (n : Nat) (Lq : Array Bool → St → Prop) : Nat → Array Bool → St → Prop
  | 0, listed, σ => Lq listed σ
  | f + 1, listed, σ => Region.ready md ops listed ≠ [] ∧ ∀ i ∈ Region.ready md ops listed, i < n ∧ aOp P F ops ds i (anyV P F md ops ds n Lq f (listed.setIfInBounds i true)) σ

theorem anyV_first {n i di : Nat} {oi : Oper} {x : AV} {Lq : Array Bool → St → Prop} (Iv : Array Bool → Prop) (hset : ∀ listed j, Iv listed → j ∈ Region.ready md ops listed → j < n → Iv (listed.setIfInBounds j true)) (hi : ops[i]? = some oi) (hin : i < n)
    (hlt : ∀ listed, Iv listed → ∀ k, k < n → listed.getD k true = false → ∀ j ∈ Region.ready md ops listed, j < n) (hdone : ∀ listed σ, Lq listed σ → ∀ j ∈ Region.ready md ops listed, n ≤ j) :
    ∀ (f : Nat) (listed : Array Bool) (σ : St), Iv listed →
      (∀ j oj, ops[j]? = some oj → j ≠ i → listed.getD j true = false → (∀ e ∈ oj.after, Region.binds md e = true → e.on ≠ i) → oi.apart ops oj = true) →
      i ∈ Region.ready md ops listed → INV ds σ → YV P F ops ds oi di σ x →
      anyV P F md ops ds n Lq f (listed.setIfInBounds i true) (setv σ di x) → anyV P F md ops ds n Lq (f + 1) listed σ := by
  intro f
  induction f with
  | zero =>
    intro listed σ inv _ hr hI hy H
    have hun := (mem_ready.1 hr).1
    refine ⟨fun h => (by rw [h] at hr; cases hr), fun j hj => ?_⟩
    have hjn := hlt listed inv i hin hun j hj
    refine ⟨hjn, ?_⟩
    by_cases hji : j = i
    · subst hji
      unfold aOp; simp only [hi]
      exact ⟨di, x, hy, H⟩
    · have := hdone _ _ H j (ready_mono hj hji)
      omega
  | succ f ih =>
    intro listed σ inv hfree hr hI hy H
    have hun := (mem_ready.1 hr).1
    refine ⟨fun h => (by rw [h] at hr; cases hr), fun j hj => ?_⟩
    have hjn := hlt listed inv i hin hun j hj
    refine ⟨hjn, ?_⟩
    by_cases hji : j = i
    · subst hji
      unfold aOp; simp only [hi]
      exact ⟨di, x, hy, H⟩
    · have h1 := (H.2 j (ready_mono hj hji)).2
      obtain ⟨hjun, oj, hoj, hall⟩ := mem_ready.1 hj
      have hnot : ∀ e ∈ oj.after, Region.binds md e = true → e.on ≠ i := fun e he hb heq => by
        have h1 := hall e he hb
        rw [heq, getD_both hun] at h1
        cases h1
      have h2 := aOp_set hoj (hfree j oj hoj hji hjun hnot) hI hy h1
      have hfree' : ∀ k ok, ops[k]? = some ok → k ≠ i → (listed.setIfInBounds j true).getD k true = false →
          (∀ e ∈ ok.after, Region.binds md e = true → e.on ≠ i) → oi.apart ops ok = true := fun k ok hk hki hun hno => by
        refine hfree k ok hk hki ?_ hno
        by_cases hjk : j = k
        · subst hjk; exact hjun
        · rw [getD_set_ne true hjk] at hun; exact hun
      refine aOp_mono (fun a' h3 => ih (listed.setIfInBounds j true) a' (hset _ _ inv hj hjn) hfree' (ready_mono hr (Ne.symm hji)) h3.1 h3.2.1 ?_) h2
      rw [Array.setIfInBounds_comm _ _ hji]
      exact h3.2.2

/-- The text's order. -/
def dops (P : Program) (F : Nat → Bool) (ops : Array Oper) (ds : List Nat) : List Oper → (St → Prop) → St → Prop
  | [], K, σ => K σ
  | o :: rest, K, σ => bindO o.dst fun d => match o.guard with
    | none => pureE P F o.op d σ fun x => refB ds x = true ∧ dops P F ops ds rest K (setv σ d x)
    | some (j, want) => bindO ((ops[j]?).bind (·.dst)) fun t => (match σ t with
      | .d (.bool b) => (b = want → pureE P F o.op d σ fun x => refB ds x = true ∧ dops P F ops ds rest K (setv σ d x)) ∧ (b ≠ want → dops P F ops ds rest K (setv σ d (.tup [])))
      | .tup [] => dops P F ops ds rest K (setv σ d (.tup []))
      | _ => False)

theorem dops_step {rest : List Oper} (hds : ∀ d, o.dst = some d → d ∈ ds) (h : dops P F ops ds (o :: rest) K σ) : ∃ d x, YV P F ops ds o d σ x ∧ dops P F ops ds rest K (setv σ d x) := by
  simp only [dops] at h
  obtain ⟨d, hd, h⟩ := bindO_ok h
  refine ⟨d, ?_⟩
  cases hg : o.guard with
  | none =>
    rw [hg] at h
    obtain ⟨x, h1, h2, h3⟩ := pureE_det h
    exact ⟨x, ⟨hd, hds d hd, h2, .inl ⟨by simp [wantV, hg], h1⟩⟩, h3⟩
  | some g =>
    obtain ⟨j, want⟩ := g
    rw [hg] at h
    obtain ⟨t, ht, h⟩ := bindO_ok h
    split at h
    · rename_i b hb
      by_cases hbw : b = want
      · obtain ⟨x, h1, h2, h3⟩ := pureE_det (h.1 hbw)
        exact ⟨x, ⟨hd, hds d hd, h2, .inl ⟨by simp [wantV, hg, ht, hb, hbw], h1⟩⟩, h3⟩
      · exact ⟨.tup [], ⟨hd, hds d hd, rfl, .inr ⟨by simp [wantV, hg, ht, hb, hbw], rfl⟩⟩, h.2 hbw⟩
    · rename_i hb
      exact ⟨.tup [], ⟨hd, hds d hd, rfl, .inr ⟨by simp [wantV, hg, ht, hb], rfl⟩⟩, h⟩
    · exact h.elim

theorem anyV_lex {n g : Nat} {K : St → Prop} (Iv : Array Bool → Prop) (hset : ∀ listed j, Iv listed → j ∈ Region.ready md ops listed → j < n → Iv (listed.setIfInBounds j true)) (hlt : ∀ listed, Iv listed → ∀ k, k < n → listed.getD k true = false → ∀ j ∈ Region.ready md ops listed, j < n) (hds : ∀ o ∈ ops.toList, ∀ d, o.dst = some d → d ∈ ds) :
    ∀ (l : List Oper) (k : Nat) (listed : Array Bool) (σ : St), (∀ j, j < l.length → l[j]? = ops[k + j]?) → k + l.length = n → Iv listed →
    Region.lexHead md ops g l.length k listed = true → INV ds σ → dops P F ops ds l K σ →
    anyV P F md ops ds n (fun listed' σ' => Region.seqB md ops g n listed' = true ∧ INV ds σ' ∧ K σ') l.length listed σ
  | [], k, listed, σ, _, hk, _, hB, hI, h => by
    have : k = n := by simpa using hk
    subst this
    exact ⟨by simpa [Region.lexHead] using hB, hI, h⟩
  | o :: l, k, listed, σ, hl, hk, inv, hB, hI, h => by
    have h0 : ops[k]? = some o := by simpa using (hl 0 (by simp)).symm
    simp only [List.length_cons, Region.lexHead, Bool.and_eq_true] at hB
    obtain ⟨⟨hr, hf⟩, hB'⟩ := hB
    have hkn : k < n := by simp only [List.length_cons] at hk; omega
    have hr' : k ∈ Region.ready md ops listed := by simpa using hr
    obtain ⟨d, x, hy, hK⟩ := dops_step (fun d hd => hds o (by rw [Array.mem_toList_iff]; exact Array.mem_of_getElem? h0) d hd) h
    exact anyV_first Iv hset h0 hkn hlt (fun listed' a' hL => seqB_ready hL.1) l.length listed σ inv (Region.free_spec h0 hf) hr' hI hy
      (anyV_lex Iv hset hlt hds l (k + 1) _ _ (fun j hj => by have := hl (j + 1) (by simp; omega); simpa [Nat.add_assoc, Nat.add_comm 1 j] using this) (by simp only [List.length_cons] at hk; omega) (hset _ _ inv hr' hkn) hB' (hI.setv hy.2.2.1) hK)

theorem wanted_of (hR : Rel P w0 L0 row w L O σ (tmOf a)) {b : Bool} (h : wantV ops o σ = some b) : Region.wanted o (yielded ops a.tmps) = b := by
  unfold wantV at h
  cases hg : o.guard with
  | none => rw [hg] at h; simp only [Option.some.injEq] at h; subst h; simp [Region.wanted, hg]
  | some g =>
    obtain ⟨j, want⟩ := g
    rw [hg] at h
    simp only at h
    cases ht : (ops[j]?).bind (·.dst) with
    | none => rw [ht] at h; cases h
    | some t =>
      rw [ht] at h
      simp only at h
      split at h
      · rename_i c hc
        simp only [Option.some.injEq] at h
        have := yielded_of hR ht hc
        simp only [Region.wanted, hg, this, ← h]
        cases c <;> cases want <;> rfl
      · rename_i hc
        simp only [Option.some.injEq] at h
        have := yielded_not hR ht hc
        simp only [Region.wanted, hg, this, ← h]
        rfl
      · cases h

theorem any_of_V {n g : Nat} {k : Nat} {Lq : Array Bool → St → Prop} (hdst : ∀ o ∈ ops.toList, ∀ d, o.dst = some d → d < k)
    (hL : ∀ listed a w, Good P w0 L0 row k (fun σ => INV ds σ ∧ Lq listed σ) a w → wpAny P md ops Q g listed a w) :
    ∀ (f : Nat) (listed : Array Bool) (a : Act) (w : World), Good P w0 L0 row k (fun σ => INV ds σ ∧ anyV P F md ops ds n Lq f listed σ) a w → wpAny P md ops Q (f + g) listed a w
  | 0, listed, a, w, h => by rw [Nat.zero_add]; exact hL _ _ _ h
  | f + 1, listed, a, w, h => by
    obtain ⟨L, O, σ, hR, hdef, hsz, hI, hne, hall⟩ := h
    rw [show f + 1 + g = (f + g) + 1 by omega]
    refine ⟨fun h0 => absurd h0 hne, fun i hi => ?_⟩
    have hop := (hall i hi).2
    unfold aOp at hop
    unfold wpOp
    split at hop
    · rename_i hoi
      simp only [hoi]
      exact any_of_V hdst hL f _ a w ⟨L, O, σ, hR, hdef, hsz, hI, hop⟩
    · rename_i o hoi
      simp only [hoi]
      obtain ⟨d, x, ⟨h1, h2, h3, h4⟩, hK⟩ := hop
      have hmem : o ∈ ops.toList := by rw [Array.mem_toList_iff]; exact Array.mem_of_getElem? hoi
      have hlt := hdst o hmem
      rcases h4 with ⟨hw, hp⟩ | ⟨hw, rfl⟩
      · rw [if_pos (wanted_of hR hw)]
        refine .inl (Oper.wp_mono ?_ (pureE_ok (K := fun τ => τ = put σ d x) h1 (hlt d h1) hsz hdef hR (pureE_mono hp fun y hy => by rw [hy])))
        rintro a' w' ⟨L1, O1, σ1, hR1, hd1, hs1, rfl⟩
        rw [put_setv hI h2 h3] at hR1
        exact any_of_V hdst hL f _ a' w' ⟨L1, O1, _, hR1, hd1, hs1, hI.setv h3, hK⟩
      · rw [if_neg (by rw [wanted_of hR hw]; simp)]
        have hg := goodPutO (K := fun τ => τ = put σ d (.tup [])) hR hlt hsz hdef (by rw [h1]; rfl)
        obtain ⟨L1, O1, σ1, hR1, hd1, hs1, rfl⟩ := hg
        rw [put_setv hI h2 h3] at hR1
        exact any_of_V hdst hL f _ _ w ⟨L1, O1, _, hR1, hd1, hs1, hI.setv h3, hK⟩

def killS (ds : List Nat) (x : AV) : AV :=
  match x with
  | .bor j m e l => if ds.contains j then (if m then .undef else .d (.sl l)) else .bor j m e l
  | .adr j p => if ds.contains j then .undef else .adr j p
  | .eadr j i p => if ds.contains j then .undef else .eadr j i p
  | .sub j i => if ds.contains j then .undef else .sub j i
  | y => y
def clean (ds : List Nat) (σ : St) : St := fun t => killS ds (σ t)

theorem clean_inv (hb : ∀ d ∈ ds, d < 1000000) : INV ds (clean ds σ) := by
  refine ⟨fun t => ?_, hb⟩
  simp only [clean]
  cases σ t with
  | bor j m e l =>
    simp only [killS]
    by_cases h : ds.contains j = true
    · rw [if_pos h]; cases m <;> rfl
    · rw [if_neg h]; simpa [refB, refV] using h
  | adr j p =>
    simp only [killS]
    by_cases h : ds.contains j = true
    · rw [if_pos h]; rfl
    · rw [if_neg h]; simpa [refB, refV] using h
  | eadr j i p =>
    simp only [killS]
    by_cases h : ds.contains j = true
    · rw [if_pos h]; rfl
    · rw [if_neg h]; simpa [refB, refV] using h
  | sub j i =>
    simp only [killS]
    by_cases h : ds.contains j = true
    · rw [if_pos h]; rfl
    · rw [if_neg h]; simpa [refB, refV] using h
  | _ => rfl

theorem Rel.clean (h : Rel P w0 L0 row w L O σ tm) (ds : List Nat) : Rel P w0 L0 row w L O (Vw.clean ds σ) tm := by
  refine ⟨h.grown, h.lok, h.old, fun i => ?_, h.inj, h.olt⟩
  have h1 := h.slots i
  have hown : ∀ {j m e l}, σ j = AV.own m e l → Vw.clean ds σ j = .own m e l := fun hj => by simp only [Vw.clean, hj, killS]
  have hbox : ∀ {j b}, boxOf (σ j) = some b → boxOf (Vw.clean ds σ j) = some b := fun {j b} hj => by
    simp only [Vw.clean]; cases hx : σ j <;> rw [hx] at hj <;> simp [boxOf] at hj <;> simpa [killS, boxOf] using hj
  have hown2 : ∀ {j y}, ownOf (σ j) = some y → Vw.clean ds σ j = σ j := fun {j y} hj => by
    simp only [Vw.clean]; cases hx : σ j <;> rw [hx] at hj <;> simp [ownOf] at hj <;> rfl
  show RA P w L O (Vw.clean ds σ) tm (O i) (killS ds (σ i)) (tm i)
  cases hx : σ i <;> rw [hx] at h1 <;> simp only [killS]
  case bor j m e l =>
    split
    · cases m with
      | true => simp [RA, RC]
      | false => exact RA.asD h.slots h1 rfl
    · exact ⟨hown h1.1, h1.2⟩
  case adr j p =>
    split
    · simp [RA, RC]
    · obtain ⟨b, g, off, e1, e2⟩ := h1
      exact ⟨b, g, off, hbox e1, e2⟩
  case eadr j k p =>
    split
    · simp [RA, RC]
    · obtain ⟨e, l, g, sz, m, c, b, off, e1, e2⟩ := h1
      exact ⟨e, l, g, sz, m, c, b, off, by rw [hown2 e1]; exact e1, by rw [hown2 e1]; exact e2⟩
  case sub j k =>
    split
    · simp [RA, RC]
    · obtain ⟨e, l, sz, e1, e2⟩ := h1
      exact ⟨e, l, sz, by rw [hown2 e1]; exact e1, by rw [hown2 e1]; exact e2⟩
  all_goals exact h1

/-- An operation that does more than yield a value. -/
def effB (F : Nat → Bool) (d : Option Nat) : Op → Bool
  | .store _ _ _ => true
  | .call { callee := .builtin .append, .. } => true
  | .call { callee := .builtin .clear, .. } => true
  | .call { callee := .value _, .. } => match d with
    | some d => F (d + 3000000) || F (d + 4000000) || F (d + 5000000)
    | none => false
  | _ => false
def headN (F : Nat → Bool) : List Oper → Nat
  | [] => 0
  | o :: l => if effB F o.dst o.op then 0 else headN F l + 1
def dstsOf (l : List Oper) : List Nat := l.filterMap (·.dst)

/-- The walk of a region whose order is open. -/
def ddops (P : Program) (F : Nat → Bool) (ops : Array Oper) (ds : List Nat) : List Oper → (St → Prop) → St → Prop
  | [], K, σ => K σ
  | o :: rest, K, σ => if effB F o.dst o.op then vops P F ops (o :: rest) K σ else bindO o.dst fun d => match o.guard with
    | none => pureE P F o.op d σ fun x => refB ds x = true ∧ ddops P F ops ds rest K (setv σ d x)
    | some (j, want) => bindO ((ops[j]?).bind (·.dst)) fun t => (match σ t with
      | .d (.bool b) => (b = want → pureE P F o.op d σ fun x => refB ds x = true ∧ ddops P F ops ds rest K (setv σ d x)) ∧ (b ≠ want → ddops P F ops ds rest K (setv σ d (.tup [])))
      | .tup [] => ddops P F ops ds rest K (setv σ d (.tup []))
      | _ => False)

theorem ddops_split : ∀ (l : List Oper) (σ : St), ddops P F ops ds l K σ → dops P F ops ds (l.take (headN F l)) (fun σ' => vops P F ops (l.drop (headN F l)) K σ') σ
  | [], σ, h => h
  | o :: l, σ, h => by
    simp only [ddops] at h
    by_cases he : effB F o.dst o.op = true
    · rw [if_pos he] at h
      simp only [headN, if_pos he, List.take_zero, List.drop_zero, dops]
      exact h
    · rw [if_neg he] at h
      simp only [headN, if_neg he, List.take_succ_cons, List.drop_succ_cons, dops]
      refine bindO_imp h fun d h => ?_
      cases hg : o.guard with
      | none =>
        rw [hg] at h
        exact pureE_mono h fun x hx => ⟨hx.1, ddops_split l _ hx.2⟩
      | some g =>
        obtain ⟨j, want⟩ := g
        rw [hg] at h
        refine bindO_imp h fun t h => ?_
        split at h
        · exact ⟨fun e => pureE_mono (h.1 e) fun x hx => ⟨hx.1, ddops_split l _ hx.2⟩, fun e => ddops_split l _ (h.2 e)⟩
        · exact ddops_split l _ h
        · exact h.elim

/-! ### moves that may come late -/
/-- Operation i is a move that waits for nothing, and nothing that does not wait for it has to do with its two slots. -/
def lateOne (ops : Array Oper) (i : Nat) : Bool :=
  match ops[i]? with
  | some { dst := some d, op := .move (.tmp t), after, guard := none, .. } => after.isEmpty && Region.noSelect ops && (List.range ops.size).all fun j => j == i || (match ops[j]? with
    | some o => o.dst != some d && o.dst != some t && (!(o.looksAt ops).contains d || Region.waitsFor .any ops j i)
    | none => true)
  | _ => false

theorem lateOne_spec {i : Nat} (h : lateOne ops i = true) : ∃ d t oi, ops[i]? = some oi ∧ oi.dst = some d ∧ oi.op = .move (.tmp t) ∧ oi.after = #[] ∧ oi.guard = none ∧ Region.noSelect ops = true ∧
    ∀ j o, ops[j]? = some o → j ≠ i → o.dst ≠ some d ∧ o.dst ≠ some t ∧ (d ∈ o.looksAt ops → Region.waitsFor .any ops j i = true) := by
  unfold lateOne at h
  split at h
  · rename_i d t ty pos after heq
    simp only [Bool.and_eq_true, Array.isEmpty_iff] at h
    refine ⟨d, t, _, heq, rfl, rfl, h.1.1, rfl, h.1.2, fun j o ho hne => ?_⟩
    have hj : j < ops.size := (Array.getElem?_eq_some_iff.1 ho).1
    have := List.all_eq_true.1 h.2 j (List.mem_range.2 hj)
    simp only [ho, Bool.or_eq_true, beq_iff_eq, hne, false_or, Bool.and_eq_true, bne_iff_ne, ne_eq, Bool.not_eq_true', List.contains_eq_mem, decide_eq_false_iff_not] at this
    exact ⟨this.1.1, this.1.2, fun hd => (this.2.resolve_left (fun h => h hd))⟩
  · cases h

theorem wp_late {o : Oper} {a : Act} {K K' : Act → World → Prop} {Q' : Exit → Act → World → Prop} (hQ : ∀ ch a w, ¬ Q' (.panic ch) a w) (hL : ¬ LetsOut Q') (d : Nat) (v : Value) (he : execOp (a.put (some d) v).eval o = execOp a.eval o)
    (hK : ∀ (x : List Deferred) u w', K' (({ a with defers := x } : Act).put (some d) v |>.put o.dst u) w' → K (({ a with defers := x } : Act).put o.dst u) w') (h : o.wp P (a.put (some d) v) w K' Q') : o.wp P a w K Q' := by
  unfold Oper.wp at h ⊢
  rw [he] at h
  generalize (execOp a.eval o).run P w = res at h ⊢
  unfold Oper.upon at h ⊢
  split <;> simp only at h ⊢
  · exact hK a.defers _ _ h
  · exact hK a.defers _ _ h
  · exact hK _ _ _ h
  · refine h.mono ?_
    intro e' w'' hh
    cases e' with
    | returned u => exact hK a.defers _ _ hh
    | panicked ch => exact absurd hh (hQ _ _ _)
    | outgrown => exact absurd hh hL
  · exact h.mono fun u w'' hh => hK a.defers _ _ hh
  · exact absurd h (hQ _ _ _)

theorem noSelect_spec (h : Region.noSelect ops = true) {j : Nat} {o : Oper} (hj : ops[j]? = some o) : ∀ cs b, o.op ≠ .select cs b := by
  intro cs b e
  unfold Region.noSelect at h
  have := Array.all_eq_true'.1 h o (Array.mem_of_getElem? hj)
  rw [e] at this
  simp at this

/-- One late move may be made first. -/
theorem late_first {i : Nat} {Q' : Exit → Act → World → Prop} (hQ : ∀ ch a w, ¬ Q' (.panic ch) a w) (hL : ¬ LetsOut Q') {d t : Nat} {oi : Oper} (hi : ops[i]? = some oi) (h1 : oi.dst = some d) (h2 : oi.op = .move (.tmp t)) (h3 : oi.after = #[]) (h4 : oi.guard = none) (h5 : Region.noSelect ops = true)
    (h6 : ∀ j o, ops[j]? = some o → j ≠ i → o.dst ≠ some d ∧ o.dst ≠ some t ∧ (d ∈ o.looksAt ops → Region.waitsFor .any ops j i = true)) :
    ∀ (f : Nat) (listed : Array Bool) (a : Act) (w : World), listed.getD i true = false →
      wpAny P .any ops Q' f (listed.setIfInBounds i true) (a.put (some d) (a.eval (.tmp t))) w → wpAny P .any ops Q' (f + 1) listed a w := by
  intro f
  induction f with
  | zero =>
    intro listed a w hun H
    have hr : i ∈ Region.ready .any ops listed := mem_ready.2 ⟨hun, oi, hi, fun e he => by rw [h3] at he; simp at he⟩
    refine ⟨fun h => (by rw [h] at hr; cases hr), fun j hj => ?_⟩
    by_cases hji : j = i
    · subst hji
      unfold wpOp
      simp only [hi, Region.wanted, h4, if_true]
      refine .inl ?_
      have : (execOp a.eval oi).run P w = .ok (.value (a.eval (.tmp t))) w := by simp [execOp, h2]
      unfold Oper.wp
      rw [this]
      simp only [Oper.upon, h1]
      exact H
    · have := ready_mono hj hji
      rw [H.1] at this
      cases this
  | succ f ih =>
    intro listed a w hun H
    have hr : i ∈ Region.ready .any ops listed := mem_ready.2 ⟨hun, oi, hi, fun e he => by rw [h3] at he; simp at he⟩
    refine ⟨fun h => (by rw [h] at hr; cases hr), fun j hj => ?_⟩
    by_cases hji : j = i
    · subst hji
      unfold wpOp
      simp only [hi, Region.wanted, h4, if_true]
      refine .inl ?_
      have : (execOp a.eval oi).run P w = .ok (.value (a.eval (.tmp t))) w := by simp [execOp, h2]
      unfold Oper.wp
      rw [this]
      simp only [Oper.upon, h1]
      exact H
    · have hstep := H.2 j (ready_mono hj hji)
      obtain ⟨hjun, oj, hoj, hall⟩ := mem_ready.1 hj
      obtain ⟨g1, g2, g3⟩ := h6 j oj hoj hji
      have hnl : d ∉ oj.looksAt ops := fun hd => by
        obtain ⟨o', ho', e, he, hb, hon⟩ := Region.waitsFor_spec (g3 hd)
        obtain rfl : oj = o' := Option.some.inj (hoj.symm.trans ho')
        have := hall e he hb
        rw [hon, getD_both hun] at this
        cases this
      have hne : ∀ (x : List Deferred) (u : Value), (({ a with defers := x } : Act).put (some d) (a.eval (.tmp t))).put oj.dst u = (({ a with defers := x } : Act).put oj.dst u).put (some d) ((({ a with defers := x } : Act).put oj.dst u).eval (.tmp t)) := by
        intro x u
        rw [Act.put_comm _ _ _ (fun d' hd' => by obtain rfl : d = d' := (by simpa using hd'); exact g1)]
        congr 1
        rw [Act.eval_put (fun d' hd' e => by
          simp only [Operand.tmp.injEq] at e
          subst e
          exact g2 hd')]
        rfl
      have next : ∀ (x : List Deferred) (u : Value) (w' : World), wpAny P .any ops Q' f ((listed.setIfInBounds i true).setIfInBounds j true) ((({ a with defers := x } : Act).put (some d) (a.eval (.tmp t))).put oj.dst u) w' →
          wpAny P .any ops Q' (f + 1) (listed.setIfInBounds j true) (({ a with defers := x } : Act).put oj.dst u) w' := by
        intro x u w' hx
        rw [hne x u, Array.setIfInBounds_comm _ _ (Ne.symm hji)] at hx
        exact ih _ _ _ (by rw [getD_set_ne true hji]; exact hun) hx
      unfold wpOp at hstep ⊢
      simp only [hoj] at hstep ⊢
      have hy : Region.wanted oj (yielded ops (a.put (some d) (a.eval (.tmp t))).tmps) = Region.wanted oj (yielded ops a.tmps) := by
        unfold Region.wanted
        cases hg : oj.guard with
        | none => rfl
        | some g =>
          obtain ⟨k, want⟩ := g
          have : yielded ops (a.put (some d) (a.eval (.tmp t))).tmps k = yielded ops a.tmps k := by
            unfold yielded
            cases hk : (ops[k]?).bind (·.dst) with
            | none => rfl
            | some s =>
              have hsd : d ≠ s := by
                rintro rfl
                exact hnl (by simp [Oper.looksAt, hg, hk])
              simp [Act.put, Array.getElem?_setIfInBounds_ne hsd]
          simp only [this]
      rw [hy] at hstep
      split
      · rename_i hw
        rw [if_pos hw] at hstep
        rcases hstep with hstep | ⟨_, hstep⟩
        · exact .inl (wp_late hQ hL d _ (execOp_put (ops := ops) oj (noSelect_spec h5 hoj) a (some d) _ (fun d' hd' => by obtain rfl : d = d' := (by simpa using hd'); exact hnl)) next hstep)
        · exact absurd hstep hL
      · rename_i hw
        rw [if_neg hw] at hstep
        exact next a.defers undef w hstep

/-- How many operations, from the first one on, are late moves. -/
def lateN (ops : Array Oper) : Nat := ((List.range ops.size).takeWhile (lateOne ops)).length
theorem lateN_spec {i : Nat} (h : i < lateN ops) : lateOne ops i = true := by
  have hmem : ((List.range ops.size).takeWhile (lateOne ops))[i]? = some i := by
    have h1 : (List.range ops.size).takeWhile (lateOne ops) <+: List.range ops.size := List.takeWhile_prefix _
    obtain ⟨r, hr⟩ := h1
    have h2 : (List.range ops.size)[i]? = ((List.range ops.size).takeWhile (lateOne ops))[i]? := by
      conv => lhs; rw [← hr]
      exact List.getElem?_append_left h
    rw [← h2]
    have h3 : i < (List.range ops.size).length := by rw [← hr]; simp only [List.length_append]; unfold lateN at h; omega
    rw [List.getElem?_range (by simpa using h3)]
  exact List.all_takeWhile (p := lateOne ops) (l := List.range ops.size) |> fun h => List.all_eq_true.1 h i (List.mem_of_getElem? hmem)

def markN : Nat → Array Bool → Array Bool
  | 0, l => l
  | k + 1, l => (markN k l).setIfInBounds k true

def sinkB' (ops : Array Oper) (k n : Nat) : Bool := (List.range n).all fun i => decide (i < k) || (List.range (n + 1)).any fun j => decide (i < j) && Region.waitsFor .any ops j i

theorem tail_waits' {k n : Nat} {listed : Array Bool} (hs : sinkB' ops k n = true) (hc : Region.chainB .any ops n = true) (hn : n < ops.size) (inv : HeadInv .any ops n listed) (hk : ∀ i, i < k → listed.getD i false = true) :
    ∀ (d i : Nat), n - i = d → i < n → listed.getD i true = false → ∀ t, n ≤ t → t ∉ Region.ready .any ops listed := by
  intro d
  induction d using Nat.strongRecOn with
  | _ d ih =>
    intro i hd hi hun t ht hr
    obtain ⟨_, ot, hot, hall⟩ := mem_ready.1 hr
    have htlt : t < ops.size := (Array.getElem?_eq_some_iff.1 hot).1
    by_cases htn : t = n
    · subst htn
      have h1 := List.all_eq_true.1 hs i (List.mem_range.2 hi)
      simp only [Bool.or_eq_true, decide_eq_true_eq] at h1
      rcases h1 with h1 | h1
      · have := hk i h1
        rw [getD_both hun] at this
        cases this
      obtain ⟨j, hj, hj2⟩ := List.any_eq_true.1 h1
      simp only [Bool.and_eq_true, decide_eq_true_eq] at hj2
      obtain ⟨oj, hoj, e, he, hb, hon⟩ := Region.waitsFor_spec hj2.2
      have hjle : j ≤ t := by have := List.mem_range.1 hj; omega
      by_cases hjt : j = t
      · subst hjt
        have : oj = ot := Option.some.inj (hoj.symm.trans hot)
        subst this
        have h2 := hall e he hb
        rw [hon, getD_both hun] at h2
        cases h2
      · cases hl : listed.getD j false with
        | true =>
          have h2 := inv.closed j oj hoj hl e he hb
          rw [hon, getD_both hun] at h2
          cases h2
        | false =>
          have hjs : j < listed.size := by rw [inv.size]; omega
          exact ih (t - j) (by omega) j rfl (by omega) (getD_in hjs hl) t (Nat.le_refl _) hr
    · have h1 := List.all_eq_true.1 hc t (List.mem_range.2 htlt)
      simp only [Bool.or_eq_true, decide_eq_true_eq] at h1
      rcases h1 with h1 | h1
      · omega
      · obtain ⟨o', ho', e, he, hb, hon⟩ := Region.waitsFor_spec h1
        have : o' = ot := Option.some.inj (ho'.symm.trans hot)
        subst this
        have h2 := hall e he hb
        rw [hon, getD_both (inv.tail (t - 1) (by omega) (by omega))] at h2
        cases h2

/-- What is asked of a region's text. -/
def drawB (F : Nat → Bool) (ops : Array Oper) : Bool :=
  let n := headN F ops.toList
  let k := min n (lateN ops)
  (decide (n = ops.size) || (decide (n < ops.size) && sinkB' ops k n && Region.chainB .any ops n)) &&
  Region.lexHead .any ops (ops.size - n) (n - k) k (markN k (Array.replicate ops.size false)) && (ops.toList.all fun o => match o.dst with
    | some d => decide (d < 1000000)
    | none => true)

theorem headN_le : ∀ (l : List Oper), headN F l ≤ l.length
  | [] => Nat.le_refl _
  | o :: l => by simp only [headN]; split <;> simp; have := headN_le l; omega

end Go.Vw

/- Regions whose order Go leaves open, third part: the walk of the text's order serves, late moves too. -/
namespace Go.Vw
open Go.RowKit Go.Proofs

variable {P : Program} {F : Nat → Bool} {w0 : World} {L0 : Nat → Nat → Prop} {row : Nat → Prop} {n : Nat} {K : St → Prop} {Q : Exit → Act → World → Prop}
  {w w' : World} {L L' : Nat → Nat → Prop} {O O' : Nat → Option Nat} {σ σ' : St} {a : Act} {o : Oper} {d : Nat} {v : Value} {tm : Nat → Value}
  {ops : Array Oper} {md : Region.Mode} {ds : List Nat}

theorem markN_size (s : Nat) : ∀ m, (markN m (Array.replicate s false)).size = s
  | 0 => by simp [markN]
  | m + 1 => by simp [markN, markN_size s m]
theorem markN_off {s : Nat} : ∀ (m i : Nat), m ≤ i → i < s → (markN m (Array.replicate s false)).getD i true = false
  | 0, i, _, hi => getD_in (by simpa [markN] using hi) (getD_replicate_false _ _)
  | m + 1, i, h, hi => by
    simp only [markN]
    rw [getD_set_ne true (by omega)]
    exact markN_off m i (by omega) hi
theorem markN_on {s : Nat} : ∀ (m i : Nat), i < m → i < s → (markN m (Array.replicate s false)).getD i false = true
  | 0, i, h, _ => by omega
  | m + 1, i, h, hi => by
    simp only [markN]
    by_cases him : m = i
    · subst him
      have := markN_size s m
      simp [this, hi]
    · rw [getD_set_ne false him]
      exact markN_on m i (by omega) hi

theorem markN_inv {nn : Nat} (hn : nn ≤ ops.size) : ∀ (m : Nat), m ≤ nn → (∀ i, i < m → lateOne ops i = true) → HeadInv .any ops nn (markN m (Array.replicate ops.size false))
  | 0, _, _ => ⟨by simp [markN], fun j oj _ hl => (by simp only [markN] at hl; rw [getD_replicate_false] at hl; cases hl), fun t _ ht => markN_off 0 t (Nat.zero_le _) ht⟩
  | m + 1, hm, hl => by
    have ih := markN_inv hn m (by omega) (fun i hi => hl i (by omega))
    obtain ⟨d, t, oi, g1, g2, g3, g4, g5, g6, g7⟩ := lateOne_spec (hl m (by omega))
    refine ih.set (mem_ready.2 ⟨markN_off m m (Nat.le_refl _) (by omega), oi, g1, fun e he => ?_⟩) (by omega)
    rw [g4] at he; simp at he

theorem draw_ok {id kk : Nat} {K : St → Prop} (hm : P.follows .mixedOrders = true) (hB : drawB F ops = true) (hdst : ∀ o ∈ ops.toList, ∀ d, o.dst = some d → d < kk)
    (h : Good P w0 L0 row kk (fun σ => ddops P F ops (dstsOf ops.toList) ops.toList K (clean (dstsOf ops.toList) σ)) a w) (hQ : ∀ a w, Good P w0 L0 row kk K a w → Q .normal a w) : (Code.region id ops true).wp P Q a w := by
  obtain ⟨L, O, σ, hR, hdef, hsz, h⟩ := h
  simp only [drawB] at hB
  generalize hnn : headN F ops.toList = nn at hB
  generalize hkk : min nn (lateN ops) = k at hB
  simp only [Bool.and_eq_true, Bool.or_eq_true, decide_eq_true_eq] at hB
  obtain ⟨⟨hcase, hlex⟩, hlt6⟩ := hB
  have hle := headN_le (F := F) ops.toList
  rw [Array.length_toList, hnn] at hle
  have hkn : k ≤ nn := by omega
  have hlate : ∀ i, i < k → lateOne ops i = true := fun i hi => lateN_spec (by omega)
  have hds6 : ∀ d ∈ dstsOf ops.toList, d < 1000000 := by
    intro d hd
    simp only [dstsOf, List.mem_filterMap] at hd
    obtain ⟨o, ho, hod⟩ := hd
    have := List.all_eq_true.1 hlt6 o ho
    simpa [hod] using this
  have hds : ∀ o ∈ ops.toList, ∀ d, o.dst = some d → d ∈ dstsOf ops.toList := fun o ho d hd => by simp only [dstsOf, List.mem_filterMap]; exact ⟨o, ho, hd⟩
  let Q0 : Exit → Act → World → Prop := fun e a w => e = .normal ∧ Good P w0 L0 row kk K a w
  have hQp : ∀ ch a w, ¬ Q0 (.panic ch) a w := fun ch a w h => by cases h.1
  have hQl : ¬ LetsOut Q0 := fun ⟨a, w, h⟩ => by cases h.1
  refine wp_mono (Q := Q0) (wp_region_any hm ?_) (fun e a w ⟨he, hg⟩ => by subst he; exact hQ a w hg)
  generalize hw1 : ({ w with drawn := w.drawn + 1 } : World) = w1
  have hR1 : Rel P w0 L0 row w1 L O (clean (dstsOf ops.toList) σ) (tmOf a) := by rw [← hw1]; exact (hR.drew).clean _
  have h0 := ddops_split (F := F) _ _ h
  rw [hnn] at h0
  have htl : (ops.toList.take nn).length = nn := by simp; omega
  have hdl : (ops.toList.drop nn).length = ops.size - nn := by simp
  -- from the late moves on
  have main : ∀ j, j ≤ k → ∀ a, Good P w0 L0 row kk (fun σ => INV (dstsOf ops.toList) σ ∧ dops P F ops (dstsOf ops.toList) ((ops.toList.take nn).drop (k - j)) (fun σ' => vops P F ops (ops.toList.drop nn) K σ') σ) a w1 →
      wpAny P .any ops Q0 (ops.size - (k - j)) (markN (k - j) (Array.replicate ops.size false)) a w1 := by
    intro j
    induction j with
    | zero =>
      intro _ a hg
      simp only [Nat.sub_zero] at hg ⊢
      obtain ⟨L1, O1, a0, hR2, hd2, hs2, hI, hv⟩ := hg
      have inv0 := markN_inv hle k hkn hlate
      have hk0 : ∀ i, i < k → (markN k (Array.replicate ops.size false)).getD i false = true := fun i hi => markN_on k i hi (by omega)
      have hlt : ∀ listed, HeadInv .any ops nn listed ∧ (∀ i, i < k → listed.getD i false = true) → ∀ i, i < nn → listed.getD i true = false → ∀ j ∈ Region.ready .any ops listed, j < nn := by
        intro listed ⟨inv, hk⟩ i hi hun j hj
        rcases hcase with h1 | ⟨⟨h1, h2⟩, h3⟩
        · obtain ⟨_, o, ho, _⟩ := mem_ready.1 hj
          rw [h1]
          exact (Array.getElem?_eq_some_iff.1 ho).1
        · rcases Nat.lt_or_ge j nn with h4 | h4
          · exact h4
          · exact absurd hj (tail_waits' h2 h3 h1 inv hk _ i rfl hi hun j h4)
      have H := anyV_lex (md := .any) (g := ops.size - nn) (P := P) (F := F) (ds := dstsOf ops.toList) (K := fun σ' => vops P F ops (ops.toList.drop nn) K σ') (fun listed => HeadInv .any ops nn listed ∧ ∀ i, i < k → listed.getD i false = true)
        (fun listed j ⟨h1, h2⟩ hj hjn => ⟨h1.set hj hjn, fun i hi => getD_set_true (h2 i hi)⟩) hlt hds ((ops.toList.take nn).drop k) k _ a0 (fun j hj => by
          have hj' : k + j < nn := by simp at hj; omega
          simp [List.getElem?_drop, List.getElem?_take, hj']) (by simp; omega) ⟨inv0, hk0⟩ (by rw [List.length_drop, htl]; exact hlex) hI hv
      have := any_of_V (md := .any) (Q := Q0) (g := ops.size - nn) (k := kk) (w0 := w0) (L0 := L0) (row := row) hdst (fun listed a' w' hg => by
        obtain ⟨L1, O1, σ1, hR1, hd1, hs1, _, hseq, _, hv⟩ := hg
        have := wpAny_of_seq (md := .any) (Q' := Q0) (P := P) (ops.toList.drop nn) nn listed a' w' (fun j => by simp [List.getElem?_drop]) (by rw [hdl]; exact hseq)
          (vops_ok (ops.toList.drop nn) a' w' (fun o ho d hd => hdst o (List.mem_of_mem_drop ho) d hd) ⟨L1, O1, σ1, hR1, hd1, hs1, hv⟩ (fun a w hg => ⟨rfl, hg⟩))
        rwa [hdl] at this) _ _ a w1 ⟨L1, O1, a0, hR2, hd2, hs2, hI, H⟩
      rw [List.length_drop, htl, show nn - k + (ops.size - nn) = ops.size - k by omega] at this
      exact this
    | succ j ih =>
      intro hj a hg
      have hik : k - (j + 1) < k := by omega
      obtain ⟨d, t, oi, g1, g2, g3, g4, g5, g6, g7⟩ := lateOne_spec (hlate _ hik)
      have hsucc : k - j = k - (j + 1) + 1 := by omega
      have hstep : ops.size - (k - (j + 1)) = (ops.size - (k - j)) + 1 := by omega
      rw [hstep]
      refine late_first hQp hQl g1 g2 g3 g4 g5 g6 g7 _ _ _ _ (markN_off _ _ (Nat.le_refl _) (by omega)) ?_
      have hmk : (markN (k - (j + 1)) (Array.replicate ops.size false)).setIfInBounds (k - (j + 1)) true = markN (k - j) (Array.replicate ops.size false) := by rw [hsucc]; rfl
      rw [hmk]
      refine ih (by omega) _ ?_
      obtain ⟨L1, O1, σ1, hR2, hd2, hs2, hI, hv⟩ := hg
      have hcons : (ops.toList.take nn).drop (k - (j + 1)) = oi :: (ops.toList.take nn).drop (k - j) := by
        rw [List.drop_eq_getElem_cons (by rw [htl]; omega), hsucc]
        congr 1
        have : (ops.toList.take nn)[k - (j + 1)]? = some oi := by rw [List.getElem?_take, if_pos (by omega)]; simpa using g1
        exact (List.getElem?_eq_some_iff.1 this).2
      rw [hcons] at hv
      have hmem : oi ∈ ops.toList := by rw [Array.mem_toList_iff]; exact Array.mem_of_getElem? g1
      obtain ⟨d', x, ⟨y1, y2, y3, y4⟩, hK⟩ := dops_step (hds oi hmem) hv
      obtain rfl : d = d' := by rw [g2] at y1; simpa using y1
      have hp : pureE P F oi.op d σ1 (fun y => y = x) := by
        rcases y4 with ⟨_, hp⟩ | ⟨hw, _⟩
        · exact hp
        · simp [wantV, g5] at hw
      have hwp := pureE_ok (K := fun τ => τ = put σ1 d x) (Q := fun _ _ _ => False) g2 (hdst oi hmem d g2) hs2 hd2 hR2 (pureE_mono hp fun y hy => by rw [hy])
      have hrun : (execOp a.eval oi).run P w1 = .ok (.value (a.eval (.tmp t))) w1 := by simp [execOp, g3]
      unfold Oper.wp at hwp
      rw [hrun] at hwp
      simp only [Oper.upon, g2] at hwp
      obtain ⟨L2, O2, σ2, hR3, hd3, hs3, rfl⟩ := hwp
      rw [put_setv hI y2 y3] at hR3
      exact ⟨L2, O2, _, hR3, hd3, hs3, hI.setv y3, hK⟩
  have := main k (Nat.le_refl _) a ⟨L, O, _, hR1, hdef, hsz, clean_inv hds6, by rw [Nat.sub_self, List.drop_zero]; exact h0⟩
  rw [Nat.sub_self] at this
  exact this
end Go.Vw

/- The abstract walk is sound: code, functions. -/
namespace Go.Vw
open Go.RowKit Go.Proofs

/-- A loop: an invariant that bears a number, which every round lowers. -/
def LoopK (body : (Exit → St → Prop) → St → Prop) (Q : Exit → St → Prop) (σ : St) : Prop :=
  ∃ (I : Nat → St → Prop) (k : Nat), I k σ ∧ ∀ m τ, I m τ → body (thenV (fun τ' => ∃ m', m' < m ∧ I m' τ') Q) τ

def vwp (P : Program) (F : Nat → Bool) : Code → (Exit → St → Prop) → St → Prop
  | .skip, Q, σ => Q .normal σ
  | .region _ ops false, Q, σ => vops P F ops ops.toList (Q .normal) σ
  | .region _ ops true, Q, σ => ddops P F ops (dstsOf ops.toList) ops.toList (Q .normal) (clean (dstsOf ops.toList) σ)
  | .seq x y, Q, σ => vwp P F x (thenV (vwp P F y Q) Q) σ
  | .cond c x y, Q, σ => (match aval σ c with
    | .d (.bool b) => (b = true → vwp P F x Q σ) ∧ (b = false → vwp P F y Q σ)
    | _ => False)
  | .block id c, Q, σ => vwp P F c (inBlockV id Q) σ
  | .loop c, Q, σ => LoopK (vwp P F c) Q σ
  | .exit id, Q, σ => Q (.exit id) σ
  | .ret, Q, σ => Q .ret σ
  | _, _, _ => False

def okDst (F : Nat → Bool) (n : Nat) : Code → Bool
  | .region _ ops dr => (ops.toList.all fun o => match o.dst with
    | some d => decide (d < n)
    | none => true) && (!dr || drawB F ops)
  | .seq x y | .cond _ x y => okDst F n x && okDst F n y
  | .block _ c | .loop c => okDst F n c
  | _ => true

variable {P : Program} {F : Nat → Bool} {w0 : World} {L0 : Nat → Nat → Prop} {row : Nat → Prop} {n : Nat} {K : St → Prop} {Q : Exit → Act → World → Prop}
  {w w' : World} {L L' : Nat → Nat → Prop} {O O' : Nat → Option Nat} {σ σ' : St} {a : Act} {o : Oper} {d : Nat} {v : Value} {tm : Nat → Value}

def post (P : Program) (w0 : World) (L0 : Nat → Nat → Prop) (row : Nat → Prop) (n : Nat) (Q : Exit → St → Prop) : Exit → Act → World → Prop := fun e a w => Good P w0 L0 row n (Q e) a w

theorem vwp_ok (hm : P.follows .mixedOrders = true) : ∀ (c : Code) (Q : Exit → St → Prop) (a : Act) (w : World), okDst F n c = true → Good P w0 L0 row n (vwp P F c Q) a w → c.wp P (post P w0 L0 row n Q) a w
  | .skip, Q, a, w, _, h => wp_skip h
  | .region _ ops false, Q, a, w, hok, h => by
    simp only [okDst, Bool.and_eq_true] at hok
    refine wp_region_list (vops_ok ops.toList a w (fun o ho d hd => ?_) h (fun a w h => h))
    have := List.all_eq_true.1 hok.1 o ho
    simpa [hd] using this
  | .region _ ops true, Q, a, w, hok, h => by
    simp only [okDst, Bool.and_eq_true, Bool.not_true, Bool.false_or] at hok
    refine draw_ok hm hok.2 (fun o ho d hd => ?_) h (fun a w h => h)
    have := List.all_eq_true.1 hok.1 o ho
    simpa [hd] using this
  | .seq x y, Q, a, w, hok, h => by
    simp only [okDst, Bool.and_eq_true] at hok
    refine wp_seq (wp_mono (vwp_ok hm x _ a w hok.1 h) ?_)
    intro e a' w' hg
    cases e with
    | normal => exact vwp_ok hm y Q a' w' hok.2 hg
    | exit id => exact hg
    | goto l => exact hg
    | ret => exact hg
    | panic ch => exact hg
    | outgrown => exact hg
  | .cond c x y, Q, a, w, hok, h => by
    simp only [okDst, Bool.and_eq_true] at hok
    obtain ⟨L, O, σ, hR, hdef, hsz, hv⟩ := h
    simp only [vwp] at hv
    split at hv
    · rename_i b hc
      have hcv := (aval_d hR hc).bool_inv
      exact wp_cond_split hcv (fun hb => vwp_ok hm x Q a w hok.1 ⟨L, O, σ, hR, hdef, hsz, hv.1 hb⟩) (fun hb => vwp_ok hm y Q a w hok.2 ⟨L, O, σ, hR, hdef, hsz, hv.2 hb⟩)
    · exact hv.elim
  | .block id c, Q, a, w, hok, h => by
    refine wp_block (wp_mono (vwp_ok hm c _ a w hok h) ?_)
    intro e a' w' hg
    cases e with
    | exit id' =>
      show if id' = id then post P w0 L0 row n Q .normal a' w' else post P w0 L0 row n Q (.exit id') a' w'
      have hg' : Good P w0 L0 row n (fun σ => if id' = id then Q .normal σ else Q (.exit id') σ) a' w' := hg
      split
      · exact hg'.mono fun σ h => by rwa [if_pos (by assumption)] at h
      · exact hg'.mono fun σ h => by rwa [if_neg (by assumption)] at h
    | normal => exact hg
    | goto l => exact hg
    | ret => exact hg
    | panic ch => exact hg
    | outgrown => exact hg
  | .loop c, Q, a, w, hok, h => by
    obtain ⟨L, O, σ, hR, hdef, hsz, I, k, h0, hI⟩ := h
    refine wp_loop_ghost (fun m a w => Good P w0 L0 row n (I m) a w) k ⟨L, O, σ, hR, hdef, hsz, h0⟩ ?_
    intro m a' w' hg
    refine wp_mono (vwp_ok hm c _ a' w' hok (hg.mono fun τ hτ => hI m τ hτ)) ?_
    intro e a2 w2 hg2
    cases e with
    | normal =>
      obtain ⟨L2, O2, σ2, hR2, hd2, hs2, m', hm, hI2⟩ := hg2
      exact ⟨m', hm, L2, O2, σ2, hR2, hd2, hs2, hI2⟩
    | exit id => exact hg2
    | goto l => exact hg2
    | ret => exact hg2
    | panic ch => exact hg2
    | outgrown => exact hg2
  | .exit id, Q, a, w, _, h => wp_exit h
  | .ret, Q, a, w, _, h => wp_ret h
  | .rangeFunc .., Q, a, w, _, h => by obtain ⟨_, _, _, _, _, _, h⟩ := h; simp only [vwp] at h
  | .scope _, Q, a, w, _, h => by obtain ⟨_, _, _, _, _, _, h⟩ := h; simp only [vwp] at h
  | .label _, Q, a, w, _, h => by obtain ⟨_, _, _, _, _, _, h⟩ := h; simp only [vwp] at h
  | .goto _, Q, a, w, _, h => by obtain ⟨_, _, _, _, _, _, h⟩ := h; simp only [vwp] at h
  | .refuse _, Q, a, w, _, h => by obtain ⟨_, _, _, _, _, _, h⟩ := h; simp only [vwp] at h

/-- What a result slot must hold for a contract's result. -/
def Res1 (x r : AV) : Prop :=
  match r with
  | .d y => (match x with
    | .own true _ l => y = .sl l
    | .bor _ true _ l => y = .sl l
    | _ => asD x = some y)
  | .own m e l => (match x with
    | .own m' e' l' => m' = m ∧ e' = e ∧ l' = l
    | .bor _ m' e' l' => m' = m ∧ e' = e ∧ l' = l
    | _ => False)
  | .undef => True
  | _ => False

theorem OwnR.seen {og : Option Nat} {e : TypeId} {l : List D} {v : Value} (hlok : ∀ b q, L b q → b < w.heap.size) (hog : ∀ g, og = some g → g < w.heap.size) (h : OwnR P w L og true e l v) :
    ∃ L', RepV w L' (.sl l) v ∧ (∀ c q, L' c q → c < w.heap.size) ∧ (∀ c q, some c ≠ og → (L' c q ↔ L c q)) ∧ Ext w L w L' := by
  have h' : RC P w L og (.own true e l) v := h
  obtain ⟨L', h1, h2, h3, h4⟩ := h'.demote false hlok hog
  have h1' : OwnR P w L' og false e l v := h1
  exact ⟨L', h1'.at_, h2, h3, h4⟩

/-- A result slot, as the caller sees it. -/
theorem res1_ok (hR : Rel P w0 L0 row w L O σ tm) {t : Nat} {r : AV} (h : Res1 (σ t) r) :
    ∃ L' og', (∀ b q, L' b q → b < w.heap.size) ∧ (∀ b q, b < w0.heap.size → ¬ row b → (L' b q ↔ L0 b q)) ∧ (∀ g, og' = some g → g < w.heap.size ∧ (w0.heap.size ≤ g ∨ row g)) ∧ Ext w L w L' ∧ RC P w L' og' r (tm t) := by
  have h1 := hR.slots t
  have keep : ∀ og', (∀ g, og' = some g → g < w.heap.size ∧ (w0.heap.size ≤ g ∨ row g)) → RC P w L og' r (tm t) →
      ∃ L' og', (∀ b q, L' b q → b < w.heap.size) ∧ (∀ b q, b < w0.heap.size → ¬ row b → (L' b q ↔ L0 b q)) ∧ (∀ g, og' = some g → g < w.heap.size ∧ (w0.heap.size ≤ g ∨ row g)) ∧ Ext w L w L' ∧ RC P w L' og' r (tm t) :=
    fun og' hg hr => ⟨L, og', hR.lok, hR.old, hg, fun _ _ h => ⟨h, fun _ hv => hv⟩, hr⟩
  have seen : ∀ (j : Nat) (e : TypeId) (l : List D), OwnR P w L (O j) true e l (tm t) → r = .d (.sl l) →
      ∃ L' og', (∀ b q, L' b q → b < w.heap.size) ∧ (∀ b q, b < w0.heap.size → ¬ row b → (L' b q ↔ L0 b q)) ∧ (∀ g, og' = some g → g < w.heap.size ∧ (w0.heap.size ≤ g ∨ row g)) ∧ Ext w L w L' ∧ RC P w L' og' r (tm t) := by
    rintro j e l ho rfl
    obtain ⟨L', g1, g2, g3, g4⟩ := ho.seen hR.lok (fun g hg => (hR.olt j g hg).1)
    refine ⟨L', none, g2, fun b q hb hr => ?_, by simp, g4, by simpa only [RC] using g1⟩
    refine (g3 b q (fun e => ?_)).trans (hR.old b q hb hr)
    rcases (hR.olt j b e.symm).2 with h2 | h2
    · omega
    · exact hr h2
  cases r with
  | d y =>
    have other : asD (σ t) = some y → RepV w L y (tm t) := fun h => RA.asD hR.slots h1 h
    simp only [Res1] at h
    split at h
    · rename_i e l hx
      subst h
      rw [hx] at h1
      exact seen t e l h1 rfl
    · rename_i j e l hx
      subst h
      rw [hx] at h1
      obtain ⟨h2, h3⟩ := h1
      have h4 := hR.slots j
      rw [h2] at h4
      exact seen j e l (by rw [h3]; exact h4) rfl
    · exact keep none (by simp) (by simpa only [RC] using other h)
  | own m e l =>
    simp only [Res1] at h
    split at h
    · rename_i m' e' l' hx
      obtain ⟨rfl, rfl, rfl⟩ := h
      rw [hx] at h1
      exact keep (O t) (fun g hg => hR.olt t g hg) h1
    · rename_i j m' e' l' hx
      obtain ⟨rfl, rfl, rfl⟩ := h
      rw [hx] at h1
      obtain ⟨h2, h3⟩ := h1
      have h4 := hR.slots j
      rw [h2] at h4
      exact keep (O j) (fun g hg => hR.olt j g hg) (by rw [h3]; exact h4)
    · exact h.elim
  | undef => exact keep none (by simp) (by simp [RC])
  | _ => exact h.elim

/-- The state at a function's beginning. -/
def initS (args : List AV) : St := fun i => match args[i]? with
  | some x => x
  | none => .undef

def isOwn : AV → Bool
  | .own _ _ _ => true
  | _ => false
def isArg : AV → Bool
  | .d _ => true
  | .own true _ _ => true
  | _ => false

theorem RCs.getI {og : Option Nat} {xs : List AV} {vs : List Value} (h : RCs P w L og xs vs) {i : Nat} {x : AV} (hx : xs[i]? = some x) : ∃ v, vs[i]? = some v ∧ RC P w L og x v := h.get hx

theorem RCs.length {og : Option Nat} : ∀ {xs : List AV} {vs : List Value}, RCs P w L og xs vs → vs.length = xs.length
  | [], _, h => by simp only [RCs] at h; subst h; rfl
  | x :: xs, _, h => by
    simp only [RCs] at h
    obtain ⟨v, us, rfl, h1, h2⟩ := h
    simp [RCs.length h2]

def oneOwn : List AV → Bool
  | [] => true
  | x :: xs => if isOwn x then xs.all (fun y => !isOwn y) else oneOwn xs
theorem oneOwn_ok : ∀ {args : List AV} {i j : Nat} {x y : AV}, oneOwn args = true → args[i]? = some x → args[j]? = some y → isOwn x = true → isOwn y = true → i = j
  | [], i, _, _, _, _, h, _, _, _ => by simp at h
  | z :: zs, i, j, x, y, h, hx, hy, h1, h2 => by
    simp only [oneOwn] at h
    split at h
    · have hz : ∀ (k : Nat) (u : AV), zs[k]? = some u → isOwn u = false := fun k u hk => by
        have := List.all_eq_true.1 h u (List.mem_of_getElem? hk)
        simpa using this
      cases i <;> cases j
      · rfl
      · simp only [List.getElem?_cons_succ] at hy; rw [hz _ _ hy] at h2; cases h2
      · simp only [List.getElem?_cons_succ] at hx; rw [hz _ _ hx] at h1; cases h1
      · simp only [List.getElem?_cons_succ] at hx; rw [hz _ _ hx] at h1; cases h1
    · rename_i hz
      cases i with
      | zero => simp only [List.getElem?_cons_zero, Option.some.injEq] at hx; subst hx; exact absurd h1 hz
      | succ i =>
        cases j with
        | zero => simp only [List.getElem?_cons_zero, Option.some.injEq] at hy; subst hy; exact absurd h2 hz
        | succ j =>
          simp only [List.getElem?_cons_succ] at hx hy
          rw [oneOwn_ok h hx hy h1 h2]

/-- The slot that owns, at the beginning. -/
def ownAt (args : List AV) (og : Option Nat) : Nat → Option Nat := fun i => match args[i]? with
  | some x => if isOwn x then og else none
  | none => none

theorem init_rel {og : Option Nat} {args : List AV} {vals : List Value} {k : Nat} (hlok : ∀ b q, L b q → b < w.heap.size) (hog : ∀ g, og = some g → g < w.heap.size ∧ ∀ q, ¬ L g q) (h : RCs P w L og args vals)
    (harg : (args.all isArg) = true) (hone : oneOwn args = true) :
    Rel P w L (optB og) w L (ownAt args og) (initS args) (tmOf { tmps := vals.toArray ++ Array.replicate k undef, defers := [] }) := by
  refine ⟨GrownS.refl w _, hlok, fun _ _ _ _ => Iff.rfl, fun i => ?_, fun i j g hi hj => ?_, fun i g hi => ?_⟩
  · simp only [ownAt, initS]
    cases hx : args[i]? with
    | none => simp [RA, RC]
    | some x =>
      obtain ⟨v, hv, hr⟩ := h.get hx
      have htm : tmOf { tmps := vals.toArray ++ Array.replicate k undef, defers := [] } i = v := by
        have hl : i < vals.length := (List.getElem?_eq_some_iff.1 hv).1
        simp only [tmOf, Array.getD_eq_getD_getElem?]
        rw [Array.getElem?_append_left (by simpa using hl)]
        simp [hv]
      rw [htm]
      have ha := List.all_eq_true.1 harg x (List.mem_of_getElem? hx)
      cases x <;> simp [isArg] at ha <;> simp only [isOwn, Bool.false_eq_true, if_false, if_true]
      case d y => exact hr
      case own m e l => exact hr
  · simp only [ownAt] at hi hj
    split at hi
    · rename_i x hx
      split at hi
      · rename_i h1
        split at hj
        · rename_i y hy
          split at hj
          · rename_i h2
            exact oneOwn_ok hone hx hy h1 h2
          · cases hj
        · cases hj
      · cases hi
    · cases hi
  · simp only [ownAt] at hi
    split at hi
    · split at hi
      · exact ⟨(hog g hi).1, .inr hi⟩
      · cases hi
    · cases hi

/-- At the end of a function: what its results' slots hold. -/
def EndK (ts : List Nat) (rs : List AV) (single : Bool) (e : Exit) (σ : St) : Prop :=
  (e = .ret ∨ e = .normal) ∧ match ts, rs with
  | [t], [r] => single = true ∧ Res1 (σ t) r
  | _, _ => False

def EndV (t : Nat) (r : AV) : Exit → St → Prop := fun e σ => (e = .ret ∨ e = .normal) ∧ Res1 (σ t) r
def EndV2 (t u : Nat) (r : AV) (y : D) : Exit → St → Prop := fun e σ => (e = .ret ∨ e = .normal) ∧ Res1 (σ t) r ∧ asD (σ u) = some y

theorem fn_of_vwp {f : FuncId} {fn : Func} {c : Code} {args : List AV} {t : Nat} {r : AV} (F : Nat → Bool) (hm : P.follows .mixedOrders = true) (hf : P.funcs[f]? = some fn) (hname : (fn.name == "runtime.NumGoroutine") = false) (hb : fn.body = some c) (hres : fn.results = #[.tmp t])
    (hargs : args.length ≤ fn.ntmps) (hok : okDst F fn.ntmps c = true) (harg : (args.all isArg) = true) (hone : oneOwn args = true)
    (h : vwp P F c (EndV t r) (initS args)) : Ctr P f args r := by
  refine ⟨enters_of hf hname hb, fun w L og vals hlok hog hrc => ?_⟩
  have hl := hrc.length
  refine calls_of_wp hf hb (wp_mono (vwp_ok (n := fn.ntmps) hm c _ _ w hok ⟨L, _, initS args, init_rel hlok hog hrc harg hone, rfl, ?_, h⟩) ?_)
  · simp; omega
  · rintro e a' w' ⟨L', O', σ', hR, hdef, hsz, he, hr⟩
    obtain ⟨L2, og2, h1, h2, h3, _, h4⟩ := res1_ok hR hr
    have hfin : a'.defers = [] ∧ ∃ v, (results fn a'.tmps).run P w' = .ok v w' ∧ (∃ v' L' og', Ending.returned v = .returned v' ∧ GrownS w w' (optB og) ∧ (∀ b q, L' b q → b < w'.heap.size) ∧ (∀ b q, b < w.heap.size → ¬ optB og b → (L' b q ↔ L b q)) ∧
        (∀ g, og' = some g → g < w'.heap.size ∧ (w.heap.size ≤ g ∨ og = some g)) ∧ RC P w' L' og' r v') :=
      ⟨hdef, _, results_tmp hres _ _ _, _, L2, og2, rfl, hR.grown, h1, h2, h3, h4⟩
    rcases he with rfl | rfl
    · exact hfin
    · exact hfin

/-- Two results, the second one a datum. -/
theorem fn_of_vwp2 {f : FuncId} {fn : Func} {c : Code} {args : List AV} {t u : Nat} {r : AV} {y : D} (F : Nat → Bool) (hm : P.follows .mixedOrders = true) (hf : P.funcs[f]? = some fn) (hname : (fn.name == "runtime.NumGoroutine") = false) (hb : fn.body = some c) (hres : fn.results = #[.tmp t, .tmp u])
    (hargs : args.length ≤ fn.ntmps) (hok : okDst F fn.ntmps c = true) (harg : (args.all isArg) = true) (hone : oneOwn args = true)
    (h : vwp P F c (EndV2 t u r y) (initS args)) : Ctr P f args (.tup [r, .d y]) := by
  refine ⟨enters_of hf hname hb, fun w L og vals hlok hog hrc => ?_⟩
  have hl := hrc.length
  refine calls_of_wp hf hb (wp_mono (vwp_ok (n := fn.ntmps) hm c _ _ w hok ⟨L, _, initS args, init_rel hlok hog hrc harg hone, rfl, ?_, h⟩) ?_)
  · simp; omega
  · rintro e a' w' ⟨L', O', σ', hR, hdef, hsz, he, hr, hy⟩
    obtain ⟨L2, og2, h1, h2, h3, h5, h4⟩ := res1_ok hR hr
    have h6 : RC P w' L2 og2 (.d y) (tmOf a' u) := by
      have := RepV.mono h5 (RA.asD hR.slots (hR.slots u) hy)
      simpa only [RC] using this
    have h7 : RC P w' L2 og2 (.tup [r, .d y]) (.tuple #[tmOf a' t, tmOf a' u]) := by
      simp only [RC, RCs]
      exact ⟨[tmOf a' t, tmOf a' u], rfl, _, _, rfl, h4, _, _, rfl, by simpa only [RC] using h6, rfl⟩
    have hfin : a'.defers = [] ∧ ∃ v, (results fn a'.tmps).run P w' = .ok v w' ∧ (∃ v' L' og', Ending.returned v = .returned v' ∧ GrownS w w' (optB og) ∧ (∀ b q, L' b q → b < w'.heap.size) ∧ (∀ b q, b < w.heap.size → ¬ optB og b → (L' b q ↔ L b q)) ∧
        (∀ g, og' = some g → g < w'.heap.size ∧ (w.heap.size ≤ g ∨ og = some g)) ∧ RC P w' L' og' (.tup [r, .d y]) v') :=
      ⟨hdef, _, results_tmp2 hres _ _ _, _, L2, og2, rfl, hR.grown, h1, h2, h3, h7⟩
    rcases he with rfl | rfl
    · exact hfin
    · exact hfin

/-! ### functions with names -/
/-- The state at the beginning: what is named lies from slot 1000000 on. -/
def initG (args hs : List AV) : St := fun i => if 1000000 ≤ i then (match hs[i - 1000000]? with
    | some x => x
    | none => .undef) else (match args[i]? with
    | some x => x
    | none => .undef)
def isDA : AV → Bool
  | .d _ => true
  | _ => false
/-- What a result slot holds, and whose it is. -/
def ResG (σ : St) (t : Nat) (r : AV) : Prop :=
  match σ t with
  | .d y => r = .d y
  | .nils => r = .d (.sl [])
  | .own m e l => r = .own m e l
  | .bor _ m e l => r = .own m e l
  | .tup [] => r = .tup []
  | _ => False
def EndG (t : Nat) (Post : AV → List AV → Prop) : Exit → St → Prop := fun e σ => (e = .ret ∨ e = .normal) ∧ ∃ (r : AV) (ks : List Nat), ks.Nodup ∧ (∀ k ∈ ks, isH (σ k) = true) ∧ ResG σ t r ∧ Post r (ks.map σ)

theorem initG_rel {args hs : List AV} {vals : List Value} {k : Nat} (hlok : ∀ b q, L b q → b < w.heap.size) (h : RCs P w L none args vals) (harg : (args.all isDA) = true) (hh : ∀ x ∈ hs, RH P w L x) (hap : apartB (hs.map hblk)) (hblt : ∀ x ∈ hs, ∀ g, hblk x = some g → g < w.heap.size) :
    Rel P w L (fun b => some b ∈ hs.map hblk) w L (fun i => if 1000000 ≤ i then (hs[i - 1000000]?).bind hblk else none) (initG args hs) (tmOf { tmps := vals.toArray ++ Array.replicate k undef, defers := [] }) := by
  refine ⟨GrownS.refl w _, hlok, fun _ _ _ _ => Iff.rfl, fun i => ?_, fun i j g hi hj => ?_, fun i g hi => ?_⟩
  · simp only [initG]
    by_cases hi : 1000000 ≤ i
    · simp only [hi, if_true]
      cases hx : hs[i - 1000000]? with
      | none => simp [RA, RC]
      | some x =>
        obtain ⟨h1, h2⟩ := hh x (List.mem_of_getElem? hx)
        simp only [Option.bind_some]
        cases x <;> simp [isH] at h1 <;> exact h2
    · simp only [hi, if_false]
      cases hx : args[i]? with
      | none => simp [RA, RC]
      | some x =>
        obtain ⟨v, hv, hr⟩ := h.get hx
        have htm : tmOf { tmps := vals.toArray ++ Array.replicate k undef, defers := [] } i = v := by
          have hl : i < vals.length := (List.getElem?_eq_some_iff.1 hv).1
          simp only [tmOf, Array.getD_eq_getD_getElem?]
          rw [Array.getElem?_append_left (by simpa using hl)]
          simp [hv]
        rw [htm]
        have ha := List.all_eq_true.1 harg x (List.mem_of_getElem? hx)
        cases x <;> simp [isDA] at ha
        exact hr
  · have key : ∀ (l : List (Option Nat)), apartB l → ∀ (i j g : Nat), l[i]? = some (some g) → l[j]? = some (some g) → i = j := by
      intro l
      induction l with
      | nil => intro _ i j g h; simp at h
      | cons x xs ih =>
        intro ha i j g h1 h2
        cases i <;> cases j
        · rfl
        · simp only [List.getElem?_cons_zero, List.getElem?_cons_succ, Option.some.injEq] at h1 h2
          exact absurd (List.mem_of_getElem? h2) (ha.1 g h1)
        · simp only [List.getElem?_cons_zero, List.getElem?_cons_succ, Option.some.injEq] at h1 h2
          exact absurd (List.mem_of_getElem? h1) (ha.1 g h2)
        · simp only [List.getElem?_cons_succ] at h1 h2
          rw [ih ha.2 _ _ g h1 h2]
    split at hi
    · split at hj
      · have conv : ∀ i, (hs[i - 1000000]?).bind hblk = some g → (hs.map hblk)[i - 1000000]? = some (some g) := by
          intro i h
          rw [List.getElem?_map]
          cases hx : hs[i - 1000000]? with
          | none => rw [hx] at h; cases h
          | some x => rw [hx] at h; simpa using h
        have := key _ hap _ _ g (conv i hi) (conv j hj)
        omega
      · cases hj
    · cases hi
  · split at hi
    · cases hx : hs[i - 1000000]? with
      | none => rw [hx] at hi; cases hi
      | some x =>
        rw [hx] at hi
        simp only [Option.bind_some] at hi
        have hm := List.mem_of_getElem? hx
        exact ⟨hblt x hm g hi, .inr (List.mem_map.2 ⟨x, hm, hi⟩)⟩
    · cases hi

theorem RH.lt {x : AV} (h : RH P w L x) {g : Nat} (hg : hblk x = some g) : g < w.heap.size := by
  obtain ⟨h1, h2⟩ := h
  cases x <;> simp [isH] at h1
  case hs u e l =>
    obtain ⟨css, sz, f1, f2, f3, f4, f5⟩ : OwnR P w L (hblk (.hs u e l)) true e l u := h2
    rcases f4.2 with ⟨hv, _⟩ | ⟨g', cap, cur, hv, hh, _⟩
    · subst hv; simp [hblk, Value.ownBlock] at hg
    · subst hv
      obtain rfl : g' = g := by simpa [hblk, Value.ownBlock] using hg
      exact (Array.getElem?_eq_some_iff.1 hh).1
  case hb u y =>
    obtain ⟨g', C, e, e1, e2, e3, _⟩ : BoxR w L (hblk (.hb u y)) y u := h2
    rw [hg] at e1
    obtain rfl : g = g' := by simpa using e1
    exact (Array.getElem?_eq_some_iff.1 e3).1

theorem fn_of_vwpG {f : FuncId} {fn : Func} {c : Code} {args hs : List AV} {t : Nat} {Post : AV → List AV → Prop} (F : Nat → Bool) (hm : P.follows .mixedOrders = true) (hf : P.funcs[f]? = some fn) (hname : (fn.name == "runtime.NumGoroutine") = false) (hb : fn.body = some c) (hres : fn.results = #[.tmp t])
    (hargs : args.length ≤ fn.ntmps) (hok : okDst F fn.ntmps c = true) (harg : (args.all isDA) = true)
    (h : vwp P F c (EndG t Post) (initG args hs)) : CtrG P f args hs Post := by
  refine ⟨enters_of hf hname hb, fun w L vals hlok hrc hh hap => ?_⟩
  have hl := hrc.length
  refine calls_of_wp hf hb (wp_mono (vwp_ok (n := fn.ntmps) hm c _ _ w hok ⟨L, _, initG args hs, initG_rel hlok hrc harg hh hap (fun x hx g hg => (hh x hx).lt hg), rfl, ?_, h⟩) ?_)
  · simp; omega
  · rintro e a' w' ⟨L', O', σ', hR, hdef, hsz, he, r, ks, hnd, hks, hr, hpost⟩
    have hks' : ∀ k ∈ ks, RH P w' L' (σ' k) ∧ ∀ g, hblk (σ' k) = some g → O' k = some g := by
      intro k hk
      have hs := hR.slots k
      have hH := hks k hk
      have hrc : RC P w' L' (O' k) (σ' k) (tmOf a' k) := by
        cases hx : σ' k <;> rw [hx] at hs hH <;> simp [isH] at hH <;> exact hs
      exact hrc.self hH
    obtain ⟨og, o1, o2, o3⟩ : ∃ og, RC P w' L' og r (tmOf a' t) ∧ (∀ g, og = some g → ∃ j, O' j = some g ∧ isH (σ' j) = false) ∧ True := by
      have hs := hR.slots t
      unfold ResG at hr
      cases hx : σ' t <;> rw [hx] at hr hs
      case d y => subst hr; exact ⟨none, hs, by simp, trivial⟩
      case nils => subst hr; refine ⟨none, ?_, by simp, trivial⟩; simp only [RC]; rw [show tmOf a' t = .slice none 0 0 from hs]; exact nil_rep
      case own m e l => subst hr; exact ⟨O' t, hs, fun g hg => ⟨t, hg, by rw [hx]; rfl⟩, trivial⟩
      case bor j m e l =>
        subst hr
        obtain ⟨h2, h3⟩ := hs
        have h4 := hR.slots j
        rw [h2] at h4
        exact ⟨O' j, by rw [h3]; exact h4, fun g hg => ⟨j, hg, by rw [h2]; rfl⟩, trivial⟩
      case tup l =>
        cases l with
        | nil => subst hr; obtain ⟨vs, h1, h2⟩ := hs; exact ⟨none, by simp only [RC]; exact ⟨vs, h1, by simp only [RCs] at h2 ⊢; exact h2⟩, by simp, trivial⟩
        | cons x l => exact hr.elim
      all_goals exact hr.elim
    have hmap : ∀ g, some g ∈ (ks.map σ').map hblk → ∃ k ∈ ks, O' k = some g := by
      intro g hg
      simp only [List.map_map, List.mem_map, Function.comp_apply] at hg
      obtain ⟨k, hk, hg⟩ := hg
      exact ⟨k, hk, (hks' k hk).2 g hg⟩
    have hapart : ∀ (l : List Nat), l.Nodup → (∀ k ∈ l, ∀ g, hblk (σ' k) = some g → O' k = some g) → apartB ((l.map σ').map hblk) := by
      intro l
      induction l with
      | nil => intro _ _; trivial
      | cons k l ih =>
        intro hn ho
        rw [List.nodup_cons] at hn
        refine ⟨fun g hg hm => ?_, ih hn.2 (fun k hk => ho k (by simp [hk]))⟩
        simp only [List.map_map, List.mem_map, Function.comp_apply] at hm
        obtain ⟨k', hk', hg'⟩ := hm
        have e1 := ho k (by simp) g hg
        have e2 := ho k' (by simp [hk']) g hg'
        exact hn.1 (by rw [hR.inj k k' g e1 e2]; exact hk')
    have hfin : a'.defers = [] ∧ ∃ v, (results fn a'.tmps).run P w' = .ok v w' ∧ (∃ v' L' og r hs', Ending.returned v = .returned v' ∧ GrownS w w' (fun b => some b ∈ hs.map hblk) ∧ (∀ b q, L' b q → b < w'.heap.size) ∧ (∀ b q, b < w.heap.size → some b ∉ hs.map hblk → (L' b q ↔ L b q)) ∧
      (∀ g, some g ∈ og :: hs'.map hblk → g < w'.heap.size ∧ (w.heap.size ≤ g ∨ some g ∈ hs.map hblk)) ∧ apartB (og :: hs'.map hblk) ∧ RC P w' L' og r v' ∧ (∀ x ∈ hs', RH P w' L' x) ∧ Post r hs') := by
      refine ⟨hdef, _, results_tmp hres _ _ _, _, L', og, r, ks.map σ', rfl, hR.grown, hR.lok, hR.old, fun g hg => ?_, ⟨fun g hg hm => ?_, hapart ks hnd (fun k hk => (hks' k hk).2)⟩, o1, fun x hx => ?_, hpost⟩
      · rcases List.mem_cons.1 hg with hg | hg
        · obtain ⟨j, hj, _⟩ := o2 g hg.symm
          exact hR.olt j g hj
        · obtain ⟨k, _, hk⟩ := hmap g hg
          exact hR.olt k g hk
      · obtain ⟨j, hj, hjH⟩ := o2 g hg
        obtain ⟨k, hkm, hk⟩ := hmap g hm
        have := hks k hkm
        rw [hR.inj k j g hk hj] at this
        rw [hjH] at this; cases this
      · obtain ⟨k, hk, rfl⟩ := List.mem_map.1 hx
        exact (hks' k hk).1
    rcases he with rfl | rfl
    · exact hfin
    · exact hfin
end Go.Vw

/- The rewrite rules of the abstract walk. -/
namespace Go.Vw

/-- A mark: a congruence rule whose premise bears it counts as used whatever the argument comes to, so that simp never walks into a continuation. -/
def mkd {α : Sort _} (x : α) : α := x
theorem mkd_eq' {α : Sort _} (x y : α) (h : x = y) : mkd x = y := by unfold mkd; exact h
@[simp] theorem mkd_eq {α : Sort _} (x : α) : mkd x = x := mkd_eq' x x (Eq.symm (Eq.symm rfl))

@[simp] theorem put_at (σ : St) (d : Nat) (x : AV) (i : Nat) : put σ d x i = if i = d then kill d x else kill d (σ i) := rfl
@[simp] theorem initS_at (l : List AV) (i : Nat) : initS l i = match l[i]? with
  | some x => x
  | none => .undef := rfl

/-- A region whose order is open, its slots listed. -/
def drawK (P : Program) (F : Nat → Bool) (ops : Array Oper) (l : List Oper) (ds : List Nat) (K : St → Prop) (σ : St) : Prop := ddops P F ops ds l K (clean ds σ)

section
variable {P : Program} {F : Nat → Bool} {Q : Exit → St → Prop} {K : St → Prop} {σ : St}
@[simp] theorem vwp_skip' : vwp P F .skip Q σ = Q .normal σ := by simp only [vwp]
@[simp] theorem vwp_region' (id : Nat) (ops : List Oper) : vwp P F (.region id ops.toArray false) Q σ = vops P F ops.toArray ops (Q .normal) σ := by simp only [vwp]
@[simp] theorem vwp_draw' (id : Nat) (ops : List Oper) : vwp P F (.region id ops.toArray true) Q σ = drawK P F ops.toArray ops (dstsOf ops) (Q .normal) σ := by simp only [vwp, drawK]
@[simp] theorem drawK_eq (ops : Array Oper) (l : List Oper) (ds : List Nat) : drawK P F ops l ds K σ = ddops P F ops ds l K (clean ds σ) := rfl
@[simp] theorem vwp_seq' (x y : Code) : vwp P F (.seq x y) Q σ = vwp P F x (thenV (vwp P F y Q) Q) σ := by simp only [vwp]
@[simp] theorem vwp_cond' (c : Operand) (x y : Code) : vwp P F (.cond c x y) Q σ = (match aval σ c with
    | .d (.bool b) => if b = true then vwp P F x Q σ else vwp P F y Q σ
    | _ => False) := by
  simp only [vwp]
  cases aval σ c with
  | d x => cases x with
    | bool b => cases b <;> simp
    | _ => rfl
  | _ => rfl
@[simp] theorem vwp_block' (id : Nat) (c : Code) : vwp P F (.block id c) Q σ = vwp P F c (inBlockV id Q) σ := by simp only [vwp]
@[simp] theorem vwp_loop' (c : Code) : vwp P F (.loop c) Q σ = LoopK (vwp P F c) Q σ := by simp only [vwp]
@[simp] theorem vwp_exit' (id : Nat) : vwp P F (.exit id) Q σ = Q (.exit id) σ := by simp only [vwp]
@[simp] theorem vwp_ret' : vwp P F .ret Q σ = Q .ret σ := by simp only [vwp]
@[simp] theorem thenV_n (N : St → Prop) : thenV N Q .normal σ = N σ := rfl
@[simp] theorem thenV_r (N : St → Prop) : thenV N Q .ret σ = Q .ret σ := rfl
@[simp] theorem thenV_e (N : St → Prop) (id : Nat) : thenV N Q (.exit id) σ = Q (.exit id) σ := rfl
@[simp] theorem inBlockV_n (id : Nat) : inBlockV id Q .normal σ = Q .normal σ := rfl
@[simp] theorem inBlockV_r (id : Nat) : inBlockV id Q .ret σ = Q .ret σ := rfl
@[simp] theorem inBlockV_e (id id' : Nat) : inBlockV id Q (.exit id') σ = if id' = id then Q .normal σ else Q (.exit id') σ := rfl
@[simp] theorem vops_nil (ops : Array Oper) : vops P F ops [] K σ = K σ := rfl
@[simp] theorem vops_cons (ops : Array Oper) (dst : Option Tmp) (op : Op) (ty : TypeId) (pos : String) (after : Array Edge) (rest : List Oper) :
    vops P F ops ({ dst, op, type := ty, pos, after, guard := none } :: rest) K σ = vop P F { dst, op, type := ty, pos, after, guard := none } (vops P F ops rest K) σ := rfl
@[simp] theorem vops_guard (ops : Array Oper) (dst : Option Tmp) (op : Op) (ty : TypeId) (pos : String) (after : Array Edge) (j : Nat) (want : Bool) (rest : List Oper) :
    vops P F ops ({ dst, op, type := ty, pos, after, guard := some (j, want) } :: rest) K σ = bindO ((ops[j]?).bind (·.dst)) fun t => (match σ t with
      | .d (.bool b) => if b = want then vop P F { dst, op, type := ty, pos, after, guard := some (j, want) } (vops P F ops rest K) σ else vops P F ops rest K (putO σ dst)
      | .tup [] => vops P F ops rest K (putO σ dst)
      | _ => False) := by
  simp only [vops]
  congr 1
  funext t
  cases σ t with
  | d x => cases x with
    | bool b => by_cases hb : b = want <;> simp [hb]
    | _ => rfl
  | tup l => cases l <;> rfl
  | _ => rfl
/-- What follows a value in a region whose order is open. -/
def headC (ds : List Nat) (d : Nat) (N : St → Prop) (σ : St) (x : AV) : Prop := refB ds x = true ∧ N (setv σ d x)
@[simp] theorem headC_at (ds : List Nat) (d : Nat) (N : St → Prop) (x : AV) : headC ds d N σ x = (refB ds x = true ∧ N (setv σ d x)) := rfl
@[simp] theorem ddops_nil (ops : Array Oper) (ds : List Nat) : ddops P F ops ds [] K σ = K σ := rfl
@[simp] theorem ddops_cons (ops : Array Oper) (ds : List Nat) (d : Nat) (op : Op) (ty : TypeId) (pos : String) (after : Array Edge) (rest : List Oper) :
    ddops P F ops ds ({ dst := some d, op, type := ty, pos, after, guard := none } :: rest) K σ = if effB F (some d) op then vop P F { dst := some d, op, type := ty, pos, after, guard := none } (vops P F ops rest K) σ
      else pureE P F op d σ (headC ds d (ddops P F ops ds rest K) σ) := by
  simp only [ddops, vops, bindO_some]; rfl
@[simp] theorem ddops_store (ops : Array Oper) (ds : List Nat) (op : Op) (ty : TypeId) (pos : String) (after : Array Edge) (rest : List Oper) :
    ddops P F ops ds ({ dst := none, op, type := ty, pos, after, guard := none } :: rest) K σ = if effB F none op then vop P F { dst := none, op, type := ty, pos, after, guard := none } (vops P F ops rest K) σ else False := by
  simp only [ddops, vops, bindO_none]
@[simp] theorem ddops_guard (ops : Array Oper) (ds : List Nat) (d : Nat) (op : Op) (ty : TypeId) (pos : String) (after : Array Edge) (j : Nat) (want : Bool) (rest : List Oper) :
    ddops P F ops ds ({ dst := some d, op, type := ty, pos, after, guard := some (j, want) } :: rest) K σ = if effB F (some d) op then vops P F ops ({ dst := some d, op, type := ty, pos, after, guard := some (j, want) } :: rest) K σ
      else bindO ((ops[j]?).bind (·.dst)) fun t => (match σ t with
      | .d (.bool b) => if b = want then pureE P F op d σ (headC ds d (ddops P F ops ds rest K) σ) else ddops P F ops ds rest K (setv σ d (.tup []))
      | .tup [] => ddops P F ops ds rest K (setv σ d (.tup []))
      | _ => False) := by
  simp only [ddops, bindO_some]
  split
  · rfl
  · congr 1
    funext t
    cases σ t with
    | d x => cases x with
      | bool b => by_cases hb : b = want <;> simp [hb] <;> rfl
      | _ => rfl
    | tup l => cases l <;> rfl
    | _ => rfl
@[simp] theorem vop_some (d : Nat) (op : Op) (ty : TypeId) (pos : String) (after : Array Edge) (g : Option (Nat × Bool)) : vop P F { dst := some d, op, type := ty, pos, after, guard := g } K σ = vopd P F op ty d K σ := rfl
@[simp] theorem vop_callN (c : Call) (ty : TypeId) (pos : String) (after : Array Edge) (g : Option (Nat × Bool)) : vop P F { dst := none, op := .call c, type := ty, pos, after, guard := g } K σ = vCallN P c K σ := rfl
@[simp] theorem vop_store (t : TypeId) (x y : Operand) (ty : TypeId) (pos : String) (after : Array Edge) (g : Option (Nat × Bool)) : vop P F { dst := none, op := .store t x y, type := ty, pos, after, guard := g } K σ = vStore P t x y K σ := rfl
end

section
variable (d : D) (l : List D) (m : Bool) (e : TypeId) (j i t : Nat) (p : List Nat) (xs : List AV) (s : Str) (σ : St)
@[simp] theorem asD_d : asD (.d d) = some d := rfl
@[simp] theorem asD_nils : asD .nils = some (.sl []) := rfl
@[simp] theorem asD_full : asD (.full l) = some (.sl l) := rfl
@[simp] theorem asD_own : asD (.own false e l) = some (.sl l) := rfl
@[simp] theorem asD_bor : asD (.bor j false e l) = some (.sl l) := rfl
@[simp] theorem asD_ownT : asD (.own true e l) = none := rfl
@[simp] theorem asD_borT : asD (.bor j true e l) = none := rfl
@[simp] theorem seqOf_bor : seqOf (.bor j m e l) = some l := rfl
@[simp] theorem seqOf_d : seqOf (.d (.sl l)) = some l := rfl
@[simp] theorem seqOf_nils : seqOf .nils = some [] := rfl
@[simp] theorem seqOf_full : seqOf (.full l) = some l := rfl
@[simp] theorem lenOf_bor : lenOf (.bor j m e l) = some l.length := rfl
@[simp] theorem lenOf_d : lenOf (.d (.sl l)) = some l.length := rfl
@[simp] theorem lenOf_nils : lenOf .nils = some 0 := rfl
@[simp] theorem lenOf_full : lenOf (.full l) = some l.length := rfl
@[simp] theorem lenOf_raw (A : Option Addr) (k c : Nat) : lenOf (.d (.raw (.slice A k c))) = some k := rfl
@[simp] theorem rd_own : rd t (.own m e l) = .bor t m e l := rfl
@[simp] theorem rd_box : rd t (.box d) = .adr t [] := rfl
@[simp] theorem rd_tup : rd t (.tup xs) = .undef := rfl
@[simp] theorem rd_iter : rd t (.iter s i) = .undef := rfl
@[simp] theorem rd_undef : rd t .undef = .undef := rfl
@[simp] theorem rd_d : rd t (.d d) = .d d := rfl
@[simp] theorem rd_nils : rd t .nils = .nils := rfl
@[simp] theorem rd_full : rd t (.full l) = .full l := rfl
@[simp] theorem rd_bor : rd t (.bor j m e l) = .bor j m e l := rfl
@[simp] theorem rd_adr : rd t (.adr j p) = .adr j p := rfl
@[simp] theorem rd_eadr : rd t (.eadr j i p) = .eadr j i p := rfl
@[simp] theorem aval_tmp : aval σ (.tmp t) = rd t (σ t) := rfl
@[simp] theorem aval_const (v : Value) : aval σ (.const v) = cval v := rfl
@[simp] theorem aval_func (f : FuncId) : aval σ (.func f) = .d (.clo f []) := rfl
@[simp] theorem cval_bool (b : Bool) : cval (.bool b) = .d (.bool b) := rfl
@[simp] theorem cval_int (k : IntKind) (n : Int) : cval (.int k n) = .d (.int k n) := rfl
@[simp] theorem cval_str (x : ByteArray) : cval (.string x) = .d (.str x.data.toList) := rfl
@[simp] theorem cval_nil : cval (.slice none 0 0) = .nils := rfl
@[simp] theorem cval_ptr : cval (.pointer none) = .d .nilp := rfl
@[simp] theorem kill_undef : kill t .undef = .undef := rfl
@[simp] theorem kill_d : kill t (.d d) = .d d := rfl
@[simp] theorem kill_nils : kill t .nils = .nils := rfl
@[simp] theorem kill_full : kill t (.full l) = .full l := rfl
@[simp] theorem kill_own' : kill t (.own m e l) = .own m e l := rfl
@[simp] theorem kill_box' : kill t (.box d) = .box d := rfl
@[simp] theorem kill_tup : kill t (.tup xs) = .tup xs := rfl
@[simp] theorem kill_iter : kill t (.iter s i) = .iter s i := rfl
@[simp] theorem kill_bor : kill t (.bor j m e l) = if j = t then (if m then .undef else .d (.sl l)) else .bor j m e l := rfl
@[simp] theorem kill_adr : kill t (.adr j p) = if j = t then .undef else .adr j p := rfl
@[simp] theorem kill_eadr : kill t (.eadr j i p) = if j = t then .undef else .eadr j i p := rfl
@[simp] theorem deref_d : deref σ (.d (.ref d)) = some d := rfl
@[simp] theorem deref_adr : deref σ (.adr j p) = match boxOf (σ j) with
    | some b => D.get p b
    | none => none := rfl
@[simp] theorem deref_eadr : deref σ (.eadr j i p) = match ownOf (σ j) with
    | some (_, l) => match l[i]? with
      | some y => D.get p y
      | none => none
    | none => none := rfl
@[simp] theorem boxOf_box : boxOf (.box d) = some d := rfl
@[simp] theorem boxOf_hb (u : Value) : boxOf (.hb u d) = some d := rfl
@[simp] theorem ownOf_own : ownOf (.own true e l) = some (e, l) := rfl
@[simp] theorem ownOf_hs (u : Value) : ownOf (.hs u e l) = some (e, l) := rfl
@[simp] theorem setBox_box (y : D) : setBox y (.box d) = .box y := rfl
@[simp] theorem setBox_hb (y : D) (u : Value) : setBox y (.hb u d) = .hb u y := rfl
@[simp] theorem setOwn_own (e' : TypeId) (l' : List D) : setOwn e' l' (.own m e l) = .own true e' l' := rfl
@[simp] theorem setOwn_hs (e' : TypeId) (l' : List D) (u : Value) : setOwn e' l' (.hs u e l) = .hs u e' l' := rfl
@[simp] theorem rd_sub : rd t (.sub j i) = .sub j i := rfl
@[simp] theorem rd_hs (u : Value) : rd t (.hs u e l) = .undef := rfl
@[simp] theorem rd_hb (u : Value) : rd t (.hb u d) = .undef := rfl
@[simp] theorem kill_sub : kill t (.sub j i) = if j = t then .undef else .sub j i := rfl
@[simp] theorem kill_hs (u : Value) : kill t (.hs u e l) = .hs u e l := rfl
@[simp] theorem kill_hb (u : Value) : kill t (.hb u d) = .hb u d := rfl
@[simp] theorem Res1_dd (y : D) : Res1 (.d d) (.d y) = (d = y) := by simp [Res1]
@[simp] theorem Res1_nils (y : D) : Res1 .nils (.d y) = (.sl [] = y) := by simp [Res1]
@[simp] theorem Res1_own (y : D) : Res1 (.own m e l) (.d y) = (y = .sl l) := by cases m <;> simp [Res1, eq_comm]
@[simp] theorem Res1_bor (y : D) : Res1 (.bor j m e l) (.d y) = (y = .sl l) := by cases m <;> simp [Res1, eq_comm]
@[simp] theorem Res1_ownO (m' : Bool) (e' : TypeId) (l' : List D) : Res1 (.own m e l) (.own m' e' l') = (m = m' ∧ e = e' ∧ l = l') := rfl
@[simp] theorem Res1_borO (m' : Bool) (e' : TypeId) (l' : List D) : Res1 (.bor j m e l) (.own m' e' l') = (m = m' ∧ e = e' ∧ l = l') := rfl
@[simp] theorem EndV_ret (r : AV) : EndV t r .ret σ = Res1 (σ t) r := by simp [EndV]
@[simp] theorem EndV_normal (r : AV) : EndV t r .normal σ = Res1 (σ t) r := by simp [EndV]
@[simp] theorem EndG_ret (Post : AV → List AV → Prop) : EndG t Post .ret σ = ∃ (r : AV) (ks : List Nat), ks.Nodup ∧ (∀ k ∈ ks, isH (σ k) = true) ∧ ResG σ t r ∧ Post r (ks.map σ) := by simp [EndG]
@[simp] theorem EndG_normal (Post : AV → List AV → Prop) : EndG t Post .normal σ = ∃ (r : AV) (ks : List Nat), ks.Nodup ∧ (∀ k ∈ ks, isH (σ k) = true) ∧ ResG σ t r ∧ Post r (ks.map σ) := by simp [EndG]
@[simp] theorem EndV2_ret (u : Nat) (r : AV) (y : D) : EndV2 t u r y .ret σ = (Res1 (σ t) r ∧ asD (σ u) = some y) := by simp [EndV2]
@[simp] theorem EndV2_normal (u : Nat) (r : AV) (y : D) : EndV2 t u r y .normal σ = (Res1 (σ t) r ∧ asD (σ u) = some y) := by simp [EndV2]
end

@[simp] theorem setv_at (σ : St) (d : Nat) (x : AV) (i : Nat) : setv σ d x i = if i = d then x else σ i := rfl
@[simp] theorem clean_at (ds : List Nat) (σ : St) (i : Nat) : clean ds σ i = killS ds (σ i) := rfl
section
variable (ds : List Nat) (d : D) (l : List D) (m : Bool) (e : TypeId) (j i t : Nat) (p : List Nat) (xs : List AV) (s : Str)
@[simp] theorem killS_undef : killS ds .undef = .undef := rfl
@[simp] theorem killS_d : killS ds (.d d) = .d d := rfl
@[simp] theorem killS_nils : killS ds .nils = .nils := rfl
@[simp] theorem killS_full : killS ds (.full l) = .full l := rfl
@[simp] theorem killS_own : killS ds (.own m e l) = .own m e l := rfl
@[simp] theorem killS_box : killS ds (.box d) = .box d := rfl
@[simp] theorem killS_tup : killS ds (.tup xs) = .tup xs := rfl
@[simp] theorem killS_iter : killS ds (.iter s i) = .iter s i := rfl
@[simp] theorem killS_bor : killS ds (.bor j m e l) = if ds.contains j then (if m then .undef else .d (.sl l)) else .bor j m e l := rfl
@[simp] theorem killS_adr : killS ds (.adr j p) = if ds.contains j then .undef else .adr j p := rfl
@[simp] theorem killS_sub : killS ds (.sub j i) = if ds.contains j then .undef else .sub j i := rfl
@[simp] theorem killS_hs (u : Value) : killS ds (.hs u e l) = .hs u e l := rfl
@[simp] theorem killS_hb (u : Value) : killS ds (.hb u d) = .hb u d := rfl
@[simp] theorem refB_sub : refB ds (.sub j i) = !ds.contains j := rfl
@[simp] theorem killS_eadr : killS ds (.eadr j i p) = if ds.contains j then .undef else .eadr j i p := rfl
@[simp] theorem refB_undef : refB ds .undef = true := rfl
@[simp] theorem refB_d : refB ds (.d d) = true := rfl
@[simp] theorem refB_nils : refB ds .nils = true := rfl
@[simp] theorem refB_full : refB ds (.full l) = true := rfl
@[simp] theorem refB_own : refB ds (.own m e l) = true := rfl
@[simp] theorem refB_tup : refB ds (.tup xs) = true := rfl
@[simp] theorem refB_bor : refB ds (.bor j m e l) = !ds.contains j := rfl
@[simp] theorem refB_adr : refB ds (.adr j p) = !ds.contains j := rfl
@[simp] theorem refB_eadr : refB ds (.eadr j i p) = !ds.contains j := rfl
@[simp] theorem dstsOf_nil : dstsOf [] = [] := rfl
@[simp] theorem dstsOf_cons (dst : Option Tmp) (op : Op) (ty : TypeId) (pos : String) (after : Array Edge) (g : Option (Nat × Bool)) (rest : List Oper) : dstsOf ({ dst, op, type := ty, pos, after, guard := g } :: rest) = dst.toList ++ dstsOf rest := by
  cases dst <;> simp [dstsOf]
end
theorem callP {P : Program} {g : FuncId} {args : List AV} {b : Bool} {C : AV → Prop} {r : AV} (h : Ctr P g args r) (hk : C (demote b r)) : CallP P g args b C := ⟨r, h, hk⟩

attribute [simp] effB pMove pCall pIndexAddr pFieldAddr pSlice pConvert pExtract

attribute [simp] ety
attribute [simp] vSlice3 lendA lendsA plainA takeH flatD
attribute [simp] vCallN vMove vCall vIndexAddr vFieldAddr vSlice vConvert vExtract vNext vStore D.get D.upd bnd partsD fillD fillFits argsA argA eaten eat demote width widths
  D.isAgg InR capsK putO left noOwn

@[simp] theorem vopd_pick {P : Program} {F : Nat → Bool} {c x y : Operand} {ty : TypeId} {d : Nat} {K : St → Prop} {σ : St} : vopd P F (.pick c x y) ty d K σ = (match aval σ c with
    | .d (.bool b) => if b = true then K (put σ d (aval σ x)) else K (put σ d (aval σ y))
    | _ => False) := by
  simp only [vopd]
  cases aval σ c with
  | d x => cases x with
    | bool b => cases b <;> simp
    | _ => rfl
  | _ => rfl
@[simp] theorem pureE_pick {P : Program} {F : Nat → Bool} {c x y : Operand} {d : Nat} {C : AV → Prop} {σ : St} : pureE P F (.pick c x y) d σ C = (match aval σ c with
    | .d (.bool b) => if b = true then C (aval σ x) else C (aval σ y)
    | _ => False) := by
  simp only [pureE]
  cases aval σ c with
  | d x => cases x with
    | bool b => cases b <;> simp
    | _ => rfl
  | _ => rfl

section
variable {P : Program} {F : Nat → Bool} {ty : TypeId} {d : Nat} {K : St → Prop} {C : AV → Prop} {σ : St}
@[simp] theorem vopd_move (x : Operand) : vopd P F (.move x) ty d K σ = (vMove P F x ty false d K σ) := rfl
@[simp] theorem pureE_move (x : Operand) : pureE P F (.move x) d σ C = (pMove false x σ C) := rfl
@[simp] theorem vopd_assign (x : Operand) : vopd P F (.assign x) ty d K σ = (vMove P F x ty true d K σ) := rfl
@[simp] theorem pureE_assign (x : Operand) : pureE P F (.assign x) d σ C = (pMove true x σ C) := rfl
@[simp] theorem vopd_load (t : TypeId) (x : Operand) : vopd P F (.load t x) ty d K σ = (bindO (deref σ (aval σ x)) fun y => tyk P t = some (y.isAgg, width y) ∧ K (put σ d (.d y))) := rfl
@[simp] theorem pureE_load (t : TypeId) (x : Operand) : pureE P F (.load t x) d σ C = (bindO (deref σ (aval σ x)) fun y => tyk P t = some (y.isAgg, width y) ∧ C (.d y)) := rfl
@[simp] theorem vopd_nilCheck (x : Operand) : vopd P F (.nilCheck x) ty d K σ = (bindO (deref σ (aval σ x)) fun _ => K (put σ d (aval σ x))) := rfl
@[simp] theorem vopd_alloc (e : TypeId) : vopd P F (.alloc e) ty d K σ = (bindO (zeroD P e) fun z => K (put σ d (.box z))) := rfl
@[simp] theorem vopd_box (t : TypeId) (x : Operand) : vopd P F (.box t x) ty d K σ = (bindO (asD (aval σ x)) fun y => K (put σ d (.box y))) := rfl
@[simp] theorem vopd_build (t : TypeId) (ps : Array (Nat × Operand)) : vopd P F (.build t ps) ty d K σ = (bindO (if F (d + 1000000) then structDX P true t else structD P t) fun zs => bindO (partsD σ ps.toList) fun ys => fillFits zs ys ∧ K (put σ d (.d (.agg (fillD zs ys))))) := rfl
@[simp] theorem pureE_build (t : TypeId) (ps : Array (Nat × Operand)) : pureE P F (.build t ps) d σ C = (bindO (if F (d + 1000000) then structDX P true t else structD P t) fun zs => bindO (partsD σ ps.toList) fun ys => fillFits zs ys ∧ C (.d (.agg (fillD zs ys)))) := rfl
@[simp] theorem vopd_buildSlice (t : TypeId) (len : Nat) (ps : Array (Nat × Operand)) : vopd P F (.buildSlice t len ps) ty d K σ = (bindO (sliceE P t) fun e => bindO (esz P e) fun z => bindO (partsD σ ps.toList) fun ys => ys.map (·.1) = List.range len ∧ (∀ y ∈ ys.map (·.2), width y = z.1) ∧ len * z.1 ≤ 16777216 ∧ K (put σ d (.own (F d) e (ys.map (·.2))))) := rfl
@[simp] theorem pureE_buildSlice (t : TypeId) (len : Nat) (ps : Array (Nat × Operand)) : pureE P F (.buildSlice t len ps) d σ C = (bindO (sliceE P t) fun e => bindO (esz P e) fun z => bindO (partsD σ ps.toList) fun ys => ys.map (·.1) = List.range len ∧ (∀ y ∈ ys.map (·.2), width y = z.1) ∧ len * z.1 ≤ 16777216 ∧ C (.own (F d) e (ys.map (·.2)))) := rfl
@[simp] theorem vopd_fieldAddr (s : TypeId) (x : Operand) (f : Nat) : vopd P F (.fieldAddr s x f) ty d K σ = (vFieldAddr P s x f d K σ) := rfl
@[simp] theorem pureE_fieldAddr (s : TypeId) (x : Operand) (f : Nat) : pureE P F (.fieldAddr s x f) d σ C = (pFieldAddr P s x f σ C) := rfl
@[simp] theorem vopd_indexAddr (t : TypeId) (x i : Operand) : vopd P F (.indexAddr t x i) ty d K σ = (vIndexAddr P t x i d K σ) := rfl
@[simp] theorem pureE_indexAddr (t : TypeId) (x i : Operand) : pureE P F (.indexAddr t x i) d σ C = (pIndexAddr P t x i σ C) := rfl
@[simp] theorem vopd_index (t : TypeId) (x i : Operand) : vopd P F (.index t x i) ty d K σ = ((match P.underlying t, aval σ x, aval σ i with | some .string, .d (.str s), .d (.int _ m) => 0 ≤ m ∧ bindO (s[m.toNat]?) fun c => K (put σ d (.d (.int .u8 c.toNat))) | _, _, _ => False)) := rfl
@[simp] theorem pureE_index (t : TypeId) (x i : Operand) : pureE P F (.index t x i) d σ C = ((match P.underlying t, aval σ x, aval σ i with | some .string, .d (.str s), .d (.int _ m) => 0 ≤ m ∧ bindO (s[m.toNat]?) fun c => C (.d (.int .u8 c.toNat)) | _, _, _ => False)) := rfl
@[simp] theorem vopd_slice (t : TypeId) (x : Operand) (lo hi : Option Operand) : vopd P F (.slice t x lo hi none) ty d K σ = (vSlice P t x lo hi d K σ) := rfl
@[simp] theorem vopd_slice3 (t : TypeId) (x hi mx : Operand) : vopd P F (.slice t x none (some hi) (some mx)) ty d K σ = (vSlice3 P t x hi mx d K σ) := rfl
@[simp] theorem pureE_slice (t : TypeId) (x : Operand) (lo hi : Option Operand) : pureE P F (.slice t x lo hi none) d σ C = (pSlice P t x lo hi σ C) := rfl
@[simp] theorem vopd_binOp (op : BinOp) (t : TypeId) (x y : Operand) (u : TypeId) : vopd P F (.binOp op t x y u) ty d K σ = (if nilQ op y = true then vNilQ P op t (aval σ x) d K σ else bindO (asD (aval σ x)) fun dx => bindO (asD (aval σ y)) fun dy => binD (P.underlying t) op dx dy fun r => K (put σ d (.d r))) := rfl
attribute [simp] nilQ isEq isNe isNilC isNilV vNilQ
@[simp] theorem pureE_binOp (op : BinOp) (t : TypeId) (x y : Operand) (u : TypeId) : pureE P F (.binOp op t x y u) d σ C = (bindO (asD (aval σ x)) fun dx => bindO (asD (aval σ y)) fun dy => binD (P.underlying t) op dx dy fun r => C (.d r)) := rfl
@[simp] theorem vopd_not (t : TypeId) (x : Operand) : vopd P F (.unOp .not t x) ty d K σ = ((match aval σ x with | .d (.bool b) => K (put σ d (.d (.bool !b))) | _ => False)) := rfl
@[simp] theorem pureE_not (t : TypeId) (x : Operand) : pureE P F (.unOp .not t x) d σ C = ((match aval σ x with | .d (.bool b) => C (.d (.bool !b)) | _ => False)) := rfl
@[simp] theorem vopd_neg (t : TypeId) (x : Operand) : vopd P F (.unOp .neg t x) ty d K σ = ((match aval σ x with | .d (.int k m) => InR k (0 - m) ∧ K (put σ d (.d (.int k (0 - m)))) | _ => False)) := rfl
@[simp] theorem vopd_convert (s t : TypeId) (x : Operand) : vopd P F (.convert s t x) ty d K σ = (vConvert P F s t x d K σ) := rfl
@[simp] theorem pureE_convert (s t : TypeId) (x : Operand) : pureE P F (.convert s t x) d σ C = (pConvert P s t x σ C) := rfl
@[simp] theorem vopd_range (t : TypeId) (x : Operand) : vopd P F (.range t x) ty d K σ = (P.underlying t = some .string ∧ (match aval σ x with
    | .d (.str st) => K (put σ d (.iter st 0))
    | _ => False)) := rfl
@[simp] theorem vopd_next (x : Operand) : vopd P F (.next x true) ty d K σ = vNext x d K σ := rfl
@[simp] theorem vopd_extract (x : Operand) (i : Nat) : vopd P F (.extract x i) ty d K σ = (vExtract F x i d K σ) := rfl
@[simp] theorem pureE_extract (x : Operand) (i : Nat) : pureE P F (.extract x i) d σ C = (pExtract x i σ C) := rfl
@[simp] theorem vopd_makeFunc (g : FuncId) (first : Array Operand) (caps : Array Operand) : vopd P F (.makeFunc (.func g) first caps) ty d K σ = ((first.toList = [] ∧ capsK (fun σ' ds => K (put σ' d (.d (.clo g ds)))) caps.toList σ [])) := rfl
@[simp] theorem vopd_call (c : Call) : vopd P F (.call c) ty d K σ = (vCall P F c d K σ) := rfl
@[simp] theorem pureE_call (c : Call) : pureE P F (.call c) d σ C = (pCall P F c d σ C) := rfl
end

section
variable {P : Program} {F : Nat → Bool} {ty : TypeId} {d : Nat} {K : St → Prop} {C : AV → Prop} {σ σ' : St} {Q : Exit → St → Prop}
@[congr] theorem bindO_c {α : Type} {x x' : Option α} {f : α → Prop} (h : mkd (x) = x') : bindO x f = bindO x' f := by rw [mkd_eq] at h; subst h; rfl
@[congr] theorem vwp_c {c : Code} (h : mkd (σ) = σ') : vwp P F c Q σ = vwp P F c Q σ' := by rw [mkd_eq] at h; subst h; rfl
@[congr] theorem drawK_c {ops : Array Oper} {l : List Oper} {ds ds' : List Nat} (hd : mkd ds = ds') (h : mkd σ = σ') : drawK P F ops l ds K σ = drawK P F ops l ds' K σ' := by rw [mkd_eq] at hd h; subst hd h; rfl
@[congr] theorem vops_c {ops : Array Oper} {l : List Oper} (h : mkd (σ) = σ') : vops P F ops l K σ = vops P F ops l K σ' := by rw [mkd_eq] at h; subst h; rfl
@[congr] theorem ddops_c {ops : Array Oper} {ds : List Nat} {l : List Oper} (h : mkd (σ) = σ') : ddops P F ops ds l K σ = ddops P F ops ds l K σ' := by rw [mkd_eq] at h; subst h; rfl
@[congr] theorem vop_c {o : Oper} (h : mkd (σ) = σ') : vop P F o K σ = vop P F o K σ' := by rw [mkd_eq] at h; subst h; rfl
@[congr] theorem vopd_c {o : Op} (h : mkd (σ) = σ') : vopd P F o ty d K σ = vopd P F o ty d K σ' := by rw [mkd_eq] at h; subst h; rfl
@[congr] theorem pureE_c {o : Op} (h : mkd (σ) = σ') : pureE P F o d σ C = pureE P F o d σ' C := by rw [mkd_eq] at h; subst h; rfl
@[congr] theorem vMove_c {x : Operand} {b : Bool} (h : mkd (σ) = σ') : vMove P F x ty b d K σ = vMove P F x ty b d K σ' := by rw [mkd_eq] at h; subst h; rfl
@[congr] theorem pMove_c {x : Operand} {b : Bool} (h : mkd (σ) = σ') : pMove b x σ C = pMove b x σ' C := by rw [mkd_eq] at h; subst h; rfl
@[congr] theorem vCall_c {c : Call} (h : mkd (σ) = σ') : vCall P F c d K σ = vCall P F c d K σ' := by rw [mkd_eq] at h; subst h; rfl
@[congr] theorem pCall_c {c : Call} (h : mkd (σ) = σ') : pCall P F c d σ C = pCall P F c d σ' C := by rw [mkd_eq] at h; subst h; rfl
@[congr] theorem vIndexAddr_c {t : TypeId} {x i : Operand} (h : mkd (σ) = σ') : vIndexAddr P t x i d K σ = vIndexAddr P t x i d K σ' := by rw [mkd_eq] at h; subst h; rfl
@[congr] theorem pIndexAddr_c {t : TypeId} {x i : Operand} (h : mkd (σ) = σ') : pIndexAddr P t x i σ C = pIndexAddr P t x i σ' C := by rw [mkd_eq] at h; subst h; rfl
@[congr] theorem vFieldAddr_c {t : TypeId} {x : Operand} {i : Nat} (h : mkd (σ) = σ') : vFieldAddr P t x i d K σ = vFieldAddr P t x i d K σ' := by rw [mkd_eq] at h; subst h; rfl
@[congr] theorem pFieldAddr_c {t : TypeId} {x : Operand} {i : Nat} (h : mkd (σ) = σ') : pFieldAddr P t x i σ C = pFieldAddr P t x i σ' C := by rw [mkd_eq] at h; subst h; rfl
@[congr] theorem vSlice_c {t : TypeId} {x : Operand} {lo hi : Option Operand} (h : mkd (σ) = σ') : vSlice P t x lo hi d K σ = vSlice P t x lo hi d K σ' := by rw [mkd_eq] at h; subst h; rfl
@[congr] theorem pSlice_c {t : TypeId} {x : Operand} {lo hi : Option Operand} (h : mkd (σ) = σ') : pSlice P t x lo hi σ C = pSlice P t x lo hi σ' C := by rw [mkd_eq] at h; subst h; rfl
@[congr] theorem vConvert_c {s t : TypeId} {x : Operand} (h : mkd (σ) = σ') : vConvert P F s t x d K σ = vConvert P F s t x d K σ' := by rw [mkd_eq] at h; subst h; rfl
@[congr] theorem pConvert_c {s t : TypeId} {x : Operand} (h : mkd (σ) = σ') : pConvert P s t x σ C = pConvert P s t x σ' C := by rw [mkd_eq] at h; subst h; rfl
@[congr] theorem vNilQ_c {op : BinOp} {t : TypeId} {x x' : AV} (hx : mkd (x) = x') (h : mkd (σ) = σ') : vNilQ P op t x d K σ = vNilQ P op t x' d K σ' := by rw [mkd_eq] at hx; subst hx; rw [mkd_eq] at h; subst h; rfl
@[congr] theorem vNext_c {x : Operand} (h : mkd (σ) = σ') : vNext x d K σ = vNext x d K σ' := by rw [mkd_eq] at h; subst h; rfl
@[congr] theorem vExtract_c {x : Operand} {i : Nat} (h : mkd (σ) = σ') : vExtract F x i d K σ = vExtract F x i d K σ' := by rw [mkd_eq] at h; subst h; rfl
@[congr] theorem pExtract_c {x : Operand} {i : Nat} (h : mkd (σ) = σ') : pExtract x i σ C = pExtract x i σ' C := by rw [mkd_eq] at h; subst h; rfl
@[congr] theorem vStore_c {t : TypeId} {x y : Operand} (h : mkd (σ) = σ') : vStore P t x y K σ = vStore P t x y K σ' := by rw [mkd_eq] at h; subst h; rfl
@[congr] theorem binD_c {u u' : Option TypeDesc} {op : BinOp} {x x' y y' : D} {C : D → Prop} (hu : mkd (u) = u') (hx : mkd (x) = x') (hy : mkd (y) = y') : binD u op x y C = binD u' op x' y' C := by rw [mkd_eq] at hu; subst hu; rw [mkd_eq] at hx; subst hx; rw [mkd_eq] at hy; subst hy; rfl
@[congr] theorem LendK_c {g : FuncId} {xs xs' : List AV} (h : mkd (xs) = xs') (hs : mkd (σ) = σ') : LendK P g xs σ d K = LendK P g xs' σ' d K := by rw [mkd_eq] at h; subst h; rw [mkd_eq] at hs; subst hs; rfl
@[congr] theorem LendP_c {g : FuncId} {xs xs' : List AV} (h : mkd (xs) = xs') : LendP P g xs C = LendP P g xs' C := by rw [mkd_eq] at h; subst h; rfl
@[congr] theorem InK_c {g : FuncId} {x x' : AV} {xs xs' : List AV} (hx : mkd (x) = x') (h : mkd (xs) = xs') (hs : mkd (σ) = σ') : InK P g x xs σ d K = InK P g x' xs' σ' d K := by rw [mkd_eq] at hx; subst hx; rw [mkd_eq] at h; subst h; rw [mkd_eq] at hs; subst hs; rfl
@[congr] theorem NameK_c {g : FuncId} {x x' : AV} {xs xs' : List AV} (hx : mkd (x) = x') (h : mkd (xs) = xs') (hs : mkd (σ) = σ') : NameK P g x xs σ d K = NameK P g x' xs' σ' d K := by rw [mkd_eq] at hx; subst hx; rw [mkd_eq] at h; subst h; rw [mkd_eq] at hs; subst hs; rfl
@[congr] theorem GivK_c {g : FuncId} {xs xs' : List AV} (h : mkd (xs) = xs') (hs : mkd (σ) = σ') : GivK P g xs σ d K = GivK P g xs' σ' d K := by rw [mkd_eq] at h; subst h; rw [mkd_eq] at hs; subst hs; rfl
@[congr] theorem AppK_c {e : TypeId} {z : Nat × Nat} {l l' : List D} {u u' : Value} (h : mkd (l) = l') (hu : mkd (u) = u') (hs : mkd (σ) = σ') : AppK e z l u σ d K = AppK e z l' u' σ' d K := by rw [mkd_eq] at h; subst h; rw [mkd_eq] at hu; subst hu; rw [mkd_eq] at hs; subst hs; rfl
@[congr] theorem RawIx_c {e : TypeId} {m m' : Nat} {u u' : Value} (h : mkd (m) = m') (hu : mkd (u) = u') (hs : mkd (σ) = σ') : RawIx e m u σ C = RawIx e m' u' σ' C := by rw [mkd_eq] at h; subst h; rw [mkd_eq] at hu; subst hu; rw [mkd_eq] at hs; subst hs; rfl
@[congr] theorem RawFd_c {s f : Nat} {u u' : Value} (hu : mkd (u) = u') (hs : mkd (σ) = σ') : RawFd P s f u σ C = RawFd P s f u' σ' C := by rw [mkd_eq] at hu; subst hu; rw [mkd_eq] at hs; subst hs; rfl
@[congr] theorem RawCut_c {e : TypeId} {i i' : Nat} {u u' : Value} (h : mkd (i) = i') (hu : mkd (u) = u') (hs : mkd (σ) = σ') : RawCut e i u σ d K = RawCut e i' u' σ' d K := by rw [mkd_eq] at h; subst h; rw [mkd_eq] at hu; subst hu; rw [mkd_eq] at hs; subst hs; rfl
@[congr] theorem vCallN_c {c : Call} (h : mkd (σ) = σ') : vCallN P c K σ = vCallN P c K σ' := by rw [mkd_eq] at h; subst h; rfl
@[congr] theorem vSlice3_c {t : TypeId} {x hi mx : Operand} (h : mkd (σ) = σ') : vSlice3 P t x hi mx d K σ = vSlice3 P t x hi mx d K σ' := by rw [mkd_eq] at h; subst h; rfl
@[congr] theorem CallK_c {g : FuncId} {xs xs' : List AV} {b : Bool} (h : mkd (xs) = xs') (hs : mkd (σ) = σ') : CallK P g xs σ d b K = CallK P g xs' σ' d b K := by rw [mkd_eq] at h; subst h; rw [mkd_eq] at hs; subst hs; rfl
@[congr] theorem CallP_c {g : FuncId} {xs xs' : List AV} {b : Bool} (h : mkd (xs) = xs') : CallP P g xs b C = CallP P g xs' b C := by rw [mkd_eq] at h; subst h; rfl
@[congr] theorem LoopK_c {body : (Exit → St → Prop) → St → Prop} (hs : mkd (σ) = σ') : LoopK body Q σ = LoopK body Q σ' := by rw [mkd_eq] at hs; subst hs; rfl
end

section
variable {α : Type} (y : α) (f : α → Prop)
@[simp ↓] theorem bindO_some' : bindO (some y) f = f y := rfl
@[simp ↓] theorem bindO_none' : bindO (none : Option α) f = False := rfl
end
section
variable {u : Option TypeDesc} {k : IntKind} {p q : Int} {s t : Str} {b c : Bool} {C : D → Prop}
@[simp ↓] theorem binD_add : binD u .add (.int k p) (.int k q) C = (InR k (p + q) ∧ C (.int k (p + q))) := by simp [binD]
@[simp ↓] theorem binD_sub : binD u .sub (.int k p) (.int k q) C = (InR k (p - q) ∧ C (.int k (p - q))) := by simp [binD]
@[simp ↓] theorem binD_mul : binD u .mul (.int k p) (.int k q) C = (InR k (p * q) ∧ C (.int k (p * q))) := by simp [binD]
@[simp ↓] theorem binD_eql : binD u .eql (.int k p) (.int k q) C = C (.bool (decide (p = q))) := by simp [binD]
@[simp ↓] theorem binD_neq : binD u .neq (.int k p) (.int k q) C = C (.bool (!decide (p = q))) := by simp [binD]
@[simp ↓] theorem binD_lss : binD u .lss (.int k p) (.int k q) C = C (.bool (decide (p < q))) := by simp [binD]
@[simp ↓] theorem binD_leq : binD u .leq (.int k p) (.int k q) C = C (.bool (decide (p ≤ q))) := by simp [binD]
@[simp ↓] theorem binD_gtr : binD u .gtr (.int k p) (.int k q) C = C (.bool (decide (q < p))) := by simp [binD]
@[simp ↓] theorem binD_geq : binD u .geq (.int k p) (.int k q) C = C (.bool (decide (q ≤ p))) := by simp [binD]
@[simp ↓] theorem binD_quo : binD u .quo (.int k p) (.int k q) C = (0 ≤ p ∧ 0 < q ∧ InR k (p / q) ∧ C (.int k (p / q))) := by simp [binD]
@[simp ↓] theorem binD_rem : binD u .rem (.int k p) (.int k q) C = (0 ≤ p ∧ 0 < q ∧ C (.int k (p % q))) := by simp [binD]
@[simp ↓] theorem binD_sadd : binD u .add (.str s) (.str t) C = (s.length + t.length ≤ 9223372036854775807 ∧ C (.str (s ++ t))) := rfl
@[simp ↓] theorem binD_seql : binD u .eql (.str s) (.str t) C = C (.bool (decide (s = t))) := rfl
@[simp ↓] theorem binD_sneq : binD u .neq (.str s) (.str t) C = C (.bool (!decide (s = t))) := rfl
@[simp ↓] theorem binD_slss : binD u .lss (.str s) (.str t) C = C (.bool (Op.bytesLess s t)) := rfl
@[simp ↓] theorem binD_sleq : binD u .leq (.str s) (.str t) C = C (.bool (Op.bytesLess s t || decide (s = t))) := rfl
@[simp ↓] theorem binD_sgtr : binD u .gtr (.str s) (.str t) C = C (.bool (!(Op.bytesLess s t || decide (s = t)))) := rfl
@[simp ↓] theorem binD_sgeq : binD u .geq (.str s) (.str t) C = C (.bool (!Op.bytesLess s t)) := rfl
@[simp] theorem binD_beql : binD u .eql (.bool b) (.bool c) C = (u = some .bool ∧ C (.bool (b == c))) := rfl
@[simp] theorem binD_bneq : binD u .neq (.bool b) (.bool c) C = (u = some .bool ∧ C (.bool (!(b == c)))) := rfl
end
section
variable (e : TypeId) (l : List D) (j i : Nat) (p : List Nat) (xs : List AV) (s : Str) (d : D)
@[simp] theorem asD_undef : asD .undef = none := rfl
@[simp] theorem asD_box : asD (.box d) = none := rfl
@[simp] theorem asD_adr : asD (.adr j p) = none := rfl
@[simp] theorem asD_eadr : asD (.eadr j i p) = none := rfl
@[simp] theorem asD_tup : asD (.tup xs) = none := rfl
@[simp] theorem asD_iter : asD (.iter s i) = none := rfl
@[simp] theorem asD_sub : asD (.sub j i) = none := rfl
end
theorem callK {P : Program} {g : FuncId} {args : List AV} {σ : St} {d : Nat} {b : Bool} {K : St → Prop} {r : AV} (h : Ctr P g args r) (hk : K (put σ d (demote b r))) : CallK P g args σ d b K := ⟨r, h, hk⟩
theorem loopK {body : (Exit → St → Prop) → St → Prop} {Q : Exit → St → Prop} {σ : St} (I : Nat → St → Prop) (k : Nat) (h0 : I k σ) (hr : ∀ m τ, I m τ → body (thenV (fun τ' => ∃ m', m' < m ∧ I m' τ') Q) τ) : LoopK body Q σ := ⟨I, k, h0, hr⟩
end Go.Vw

/- From the library's sorts (the kit's contracts) to own slices. -/
namespace Go.Vw
open Go.RowKit Go.Proofs Go.Sort

variable {P : Program} {w w' : World} {L L' : Nat → Nat → Prop}

theorem putCells_id {F cur : Array Value} (h : F.size ≤ cur.size) : (putCells id 0 F cur).toList = F.toList ++ cur.toList.drop F.size := by
  apply List.ext_getElem
  · simp [putCells]; omega
  · intro i h1 h2
    simp only [putCells, Array.length_toList, Array.size_mapIdx] at h1
    simp only [putCells, Array.getElem_toList, Array.getElem_mapIdx, Nat.zero_le, true_and, Nat.zero_add, Nat.sub_zero, id]
    by_cases hi : i < F.size
    · rw [if_pos hi, List.getElem_append_left (by simpa using hi)]
      simp [hi]
    · rw [if_neg hi, List.getElem_append_right (by simp; omega)]
      simp only [Array.length_toList, List.getElem_drop, Array.getElem_toList]
      congr 1; omega

theorem putRow_map {α : Type} [Inhabited α] (enc : α → Value) (w : World) (g : Nat) (d : Array α) : putRow enc w g 0 d = putRow id w g 0 (d.map enc) := by
  unfold putRow
  refine mapBlock_congr w g _ _ (fun c e fr _ => ?_)
  unfold putCells
  apply Array.ext
  · simp
  · intro i h1 h2
    simp only [Array.getElem_mapIdx, Nat.zero_le, true_and, Nat.zero_add, Nat.sub_zero, id, Array.size_map]
    by_cases hi : i < d.size
    · simp [hi]
    · simp [hi]

/-- The row holds F now; n draws, new blocks. -/
def sortedW (w : World) (g m : Nat) (F : Array Value) (os : Array Obj) : World := grow (putRow id (Sort.ahead w m) g 0 F) os

theorem sortedW_size (w : World) (g m : Nat) (F : Array Value) (os : Array Obj) : (sortedW w g m F os).heap.size = w.heap.size + os.size := by
  simp [sortedW, grow, putRow, mapBlock, Sort.ahead]
theorem sortedW_other (w : World) (g m : Nat) (F : Array Value) (os : Array Obj) {b : Nat} (hb : b < w.heap.size) (hne : b ≠ g) : (sortedW w g m F os).heap[b]? = w.heap[b]? := by
  simp only [sortedW, grow, putRow, mapBlock, Sort.ahead]
  rw [Array.getElem?_append_left (by simpa using hb), Array.getElem?_modify, if_neg (Ne.symm hne)]
theorem sortedW_at (w : World) (g m : Nat) (F : Array Value) (os : Array Obj) {c : Array Value} {e : TypeId} {fz : Nat × Nat} (h : w.heap[g]? = some (.cells c e fz)) : (sortedW w g m F os).heap[g]? = some (.cells (putCells id 0 F c) e fz) := by
  have hb : g < w.heap.size := (Array.getElem?_eq_some_iff.1 h).1
  simp only [sortedW, grow, putRow, mapBlock, Sort.ahead]
  rw [Array.getElem?_append_left (by simpa using hb), Array.getElem?_modify, if_pos rfl, h]
  rfl

theorem OwnR.sorted {og : Option Nat} {e : TypeId} {l l' : List D} {g c : Nat} (h : OwnR P w L og true e l (.slice (some ⟨g, 0, none⟩) l.length c)) (hlok : ∀ b q, L b q → b < w.heap.size) {css' : List (List Value)} (hr : RepL w L l' css') (hlen : l'.length = l.length)
    (hsz : ∀ sz, (P.info? (ety e)).map (·.size) = some sz → ∀ c ∈ css', c.length = sz) (m : Nat) (os : Array Obj) {F : Array Value} (hF : F.toList = css'.flatten) :
    OwnR P (sortedW w g m F os) L og true e l' (.slice (some ⟨g, 0, none⟩) l.length c) ∧ GrownS w (sortedW w g m F os) (optB (some g)) ∧ (∀ b q, L b q → b < (sortedW w g m F os).heap.size) := by
  have hblk := h.blk (g := g) rfl
  obtain ⟨css, sz, h1, h2, h3, h4, h5⟩ := h
  rcases h4.2 with ⟨hv, hn⟩ | ⟨g', cap, cur, hv, hh, hnc, hcm, hcs, htk⟩
  · cases hv
  · simp only [Value.slice.injEq, Option.some.injEq, Addr.mk.injEq, and_true, true_and] at hv
    obtain ⟨rfl, rfl⟩ := hv
    have hsz' := hsz sz h1
    have hFl : F.size = l.length * sz := by
      rw [← Array.length_toList, hF, flatten_sized hsz', hr.count, hlen]
    have hFc : F.size ≤ cur.size := by rw [hFl]; exact Nat.le_trans (Nat.mul_le_mul_right _ hnc) hcs
    have hpl := putCells_id hFc
    have hps : (putCells id 0 F cur).size = cur.size := by simp [putCells]
    have hgrown : GrownS w (sortedW w g m F os) (optB (some g)) := ⟨rfl, rfl, rfl, by rw [sortedW_size]; omega, fun k hk hne => sortedW_other w g m F os hk (fun e => hne (by rw [e]; rfl))⟩
    have hext : Ext w L (sortedW w g m F os) L := fun b q hq => ⟨hq, fun v hv => by
      have hne : b ≠ g := fun e => by subst e; exact hblk.2 q hq
      simp only [World.cell?] at hv ⊢
      rw [sortedW_other w g m F os (hlok b q hq) hne]
      exact hv⟩
    refine ⟨⟨css', sz, h1, RepL.mono hext _ _ hr, hsz', ⟨?_, .inr ⟨g, c, putCells id 0 F cur, by rw [hlen], by rw [hps]; exact sortedW_at w g m F os hh, by rw [hlen]; exact hnc, hcm, by rw [hps]; exact hcs, ?_⟩⟩, fun g' hg' => ?_⟩, hgrown, fun b q hq => by rw [sortedW_size]; have := hlok b q hq; omega⟩
    · rw [← hF, Array.length_toList, hFl, hlen]
    · rw [hlen, hpl, ← hF, ← hFl, ← Array.length_toList, List.take_left]
    · obtain rfl : g = g' := by simpa [Value.ownBlock] using hg'
      exact ⟨hblk.1, fun q => by simpa using hblk.2 q⟩

theorem OwnR.holds {og : Option Nat} {e : TypeId} {l : List D} {g c : Nat} (h : OwnR P w L og true e l (.slice (some ⟨g, 0, none⟩) l.length c)) : ∃ css, RepL w L l css ∧ (∀ sz, (P.info? (ety e)).map (·.size) = some sz → ∀ c ∈ css, c.length = sz) ∧ Holds id w g 0 css.flatten.toArray ∧ g < w.heap.size ∧ l.length ≤ c := by
  obtain ⟨css, sz, h1, h2, h3, h4, h5⟩ := h
  rcases h4.2 with ⟨hv, hn⟩ | ⟨g', cap, cur, hv, hh, hnc, hcm, hcs, htk⟩
  · cases hv
  · simp only [Value.slice.injEq, Option.some.injEq, Addr.mk.injEq, and_true, true_and] at hv
    obtain ⟨rfl, rfl⟩ := hv
    refine ⟨css, h2, fun s hs => by rw [h1] at hs; simp only [Option.some.injEq] at hs; subst hs; exact h3, fun j hj => ?_, (Array.getElem?_eq_some_iff.1 hh).1, hnc⟩
    simp only [List.size_toArray] at hj
    have hle : l.length * sz ≤ cur.size := Nat.le_trans (Nat.mul_le_mul_right _ hnc) hcs
    have hjl : j < l.length * sz := by rw [← h4.1]; exact hj
    have hjc : j < cur.size := by omega
    have hv : css.flatten[j]? = some cur[j] := by
      rw [← htk, List.getElem?_take, if_pos hjl]
      simp [hjc]
    constructor
    · simp only [World.cell?, hh, Nat.zero_add, id]
      rw [show css.flatten.toArray[j]! = cur[j] by
        rw [getElem!_pos _ j (by simpa using hj)]
        simpa using (List.getElem?_eq_some_iff.1 hv).2]
      simp [hjc]
    · simp only [World.frozen?, hh, Nat.zero_add]
      unfold mk
      split
      · simp
      · simp; omega

/-! ### how goals at calls are met -/
section
variable {g : FuncId} {args rest : List AV} {σ : St} {d : Nat} {K : St → Prop} {C : AV → Prop}
theorem lendK {y : D} (h : Ctr P g args (.d y)) (hy : flatD y = true) (hk : K (put σ d (.d y))) : LendK P g args σ d K := ⟨y, hy, h, hk⟩
theorem lendP {y : D} (h : Ctr P g args (.d y)) (hy : flatD y = true) (hk : C (.d y)) : LendP P g args C := ⟨y, hy, h, hk⟩
theorem inKb {j : Nat} {e : TypeId} {l l' : List D} (h : CtrI P g e l rest l') (hk : K (put (put σ j (.own true e l')) d (.tup []))) : InK P g (.bor j true e l) rest σ d K := ⟨l', h, hk⟩
theorem inKr {u : Value} (j : Nat) {e : TypeId} {l l' : List D} (hj : σ j = .hs u e l) (h : CtrI P g e l rest l') (hk : K (put (put σ j (.hs u e l')) d (.tup []))) : InK P g (.d (.raw u)) rest σ d K := ⟨j, e, l, l', hj, h, hk⟩
theorem nameK {u : Value} (j : Nat) {e e' : TypeId} {l l' : List D} (hj : σ j = .hs u e l) (h : Ctr P g (.own true e l :: rest) (.own true e' l')) (hk : ∀ A c, K (put (put σ j (.hs (.slice A l'.length c) e' l')) d (.d (.raw (.slice A l'.length c))))) : NameK P g (.d (.raw u)) rest σ d K := ⟨j, e, l, e', l', hj, h, hk⟩
theorem appK {e : TypeId} {z : Nat × Nat} {ds l : List D} {u : Value} (j : Nat) (hj : σ j = .hs u e l) (h1 : ∀ u ∈ ds, width u = z.1) (h2 : (l.length + ds.length) * z.2 ≤ 140737488355328) (h3 : l.length + ds.length ≤ 140737488355328)
    (hk : ∀ A c, K (put (put σ j (.hs (.slice A (l ++ ds).length c) e (l ++ ds))) d (.d (.raw (.slice A (l ++ ds).length c))))) : AppK e z ds u σ d K := ⟨j, l, .inl hj, h1, h2, h3, hk⟩
theorem appK0 {e : TypeId} {z : Nat × Nat} {ds : List D} (j : Nat) (hj : σ j = .undef) (h1 : ∀ u ∈ ds, width u = z.1) (h2 : ds.length * z.2 ≤ 140737488355328) (h3 : ds.length ≤ 140737488355328)
    (hk : ∀ A c, K (put (put σ j (.hs (.slice A ds.length c) e ds)) d (.d (.raw (.slice A ds.length c))))) : AppK e z ds (.slice none 0 0) σ d K := ⟨j, [], .inr ⟨rfl, rfl, hj⟩, h1, by simpa using h2, by simpa using h3, by simpa using hk⟩
end
end Go.Vw

/- A contract with named slices, turned into one whose named slices are frozen. -/
namespace Go.Vw
open Go.RowKit Go.Proofs

mutual
/-- d, with the names of hs replaced by what they name. -/
inductive Fz (hs : List AV) : D → D → Prop
  | same (d : D) : Fz hs d d
  | sl {u : Value} {e : TypeId} {l : List D} : AV.hs u e l ∈ hs → Fz hs (.raw u) (.sl l)
  | agg {ds ds' : List D} : FzL hs ds ds' → Fz hs (.agg ds) (.agg ds')
inductive FzL (hs : List AV) : List D → List D → Prop
  | nil : FzL hs [] []
  | cons {d d' : D} {ds ds' : List D} : Fz hs d d' → FzL hs ds ds' → FzL hs (d :: ds) (d' :: ds')
end

theorem FzL.len {hs : List AV} : ∀ {ds ds' : List D}, FzL hs ds ds' → ds.length = ds'.length
  | _, _, .nil => rfl
  | _, _, .cons _ h => by simp [h.len]

variable {P : Program} {w : World} {L : Nat → Nat → Prop}

/-- The cells of the named slices do not change any more. -/
def withH (P : Program) (L : Nat → Nat → Prop) (hs : List AV) : Nat → Nat → Prop := fun b o => L b o ∨ ∃ u e l sz, AV.hs u e l ∈ hs ∧ u.ownBlock = some b ∧ (P.info? (ety e)).map (·.size) = some sz ∧ o < l.length * sz

theorem withH_ext (hs : List AV) : Ext w L w (withH P L hs) := fun _ _ h => ⟨.inl h, fun _ h => h⟩

theorem apart_mem : ∀ {hs : List AV}, apartB (hs.map hblk) → ∀ {x y : AV}, x ∈ hs → y ∈ hs → ∀ {g : Nat}, hblk x = some g → hblk y = some g → x = y
  | [], _, x, _, hx, _, _, _, _ => by simp at hx
  | z :: hs, h, x, y, hx, hy, g, h1, h2 => by
    rcases List.mem_cons.1 hx with rfl | hx2
    · rcases List.mem_cons.1 hy with rfl | hy2
      · rfl
      · exact absurd (List.mem_map.2 ⟨y, hy2, h2⟩) (h.1 g h1)
    · rcases List.mem_cons.1 hy with rfl | hy2
      · exact absurd (List.mem_map.2 ⟨x, hx2, h1⟩) (h.1 g h2)
      · exact apart_mem h.2 hx2 hy2 h1 h2

theorem withH_at {hs : List AV} (hr : ∀ x ∈ hs, RH P w L x) (ha : apartB (hs.map hblk)) {u : Value} {e : TypeId} {l : List D} (hm : AV.hs u e l ∈ hs) : RepV w (withH P L hs) (.sl l) u := by
  obtain ⟨css, sz, h1, h2, h3, h4, h5⟩ : OwnR P w L u.ownBlock true e l u := (hr _ hm).2
  refine OwnR.at_ (P := P) (og := u.ownBlock) (e := e) ⟨css, sz, h1, RepL.mono (withH_ext hs) _ _ h2, h3, h4, fun g hg => ⟨hg, fun o => ⟨fun hL => ⟨rfl, ?_⟩, fun h => ?_⟩⟩⟩
  · rcases hL with hL | ⟨u', e', l', sz', hm', hb', hs', ho'⟩
    · exact absurd (((h5 g hg).2 o).1 hL).1 (by simp)
    · have := apart_mem ha hm hm' (g := g) hg hb'
      simp only [AV.hs.injEq] at this
      obtain ⟨rfl, rfl, rfl⟩ := this
      rw [h1] at hs'
      simp only [Option.some.injEq] at hs'
      subst hs'
      exact ho'
  · exact .inr ⟨u, e, l, sz, hm, hg, h1, h.2⟩

mutual
theorem Rep.fz {hs : List AV} (hr : ∀ x ∈ hs, RH P w L x) (ha : apartB (hs.map hblk)) : ∀ {d d' : D} {cs : List Value}, Fz hs d d' → Rep w L d cs → Rep w (withH P L hs) d' cs
  | _, _, _, .same d, h => Rep.mono (withH_ext hs) _ _ h
  | _, _, _, .sl hm, h => by
    simp only [Rep] at h
    obtain ⟨rfl, h2, h3⟩ := h
    exact (withH_at hr ha hm).cell rfl
  | _, _, _, .agg hL, h => by
    simp only [Rep] at h ⊢
    obtain ⟨css, h1, h2⟩ := h
    exact ⟨css, RepL.fz hr ha hL h1, h2⟩
theorem RepL.fz {hs : List AV} (hr : ∀ x ∈ hs, RH P w L x) (ha : apartB (hs.map hblk)) : ∀ {ds ds' : List D} {css : List (List Value)}, FzL hs ds ds' → RepL w L ds css → RepL w (withH P L hs) ds' css
  | _, _, _, .nil, h => h
  | _, _, _, .cons h1 h2, h => by
    simp only [RepL] at h ⊢
    obtain ⟨c, cs, e, h3, h4⟩ := h
    exact ⟨c, cs, e, Rep.fz hr ha h1 h3, RepL.fz hr ha h2 h4⟩
end

theorem RCs.dataOnly {og og' : Option Nat} : ∀ {xs : List AV} {vs : List Value}, (∀ x ∈ xs, ∃ d, x = .d d) → RCs P w L og xs vs → RCs P w L og' xs vs
  | [], _, _, h => h
  | x :: xs, vs, hx, h => by
    simp only [RCs] at h ⊢
    obtain ⟨v, us, h1, h2, h3⟩ := h
    obtain ⟨d, rfl⟩ := hx x (by simp)
    exact ⟨v, us, h1, h2, RCs.dataOnly (fun y hy => hx y (by simp [hy])) h3⟩

/-- What it returns holds no names any more. -/
theorem CtrG.frozen {f : FuncId} {args : List AV} {Post : AV → List AV → Prop} (h : CtrG P f args [] Post) (hargs : ∀ x ∈ args, ∃ d, x = .d d) {e : TypeId} {l' : List D}
    (hp : ∀ r hs, Post r hs → ∃ l, r = .own true e l ∧ FzL hs l l') : Ctr P f args (.own true e l') := by
  refine ⟨h.1, fun w L og vals hlok hog hv => (h.2 w L vals hlok (RCs.dataOnly hargs hv) (by simp) trivial).mono ?_⟩
  rintro x w' ⟨v, L', og', r, hs, rfl, hgr, hlok', hold', hog', hap, hrc, hrh, hpost⟩
  obtain ⟨l, rfl, hl⟩ := hp r hs hpost
  obtain ⟨css, sz, h1, h2, h3, h4, h5⟩ : OwnR P w' L' og' true e l v := hrc
  have hblkm : ∀ {u : Value} {e : TypeId} {l : List D} {g : Nat}, AV.hs u e l ∈ hs → u.ownBlock = some g → some g ∈ hs.map hblk := fun hm hb => List.mem_map.2 ⟨_, hm, hb⟩
  refine ⟨v, withH P L' hs, og', rfl, hgr.sub (fun b hb => by simp at hb), fun b q hq => ?_, fun b q hb _ => ?_, fun g hg => ?_, css, sz, h1, RepL.fz hrh hap.2 hl h2, h3, ⟨by rw [← hl.len]; exact h4.1, by rw [← hl.len]; exact h4.2⟩, fun g hg => ⟨(h5 g hg).1, fun o => ⟨fun hL => ?_, fun h => by simp at h⟩⟩⟩
  · rcases hq with hq | ⟨u, e, l, sz, hm, hb, _⟩
    · exact hlok' b q hq
    · exact (hog' b (List.mem_cons.2 (.inr (hblkm hm hb)))).1
  · refine ⟨fun hL => ?_, fun hL => .inl ((hold' b q hb (by simp)).2 hL)⟩
    rcases hL with hL | ⟨u, e, l, sz, hm, hbb, _⟩
    · exact (hold' b q hb (by simp)).1 hL
    · have := (hog' b (List.mem_cons.2 (.inr (hblkm hm hbb)))).2
      simp at this
      omega
  · have := hog' g (by simp [hg])
    exact ⟨this.1, .inl (by simpa using this.2)⟩
  · rcases hL with hL | ⟨u, e, l, sz, hm, hbb, _⟩
    · have := ((h5 g hg).2 o).1 hL
      simp at this
    · exact absurd (hblkm hm hbb) (hap.1 g (h5 g hg).1)

theorem putH_lo : ∀ (xs : List AV) (σ : St) (b i : Nat), i < b → (∀ d, b ≤ d → kill d (σ i) = σ i) → putH σ [] b xs i = σ i
  | [], _, _, _, _, _ => rfl
  | x :: xs, σ, b, i, hi, hk => by
    rw [putH, putH_lo xs _ _ _ (by omega)]
    · simp only [put, if_neg (show ¬ i = b by omega)]; exact hk b (Nat.le_refl _)
    · intro d hd
      simp only [put, if_neg (show ¬ i = b by omega), hk b (Nat.le_refl _)]
      exact hk d (by omega)
theorem kill_H {x : AV} (h : isH x = true) (d : Nat) : kill d x = x := by cases x <;> simp [isH] at h <;> rfl
theorem putH_hi : ∀ (xs : List AV) (σ : St) (b : Nat), (∀ x ∈ xs, isH x = true) → ∀ i (h : i < xs.length), putH σ [] b xs (b + i) = xs[i]
  | [], _, _, _, _, h => by simp at h
  | x :: xs, σ, b, hx, 0, h => by
    have hkx := kill_H (hx x (by simp))
    have e : (put σ b x) b = x := by simp only [put, if_true]; exact hkx b
    rw [Nat.add_zero, putH, putH_lo _ _ _ _ (by omega) (by intro d _; rw [e]; exact hkx d), e, List.getElem_cons_zero]
  | x :: xs, σ, b, hx, i + 1, h => by
    have := putH_hi xs (put σ b x) (b + 1) (fun y hy => hx y (by simp [hy])) i (by simpa using h)
    rw [putH, show b + (i + 1) = b + 1 + i by omega, this, List.getElem_cons_succ]

theorem givK0 {g : FuncId} {args : List AV} {σ : St} {d : Nat} {K : St → Prop} {Post : AV → List AV → Prop} (h : CtrG P g args [] Post) (hH : ∀ r hs, Post r hs → ∀ x ∈ hs, isH x = true)
    (hk : ∀ r hs τ, Post r hs → (∀ i (h : i < hs.length), τ (1000000 + i) = hs[i]) → (∀ i, i < 1000000 → (∀ b, 1000000 ≤ b → kill b (put σ d r i) = put σ d r i) → τ i = put σ d r i) → K τ) : GivK P g args σ d K :=
  ⟨[], 1000000, Post, by simp, by simp, h, fun r hs hp => hk r hs _ hp (fun i hi => putH_hi hs _ _ (hH r hs hp) i hi) (fun i hi hki => putH_lo hs _ _ i hi hki)⟩

/-- A named slice that a call gives back has its length in its head. -/
theorem CtrG.shaped {f : FuncId} {args hs : List AV} {Post : AV → List AV → Prop} (h : CtrG P f args hs Post) :
    CtrG P f args hs (fun r hs' => Post r hs' ∧ ∀ u e l, AV.hs u e l ∈ hs' → ∃ A c, u = .slice A l.length c) := by
  refine ⟨h.1, fun w L vals hlok hv hh ha => (h.2 w L vals hlok hv hh ha).mono ?_⟩
  rintro x w' ⟨v, L', og', r, hs', h1, h2, h3, h4, h5, h6, h7, h8, h9⟩
  refine ⟨v, L', og', r, hs', h1, h2, h3, h4, h5, h6, h7, h8, h9, fun u e l hm => ?_⟩
  have : OwnR P w' L' u.ownBlock true e l u := (h8 _ hm).2
  exact this.shape
end Go.Vw
