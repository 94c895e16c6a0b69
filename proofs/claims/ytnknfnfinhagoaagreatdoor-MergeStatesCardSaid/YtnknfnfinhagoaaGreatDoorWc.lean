/-
  The abstract walk through a translated function, part 3 of 4: its data, its operations, and that it is sound, for every program. No conditions beyond those that each theorem states.
-/import Derived.Test.YtnknfnfinhagoaaGreatDoorWb
import Derived.Shelf.GgSortFunc.RowK
import Derived.Shelf.GgSortFunc.InsertionK
import Derived.Test.YtnknfnfinhagoaaGreatDoorWa
import Derived.StepT
import Derived.Calls
import Derived.CallsIn
import Derived.Shelf.SlIter.Sorted
import Derived.Shelf.SlSortCmp.WholeK
import Derived.Shelf.SlSortCmp.Whole1
import Derived.ChangeSame
import Derived.ReadAgain
import Derived.Deep.DeepHandedRow
import Derived.Lay
import Derived.OpenShut
import Derived.RowKit
open List
set_option linter.unusedSimpArgs false
set_option linter.unusedVariables false
namespace Go.Vw
open Go.RowKit Go.Proofs
variable {P : Program} {F : Nat -> Bool} {w0 : World} {L0 : Nat -> Nat -> Prop} {row : Nat -> Prop} {n : Nat} {K : St -> Prop} {Q : Exit -> Act -> World -> Prop}
 {w w' : World} {L L' : Nat -> Nat -> Prop} {O O' : Nat -> Option Nat} {σ σ' : St} {a : Act} {o : Oper} {d : Nat} {v : Value} {tm : Nat -> Value}
 {ops : Array Oper} {md : Region.Mode} {ds : List Nat}
def S0 (ds : List Nat) (x : AV) : Bool :=
 match a1I x with
 | some j => !ds.contains j
 | none => true
def INV (ds : List Nat) (σ : St) : Prop := (∀ t, S0 ds (σ t) = true) /\ ∀ d ∈ ds, d < 1000000
theorem a4a {x : AV} {j : Nat} (h : S0 ds x = true) (hj : a1I x = some j) : j ∉ ds := by
 simp only [S0, hj] at h; simpa using h
theorem b2q {x : AV} (h : a1I x ≠ some d) : F5 d x = x := by
 cases x with
 | bor j m e l => have : j ≠ d := fun e => h (by simp [a1I, e]); simp [F5, this]
 | adr j p => have : j ≠ d := fun e => h (by simp [a1I, e]); simp [F5, this]
 | eadr j i p => have : j ≠ d := fun e => h (by simp [a1I, e]); simp [F5, this]
 | sub j i => have : j ≠ d := fun e => h (by simp [a1I, e]); simp [F5, this]
 | _ => rfl
theorem a5P {x : AV} (hi : INV ds σ) (hd : d ∈ ds) (hx : S0 ds x = true) : put σ d x = E4 σ d x := by
 funext i
 simp only [put, E4]; split
 . exact b2q fun e => a4a hx e hd
 . exact b2q fun e => a4a (hi.1 i) e hd
theorem INV.setv {x : AV} (hi : INV ds σ) (hx : S0 ds x = true) : INV ds (E4 σ d x) := by
 refine ⟨fun t => ?_, hi.2⟩; simp only [Vw.E4]; split
 . exact hx
 . exact hi.1 t
def a1S (ops : Array Oper) (o : Oper) (σ : St) : Option Bool :=
 match o.guard with
 | none => some true
 | some (j, want) => match (ops[j]?).bind (·.dst) with
   | some t => (match σ t with
     | .d (.bool b) => some (b == want)
     | .tup [] => some false
     | _ => none)
   | none => none
def YV (P : Program) (F : Nat -> Bool) (ops : Array Oper) (ds : List Nat) (o : Oper) (d : Nat) (σ : St) (x : AV) : Prop :=
 o.dst = some d /\ d ∈ ds /\ S0 ds x = true /\ ((a1S ops o σ = some true /\ I5 P F o.op d σ (fun y => y = x)) \/ (a1S ops o σ = some false /\ x = .tup []))
def aOp (P : Program) (F : Nat -> Bool) (ops : Array Oper) (ds : List Nat) (i : Nat) (K : St -> Prop) (σ : St) : Prop :=
 match ops[i]? with
 | none => K σ
 | some o => ∃ d x, YV P F ops ds o d σ x /\ K (E4 σ d x)
theorem c1U {i : Nat} {K K' : St -> Prop} (h : ∀ σ, K σ -> K' σ) (hh : aOp P F ops ds i K σ) : aOp P F ops ds i K' σ := by
 unfold aOp at *; split at hh
 . exact h _ hh
 . rename_i o hi
   obtain ⟨d, x, h1, h2⟩ := hh; exact ⟨d, x, h1, h _ h2⟩
theorem b0b {x : AV} (hk : d ∉ o.looksAt ops) : a1S ops o (E4 σ d x) = a1S ops o σ := by
 unfold a1S; split
 . rfl
 . rename_i j want hg
   split
   . rename_i t ht
     have : t ≠ d := by
       rintro rfl; exact hk (by simp [Oper.looksAt, hg, ht])
     simp only [E4, if_neg this]
   . rfl
theorem b9r (hi : INV ds σ) (h : ∀ s, s ∈ o.looksAt ops \/ s ∉ ds -> σ s = σ' s) : Agr o.op.operands.toList σ σ' := by
 have hla : ∀ t, Operand.tmp t ∈ o.op.operands.toList -> t ∈ o.looksAt ops := fun t ht => by
   simp only [Oper.looksAt, mem_append, mem_filterMap]; exact .inl ⟨_, ht, rfl⟩
 refine ⟨fun y hy => ⟨fun t ht => h t (.inl (hla t (ht ▸ hy))), fun j hj => h j ?_⟩, fun j hj => h j (.inr fun hd => by have := hi.2 j hd; omega)⟩; cases y with
 | tmp t =>
   simp only [A6] at hj; have h1 := hi.1 t; cases hs : σ t <;> rw [hs] at hj h1 <;> simp only [rd, a1I, Option.some.injEq] at hj
   case own => exact .inl (hj ▸ hla t hy)
   case box => exact .inl (hj ▸ hla t hy)
   case bor => subst hj; exact .inr (a4a h1 rfl)
   case adr => subst hj; exact .inr (a4a h1 rfl)
   case eadr => subst hj; exact .inr (a4a h1 rfl)
   case sub => subst hj; exact .inr (a4a h1 rfl)
   all_goals cases hj
 | const v =>
   simp only [A6] at hj; unfold a2b at hj; split at hj <;> simp [a1I] at hj
 | func f => simp [A6, a1I] at hj
 | global g => simp [A6, a1I] at hj
theorem Agr.symm {xs : List Operand} (h : Agr xs σ σ') : Agr xs σ' σ := by
 refine ⟨fun x hx => ⟨fun t ht => ((h.1 x hx).1 t ht).symm, fun j hj => ?_⟩, fun j hj => (h.2 j hj).symm⟩; rw [<- h.aval hx] at hj; exact ((h.1 x hx).2 j hj).symm
theorem b5z {x : AV} (hi : INV ds σ) (hd : d ∈ ds) (hk : d ∉ o.looksAt ops) : Agr o.op.operands.toList (E4 σ d x) σ :=
 (b9r (ops := ops) hi fun s hs => by
   have : s ≠ d := by rintro rfl; exact hs.elim hk fun h => h hd
   simp only [E4, if_neg this]).symm
theorem YV.back {x y : AV} {e : Nat} (hi : INV ds σ) (hd : d ∈ ds) (hk : d ∉ o.looksAt ops) (h : YV P F ops ds o e (E4 σ d x) y) : YV P F ops ds o e σ y := by
 obtain ⟨h1, h2, h3, h4⟩ := h; rw [b0b hk] at h4; refine ⟨h1, h2, h3, ?_⟩; rcases h4 with ⟨h5, h6⟩ | h5
 . exact .inl ⟨h5, a8v (b5z hi hd hk) h6⟩
 . exact .inr h5
theorem YV.forth {x y : AV} {e : Nat} (hi : INV ds σ) (hd : d ∈ ds) (hk : d ∉ o.looksAt ops) (h : YV P F ops ds o e σ y) : YV P F ops ds o e (E4 σ d x) y := by
 obtain ⟨h1, h2, h3, h4⟩ := h; refine ⟨h1, h2, h3, ?_⟩; rw [b0b hk]; rcases h4 with ⟨h5, h6⟩ | h5
 . exact .inl ⟨h5, a8v (b5z hi hd hk).symm h6⟩
 . exact .inr h5
theorem b2F {d e : Nat} {x y : AV} (h : d ≠ e) : E4 (E4 σ d x) e y = E4 (E4 σ e y) d x := by
 funext i
 simp only [E4]; by_cases h1 : i = d <;> by_cases h2 : i = e <;> simp_all
theorem c5b {j di : Nat} {oi oj : Oper} {x : AV} (hj : ops[j]? = some oj) (hap : oi.apart ops oj = true) (hi : INV ds σ) (hy : YV P F ops ds oi di σ x) {K : St -> Prop} (h : aOp P F ops ds j K (E4 σ di x)) :
   aOp P F ops ds j (fun σ' => INV ds σ' /\ YV P F ops ds oi di σ' x /\ K (E4 σ' di x)) σ := by
 obtain ⟨h1, h2, h3⟩ := Oper.apart_spec hap; unfold aOp at *; simp only [hj] at *; obtain ⟨dj, u, hu, hK⟩ := h; refine ⟨dj, u, hu.back hi hy.2.1 (h1 di hy.1), hi.setv hu.2.2.1, hy.forth hi hu.2.1 (h3 dj hu.1), ?_⟩; rw [<- b2F (fun e => h2 di hy.1 (by rw [hu.1, e]))]; exact hK
def b4A (P : Program) (F : Nat -> Bool) (md : Region.Mode) (ops : Array Oper) (ds : List Nat) (n : Nat) (Lq : Array Bool -> St -> Prop) : Nat -> Array Bool -> St -> Prop
 | 0, listed, σ => Lq listed σ
 | f + 1, listed, σ => Region.ready md ops listed ≠ [] /\ ∀ i ∈ Region.ready md ops listed, i < n /\ aOp P F ops ds i (b4A P F md ops ds n Lq f (listed.setIfInBounds i true)) σ
theorem b8g {n i di : Nat} {oi : Oper} {x : AV} {Lq : Array Bool -> St -> Prop} (Iv : Array Bool -> Prop) (hset : ∀ listed j, Iv listed -> j ∈ Region.ready md ops listed -> j < n -> Iv (listed.setIfInBounds j true)) (hi : ops[i]? = some oi) (hin : i < n)
   (hlt : ∀ listed, Iv listed -> ∀ k, k < n -> listed.getD k true = false -> ∀ j ∈ Region.ready md ops listed, j < n) (hdone : ∀ listed σ, Lq listed σ -> ∀ j ∈ Region.ready md ops listed, n <= j) :
   ∀ (f : Nat) (listed : Array Bool) (σ : St), Iv listed ->
     (∀ j oj, ops[j]? = some oj -> j ≠ i -> listed.getD j true = false -> (∀ e ∈ oj.after, Region.binds md e = true -> e.on ≠ i) -> oi.apart ops oj = true) ->
     i ∈ Region.ready md ops listed -> INV ds σ -> YV P F ops ds oi di σ x ->
     b4A P F md ops ds n Lq f (listed.setIfInBounds i true) (E4 σ di x) -> b4A P F md ops ds n Lq (f + 1) listed σ := by
 intro f
 induction f with
 | zero =>
   intro listed σ inv _ hr hI hy H; have hun := (mem_ready.1 hr).1; refine ⟨fun h => (by rw [h] at hr; cases hr), fun j hj => ?_⟩; have hjn := hlt listed inv i hin hun j hj; refine ⟨hjn, ?_⟩; by_cases hji : j = i
   . subst hji; unfold aOp; simp only [hi]; exact ⟨di, x, hy, H⟩
   . have := hdone _ _ H j (ready_mono hj hji); omega
 | succ f ih =>
   intro listed σ inv hfree hr hI hy H; have hun := (mem_ready.1 hr).1; refine ⟨fun h => (by rw [h] at hr; cases hr), fun j hj => ?_⟩; have hjn := hlt listed inv i hin hun j hj; refine ⟨hjn, ?_⟩; by_cases hji : j = i
   . subst hji; unfold aOp; simp only [hi]; exact ⟨di, x, hy, H⟩
   . have h1 := (H.2 j (ready_mono hj hji)).2; obtain ⟨hjun, oj, hoj, hall⟩ := mem_ready.1 hj; have hnot : ∀ e ∈ oj.after, Region.binds md e = true -> e.on ≠ i := fun e he hb heq => by
       have h1 := hall e he hb; rw [heq, getD_both hun] at h1; cases h1
     have h2 := c5b hoj (hfree j oj hoj hji hjun hnot) hI hy h1; have hfree' : ∀ k ok, ops[k]? = some ok -> k ≠ i -> (listed.setIfInBounds j true).getD k true = false ->
         (∀ e ∈ ok.after, Region.binds md e = true -> e.on ≠ i) -> oi.apart ops ok = true := fun k ok hk hki hun hno => by
       refine hfree k ok hk hki ?_ hno; by_cases hjk : j = k
       . subst hjk; exact hjun
       . rw [getD_set_ne true hjk] at hun; exact hun
     refine c1U (fun a' h3 => ih (listed.setIfInBounds j true) a' (hset _ _ inv hj hjn) hfree' (ready_mono hr (Ne.symm hji)) h3.1 h3.2.1 ?_) h2; rw [Array.setIfInBounds_comm _ _ hji]; exact h3.2.2
def a3z (P : Program) (F : Nat -> Bool) (ops : Array Oper) (ds : List Nat) : List Oper -> (St -> Prop) -> St -> Prop
 | [], K, σ => K σ
 | o :: rest, K, σ => B4 o.dst fun d => match o.guard with
   | none => I5 P F o.op d σ fun x => S0 ds x = true /\ a3z P F ops ds rest K (E4 σ d x)
   | some (j, want) => B4 ((ops[j]?).bind (·.dst)) fun t => (match σ t with
     | .d (.bool b) => (b = want -> I5 P F o.op d σ fun x => S0 ds x = true /\ a3z P F ops ds rest K (E4 σ d x)) /\ (b ≠ want -> a3z P F ops ds rest K (E4 σ d (.tup [])))
     | .tup [] => a3z P F ops ds rest K (E4 σ d (.tup []))
     | _ => False)
theorem b2v {rest : List Oper} (hds : ∀ d, o.dst = some d -> d ∈ ds) (h : a3z P F ops ds (o :: rest) K σ) : ∃ d x, YV P F ops ds o d σ x /\ a3z P F ops ds rest K (E4 σ d x) := by
 simp only [a3z] at h; obtain ⟨d, hd, h⟩ := A7 h; refine ⟨d, ?_⟩; cases hg : o.guard with
 | none =>
   rw [hg] at h; obtain ⟨x, h1, h2, h3⟩ := a7o h; exact ⟨x, ⟨hd, hds d hd, h2, .inl ⟨by simp [a1S, hg], h1⟩⟩, h3⟩
 | some g =>
   obtain ⟨j, want⟩ := g; rw [hg] at h; obtain ⟨t, ht, h⟩ := A7 h; split at h
   . rename_i b hb
     by_cases hbw : b = want
     . obtain ⟨x, h1, h2, h3⟩ := a7o (h.1 hbw); exact ⟨x, ⟨hd, hds d hd, h2, .inl ⟨by simp [a1S, hg, ht, hb, hbw], h1⟩⟩, h3⟩
     . exact ⟨.tup [], ⟨hd, hds d hd, rfl, .inr ⟨by simp [a1S, hg, ht, hb, hbw], rfl⟩⟩, h.2 hbw⟩
   . rename_i hb
     exact ⟨.tup [], ⟨hd, hds d hd, rfl, .inr ⟨by simp [a1S, hg, ht, hb], rfl⟩⟩, h⟩
   . exact h.elim
theorem b4J {n g : Nat} {K : St -> Prop} (Iv : Array Bool -> Prop) (hset : ∀ listed j, Iv listed -> j ∈ Region.ready md ops listed -> j < n -> Iv (listed.setIfInBounds j true)) (hlt : ∀ listed, Iv listed -> ∀ k, k < n -> listed.getD k true = false -> ∀ j ∈ Region.ready md ops listed, j < n) :
   ∀ (l : List Oper) (k : Nat) (listed : Array Bool) (σ : St), (∀ o ∈ l, ∀ d, o.dst = some d -> d ∈ ds) -> (∀ j, j < l.length -> l[j]? = ops[k + j]?) -> k + l.length = n -> Iv listed ->
   Region.lexHead md ops g l.length k listed = true -> INV ds σ -> a3z P F ops ds l K σ ->
   b4A P F md ops ds n (fun listed' σ' => Region.seqB md ops g n listed' = true /\ INV ds σ' /\ K σ') l.length listed σ
 | [], k, listed, σ, _, _, hk, _, hB, hI, h => by
   have : k = n := (by simpa using hk); subst this; exact ⟨by simpa [Region.lexHead] using hB, hI, h⟩
 | o :: l, k, listed, σ, hds, hl, hk, inv, hB, hI, h => by
   have h0 : ops[k]? = some o := by simpa using (hl 0 (by simp)).symm
   simp only [length_cons, Region.lexHead, Bool.and_eq_true] at hB; obtain ⟨⟨hr, hf⟩, hB'⟩ := hB; have hkn : k < n := by simp only [length_cons] at hk; omega
   have hr' : k ∈ Region.ready md ops listed := (by simpa using hr); obtain ⟨d, x, hy, hK⟩ := b2v (fun d hd => hds o (by simp) d hd) h; exact b8g Iv hset h0 hkn hlt (fun listed' a' hL => seqB_ready hL.1) l.length listed σ inv (Region.free_spec h0 hf) hr' hI hy
     (b4J Iv hset hlt l (k + 1) _ _ (fun o ho => hds o (by simp [ho])) (fun j hj => by have := hl (j + 1) (by simp; omega); simpa [Nat.add_assoc, Nat.add_comm 1 j] using this) (by simp only [length_cons] at hk; omega) (hset _ _ inv hr' hkn) hB' (hI.setv hy.2.2.1) hK)
theorem b2i (hR : Rel P w0 L0 row w L O σ (C6 a)) {b : Bool} (h : a1S ops o σ = some b) : Region.wanted o (yielded ops a.tmps) = b := by
 unfold a1S at h; cases hg : o.guard with
 | none => rw [hg] at h; simp only [Option.some.injEq] at h; subst h; simp [Region.wanted, hg]
 | some g =>
   obtain ⟨j, want⟩ := g; rw [hg] at h; simp only at h; cases ht : (ops[j]?).bind (·.dst) with
   | none => rw [ht] at h; cases h
   | some t =>
     rw [ht] at h; simp only at h; split at h
     . rename_i c hc
       simp only [Option.some.injEq] at h; have := a5S hR ht hc; simp only [Region.wanted, hg, this, <- h]; cases c <;> cases want <;> rfl
     . rename_i hc
       simp only [Option.some.injEq] at h; have := a5w hR ht hc; simp only [Region.wanted, hg, this, <- h]; rfl
     . cases h
theorem a6o {n g : Nat} {k : Nat} {Lq : Array Bool -> St -> Prop} (hdst : ∀ o ∈ ops.toList, ∀ d, o.dst = some d -> d < k)
   (hL : ∀ listed a w, D4 P w0 L0 row k (fun σ => INV ds σ /\ Lq listed σ) a w -> wpAny P md ops Q g listed a w) :
   ∀ (f : Nat) (listed : Array Bool) (a : Act) (w : World), D4 P w0 L0 row k (fun σ => INV ds σ /\ b4A P F md ops ds n Lq f listed σ) a w -> wpAny P md ops Q (f + g) listed a w
 | 0, listed, a, w, h => by rw [Nat.zero_add]; exact hL _ _ _ h
 | f + 1, listed, a, w, h => by
   obtain ⟨L, O, σ, hR, hdef, hsz, hI, hne, hall⟩ := h; rw [show f + 1 + g = (f + g) + 1 by omega]; refine ⟨fun h0 => absurd h0 hne, fun i hi => ?_⟩; have hop := (hall i hi).2; unfold aOp at hop; unfold wpOp; split at hop
   . rename_i hoi
     simp only [hoi]; exact a6o hdst hL f _ a w ⟨L, O, σ, hR, hdef, hsz, hI, hop⟩
   . rename_i o hoi
     simp only [hoi]; obtain ⟨d, x, ⟨h1, h2, h3, h4⟩, hK⟩ := hop; have hmem : o ∈ ops.toList := by rw [Array.mem_toList_iff]; exact Array.mem_of_getElem? hoi
     have hlt := hdst o hmem; rcases h4 with ⟨hw, hp⟩ | ⟨hw, rfl⟩
     . rw [if_pos (b2i hR hw)]; refine .inl (Oper.wp_mono ?_ (a9M (K := fun τ => τ = put σ d x) h1 (hlt d h1) hsz hdef hR (a2E hp fun y hy => by rw [hy]))); rintro a' w' ⟨L1, O1, σ1, hR1, hd1, hs1, rfl⟩; rw [a5P hI h2 h3] at hR1; exact a6o hdst hL f _ a' w' ⟨L1, O1, _, hR1, hd1, hs1, hI.setv h3, hK⟩
     . rw [if_neg (by rw [b2i hR hw]; simp)]; have hg := a4M (K := fun τ => τ = put σ d (.tup [])) hR hlt hsz hdef (by rw [h1]; rfl); obtain ⟨L1, O1, σ1, hR1, hd1, hs1, rfl⟩ := hg; rw [a5P hI h2 h3] at hR1; exact a6o hdst hL f _ _ w ⟨L1, O1, _, hR1, hd1, hs1, hI.setv h3, hK⟩
def G0 (ds : List Nat) (x : AV) : AV :=
 match x with
 | .bor j m e l => if ds.contains j then (if m then .undef else .d (.sl l)) else .bor j m e l
 | .adr j p => if ds.contains j then .undef else .adr j p
 | .eadr j i p => if ds.contains j then .undef else .eadr j i p
 | .sub j i => if ds.contains j then .undef else .sub j i
 | y => y
def S7 (ds : List Nat) (σ : St) : St := fun t => G0 ds (σ t)
theorem b3g (hb : ∀ d ∈ ds, d < 1000000) : INV ds (S7 ds σ) := by
 refine ⟨fun t => ?_, hb⟩; simp only [S7]; cases σ t with
 | bor j m e l =>
   simp only [G0]; by_cases h : ds.contains j = true
   . rw [if_pos h]; cases m <;> rfl
   . rw [if_neg h]; simpa [S0, a1I] using h
 | adr j p =>
   simp only [G0]; by_cases h : ds.contains j = true
   . rw [if_pos h]; rfl
   . rw [if_neg h]; simpa [S0, a1I] using h
 | eadr j i p =>
   simp only [G0]; by_cases h : ds.contains j = true
   . rw [if_pos h]; rfl
   . rw [if_neg h]; simpa [S0, a1I] using h
 | sub j i =>
   simp only [G0]; by_cases h : ds.contains j = true
   . rw [if_pos h]; rfl
   . rw [if_neg h]; simpa [S0, a1I] using h
 | _ => rfl
theorem Rel.clean (h : Rel P w0 L0 row w L O σ tm) (ds : List Nat) : Rel P w0 L0 row w L O (Vw.S7 ds σ) tm := by
 refine ⟨h.grown, h.lok, h.gl, h.old, fun i => ?_, h.inj, h.olt⟩; have h1 := h.slots i; have hown : ∀ {j m e l}, σ j = AV.own m e l -> Vw.S7 ds σ j = .own m e l := fun hj => by simp only [Vw.S7, hj, G0]
 have hbox : ∀ {j b}, S5 (σ j) = some b -> S5 (Vw.S7 ds σ j) = some b := fun {j b} hj => by
   simp only [Vw.S7]; cases hx : σ j <;> rw [hx] at hj <;> simp [S5] at hj <;> simpa [G0, S5] using hj
 have hown2 : ∀ {j y}, N8 (σ j) = some y -> Vw.S7 ds σ j = σ j := fun {j y} hj => by
   simp only [Vw.S7]; cases hx : σ j <;> rw [hx] at hj <;> simp [N8] at hj <;> rfl
 show RA P w L O (Vw.S7 ds σ) tm (O i) (G0 ds (σ i)) (tm i)
 cases hx : σ i <;> rw [hx] at h1 <;> simp only [G0]
 case bor j m e l =>
   split
   . cases m with
     | true => simp [RA, RC]
     | false => exact RA.asD h.slots h1 rfl
   . exact ⟨hown h1.1, h1.2⟩
 case adr j p =>
   split
   . simp [RA, RC]
   . obtain ⟨b, g, off, e1, e2⟩ := h1; exact ⟨b, g, off, hbox e1, e2⟩
 case eadr j k p =>
   split
   . simp [RA, RC]
   . obtain ⟨e, l, g, sz, m, c, b, off, e1, e2⟩ := h1; exact ⟨e, l, g, sz, m, c, b, off, by rw [hown2 e1]; exact e1, by rw [hown2 e1]; exact e2⟩
 case sub j k =>
   split
   . simp [RA, RC]
   . obtain ⟨e, l, sz, e1, e2⟩ := h1; exact ⟨e, l, sz, by rw [hown2 e1]; exact e1, by rw [hown2 e1]; exact e2⟩
 all_goals exact h1
def a4k (F : Nat -> Bool) (d : Option Nat) : Op -> Bool
 | .store _ _ _ => true
 | .call { callee := .builtin .append, .. } => true
 | .call { callee := .builtin .clear, .. } => true
 | .call { callee := .builtin .delete, .. } => true
 | .mapUpdate _ _ _ _ => true
 | .insert _ _ _ _ => true
 | .makeMap _ _ => true
 | .call { callee := .value _, .. } => match d with
   | some d => F (d + 3000000) || F (d + 4000000) || F (d + 5000000) || F (d + 17000000)
   | none => true
 | _ => false
def a2u (F : Nat -> Bool) : List Oper -> Nat
 | [] => 0
 | o :: l => if a4k F o.dst o.op then 0 else a2u F l + 1
def a3m (l : List Oper) : List Nat := l.filterMap (·.dst)
def T5 (F : Nat -> Bool) : List Oper -> List Nat
 | [] => []
 | o :: l => if a4k F o.dst o.op then [] else (match o.dst with
   | some d => d :: T5 F l
   | none => T5 F l)
theorem a9u : ∀ l : List Oper, T5 F l = a3m (l.take (a2u F l))
 | [] => rfl
 | o :: l => by
   simp only [T5, a2u]; by_cases he : a4k F o.dst o.op = true
   . rw [if_pos he, if_pos he]; rfl
   . rw [if_neg he, if_neg he, take_succ_cons, a9u l]; cases ho : o.dst <;> simp [a3m, ho]
def R9 (P : Program) (F : Nat -> Bool) (ops : Array Oper) (ds : List Nat) : List Oper -> (St -> Prop) -> St -> Prop
 | [], K, σ => K σ
 | o :: rest, K, σ => if a4k F o.dst o.op then P6 P F ops (o :: rest) K σ else B4 o.dst fun d => match o.guard with
   | none => I5 P F o.op d σ fun x => S0 ds x = true /\ R9 P F ops ds rest K (E4 σ d x)
   | some (j, want) => B4 ((ops[j]?).bind (·.dst)) fun t => (match σ t with
     | .d (.bool b) => (b = want -> I5 P F o.op d σ fun x => S0 ds x = true /\ R9 P F ops ds rest K (E4 σ d x)) /\ (b ≠ want -> R9 P F ops ds rest K (E4 σ d (.tup [])))
     | .tup [] => R9 P F ops ds rest K (E4 σ d (.tup []))
     | _ => False)
theorem a1N : ∀ (l : List Oper) (σ : St), R9 P F ops ds l K σ -> a3z P F ops ds (l.take (a2u F l)) (fun σ' => P6 P F ops (l.drop (a2u F l)) K σ') σ
 | [], σ, h => h
 | o :: l, σ, h => by
   simp only [R9] at h; by_cases he : a4k F o.dst o.op = true
   . rw [if_pos he] at h; simp only [a2u, if_pos he, take_zero, drop_zero, a3z]; exact h
   . rw [if_neg he] at h; simp only [a2u, if_neg he, take_succ_cons, drop_succ_cons, a3z]; refine G7 h fun d h => ?_
     cases hg : o.guard with
     | none =>
       rw [hg] at h; exact a2E h fun x hx => ⟨hx.1, a1N l _ hx.2⟩
     | some g =>
       obtain ⟨j, want⟩ := g; rw [hg] at h; refine G7 h fun t h => ?_
       split at h
       . exact ⟨fun e => a2E (h.1 e) fun x hx => ⟨hx.1, a1N l _ hx.2⟩, fun e => a1N l _ (h.2 e)⟩
       . exact a1N l _ h
       . exact h.elim
def a0X (ops : Array Oper) (i : Nat) : Bool :=
 match ops[i]? with
 | some { dst := some d, op := .move (.tmp t), after, guard := none, .. } => after.isEmpty && Region.noSelect ops && (List.range ops.size).all fun j => j == i || (match ops[j]? with
   | some o => o.dst != some d && o.dst != some t && (!(o.looksAt ops).contains d || Region.waitsFor .any ops j i)
   | none => true)
 | _ => false
theorem a8i {i : Nat} (h : a0X ops i = true) : ∃ d t oi, ops[i]? = some oi /\ oi.dst = some d /\ oi.op = .move (.tmp t) /\ oi.after = #[] /\ oi.guard = none /\ Region.noSelect ops = true /\
   ∀ j o, ops[j]? = some o -> j ≠ i -> o.dst ≠ some d /\ o.dst ≠ some t /\ (d ∈ o.looksAt ops -> Region.waitsFor .any ops j i = true) := by
 unfold a0X at h; split at h
 . rename_i d t ty pos after heq
   simp only [Bool.and_eq_true, Array.isEmpty_iff] at h; refine ⟨d, t, _, heq, rfl, rfl, h.1.1, rfl, h.1.2, fun j o ho hne => ?_⟩; have hj : j < ops.size := (Array.getElem?_eq_some_iff.1 ho).1; have := all_eq_true.1 h.2 j (mem_range.2 hj); simp only [ho, Bool.or_eq_true, beq_iff_eq, hne, false_or, Bool.and_eq_true, bne_iff_ne, ne_eq, Bool.not_eq_true', contains_eq_mem, decide_eq_false_iff_not] at this; exact ⟨this.1.1, this.1.2, fun hd => (this.2.resolve_left (fun h => h hd))⟩
 . cases h
theorem c4J {o : Oper} {a : Act} {K K' : Act -> World -> Prop} {Q' : Exit -> Act -> World -> Prop} (hQ : ∀ ch a w, ¬ Q' (.panic ch) a w) (hL : ¬ LetsOut Q') (d : Nat) (v : Value) (he : execOp (a.put (some d) v).eval o = execOp a.eval o)
   (hK : ∀ (x : List Deferred) u w', K' (({ a with defers := x } : Act).put (some d) v |>.put o.dst u) w' -> K (({ a with defers := x } : Act).put o.dst u) w') (h : o.wp P (a.put (some d) v) w K' Q') : o.wp P a w K Q' := by
 unfold Oper.wp at h ⊢; rw [he] at h; generalize (execOp a.eval o).run P w = res at h ⊢; unfold Oper.upon at h ⊢; split <;> simp only at h ⊢
 . exact hK a.defers _ _ h
 . exact hK a.defers _ _ h
 . exact hK _ _ _ h
 . refine h.mono ?_; intro e' w'' hh; cases e' with
   | returned u => exact hK a.defers _ _ hh
   | panicked ch => exact absurd hh (hQ _ _ _)
   | outgrown => exact absurd hh hL
 . exact h.mono fun u w'' hh => hK a.defers _ _ hh
 . exact absurd h (hQ _ _ _)
theorem b3w (h : Region.noSelect ops = true) {j : Nat} {o : Oper} (hj : ops[j]? = some o) : ∀ cs b, o.op ≠ .select cs b := by
 intro cs b e; unfold Region.noSelect at h; have := Array.all_eq_true'.1 h o (Array.mem_of_getElem? hj); rw [e] at this; simp at this
theorem b8D {i : Nat} {Q' : Exit -> Act -> World -> Prop} (hQ : ∀ ch a w, ¬ Q' (.panic ch) a w) (hL : ¬ LetsOut Q') {d t : Nat} {oi : Oper} (hi : ops[i]? = some oi) (h1 : oi.dst = some d) (h2 : oi.op = .move (.tmp t)) (h3 : oi.after = #[]) (h4 : oi.guard = none) (h5 : Region.noSelect ops = true)
   (h6 : ∀ j o, ops[j]? = some o -> j ≠ i -> o.dst ≠ some d /\ o.dst ≠ some t /\ (d ∈ o.looksAt ops -> Region.waitsFor .any ops j i = true)) :
   ∀ (f : Nat) (listed : Array Bool) (a : Act) (w : World), listed.getD i true = false ->
     wpAny P .any ops Q' f (listed.setIfInBounds i true) (a.put (some d) (a.eval (.tmp t))) w -> wpAny P .any ops Q' (f + 1) listed a w := by
 intro f
 induction f with
 | zero =>
   intro listed a w hun H; have hr : i ∈ Region.ready .any ops listed := mem_ready.2 ⟨hun, oi, hi, fun e he => by rw [h3] at he; simp at he⟩; refine ⟨fun h => (by rw [h] at hr; cases hr), fun j hj => ?_⟩; by_cases hji : j = i
   . subst hji; unfold wpOp; simp only [hi, Region.wanted, h4, if_true]; refine .inl ?_; have : (execOp a.eval oi).run P w = .ok (.value (a.eval (.tmp t))) w := (by simp [execOp, h2]); unfold Oper.wp; rw [this]; simp only [Oper.upon, h1]; exact H
   . have := ready_mono hj hji; rw [H.1] at this; cases this
 | succ f ih =>
   intro listed a w hun H; have hr : i ∈ Region.ready .any ops listed := mem_ready.2 ⟨hun, oi, hi, fun e he => by rw [h3] at he; simp at he⟩; refine ⟨fun h => (by rw [h] at hr; cases hr), fun j hj => ?_⟩; by_cases hji : j = i
   . subst hji; unfold wpOp; simp only [hi, Region.wanted, h4, if_true]; refine .inl ?_; have : (execOp a.eval oi).run P w = .ok (.value (a.eval (.tmp t))) w := (by simp [execOp, h2]); unfold Oper.wp; rw [this]; simp only [Oper.upon, h1]; exact H
   . have hstep := H.2 j (ready_mono hj hji); obtain ⟨hjun, oj, hoj, hall⟩ := mem_ready.1 hj; obtain ⟨g1, g2, g3⟩ := h6 j oj hoj hji; have hnl : d ∉ oj.looksAt ops := fun hd => by
       obtain ⟨o', ho', e, he, hb, hon⟩ := Region.waitsFor_spec (g3 hd); obtain rfl : oj = o' := Option.some.inj (hoj.symm.trans ho'); have := hall e he hb; rw [hon, getD_both hun] at this; cases this
     have hne : ∀ (x : List Deferred) (u : Value), (({ a with defers := x } : Act).put (some d) (a.eval (.tmp t))).put oj.dst u = (({ a with defers := x } : Act).put oj.dst u).put (some d) ((({ a with defers := x } : Act).put oj.dst u).eval (.tmp t)) := by
       intro x u; rw [Act.put_comm _ _ _ (fun d' hd' => by obtain rfl : d = d' := (by simpa using hd'); exact g1)]; congr 1
       rw [Act.eval_put (fun d' hd' e => by
         simp only [Operand.tmp.injEq] at e; subst e; exact g2 hd')]
       rfl
     have next : ∀ (x : List Deferred) (u : Value) (w' : World), wpAny P .any ops Q' f ((listed.setIfInBounds i true).setIfInBounds j true) ((({ a with defers := x } : Act).put (some d) (a.eval (.tmp t))).put oj.dst u) w' ->
         wpAny P .any ops Q' (f + 1) (listed.setIfInBounds j true) (({ a with defers := x } : Act).put oj.dst u) w' := by
       intro x u w' hx; rw [hne x u, Array.setIfInBounds_comm _ _ (Ne.symm hji)] at hx; exact ih _ _ _ (by rw [getD_set_ne true hji]; exact hun) hx
     unfold wpOp at hstep ⊢; simp only [hoj] at hstep ⊢; have hy : Region.wanted oj (yielded ops (a.put (some d) (a.eval (.tmp t))).tmps) = Region.wanted oj (yielded ops a.tmps) := by
       unfold Region.wanted; cases hg : oj.guard with
       | none => rfl
       | some g =>
         obtain ⟨k, want⟩ := g; have : yielded ops (a.put (some d) (a.eval (.tmp t))).tmps k = yielded ops a.tmps k := by
           unfold yielded; cases hk : (ops[k]?).bind (·.dst) with
           | none => rfl
           | some s =>
             have hsd : d ≠ s := by
               rintro rfl; exact hnl (by simp [Oper.looksAt, hg, hk])
             simp [Act.put, Array.getElem?_setIfInBounds_ne hsd]
         simp only [this]
     rw [hy] at hstep; split
     . rename_i hw
       rw [if_pos hw] at hstep; rcases hstep with hstep | ⟨_, hstep⟩
       . exact .inl (c4J hQ hL d _ (execOp_put (ops := ops) oj (b3w h5 hoj) a (some d) _ (fun d' hd' => by obtain rfl : d = d' := (by simpa using hd'); exact hnl)) next hstep)
       . exact absurd hstep hL
     . rename_i hw
       rw [if_neg hw] at hstep; exact next a.defers undef w hstep
def b3B (ops : Array Oper) : Nat := ((List.range ops.size).takeWhile (a0X ops)).length
theorem b7V {i : Nat} (h : i < b3B ops) : a0X ops i = true := by
 have hmem : ((List.range ops.size).takeWhile (a0X ops))[i]? = some i := by
   have h1 : (List.range ops.size).takeWhile (a0X ops) <+: List.range ops.size := takeWhile_prefix _; obtain ⟨r, hr⟩ := h1; have h2 : (List.range ops.size)[i]? = ((List.range ops.size).takeWhile (a0X ops))[i]? := by
     conv => lhs; rw [<- hr]
     exact getElem?_append_left h
   rw [<- h2]; have h3 : i < (List.range ops.size).length := by rw [<- hr]; simp only [length_append]; unfold b3B at h; omega
   rw [getElem?_range (by simpa using h3)]
 exact all_takeWhile (p := a0X ops) (l := List.range ops.size) |> fun h => all_eq_true.1 h i (mem_of_getElem? hmem)
def a0f : Nat -> Array Bool -> Array Bool
 | 0, l => l
 | k + 1, l => (a0f k l).setIfInBounds k true
def b9L (ops : Array Oper) (k n : Nat) : Bool := (List.range n).all fun i => decide (i < k) || (List.range (n + 1)).any fun j => decide (i < j) && Region.waitsFor .any ops j i
theorem b6c {k n : Nat} {listed : Array Bool} (hs : b9L ops k n = true) (hc : Region.chainB .any ops n = true) (hn : n < ops.size) (inv : HeadInv .any ops n listed) (hk : ∀ i, i < k -> listed.getD i false = true) :
   ∀ (d i : Nat), n - i = d -> i < n -> listed.getD i true = false -> ∀ t, n <= t -> t ∉ Region.ready .any ops listed := by
 intro d
 induction d using Nat.strongRecOn with
 | _ d ih =>
   intro i hd hi hun t ht hr; obtain ⟨_, ot, hot, hall⟩ := mem_ready.1 hr; have htlt : t < ops.size := (Array.getElem?_eq_some_iff.1 hot).1; by_cases htn : t = n
   . subst htn; have h1 := all_eq_true.1 hs i (mem_range.2 hi); simp only [Bool.or_eq_true, decide_eq_true_eq] at h1; rcases h1 with h1 | h1
     . have := hk i h1; rw [getD_both hun] at this; cases this
     obtain ⟨j, hj, hj2⟩ := any_eq_true.1 h1; simp only [Bool.and_eq_true, decide_eq_true_eq] at hj2; obtain ⟨oj, hoj, e, he, hb, hon⟩ := Region.waitsFor_spec hj2.2; have hjle : j <= t := by have := mem_range.1 hj; omega
     by_cases hjt : j = t
     . subst hjt; have : oj = ot := Option.some.inj (hoj.symm.trans hot); subst this; have h2 := hall e he hb; rw [hon, getD_both hun] at h2; cases h2
     . cases hl : listed.getD j false with
       | true =>
         have h2 := inv.closed j oj hoj hl e he hb; rw [hon, getD_both hun] at h2; cases h2
       | false =>
         have hjs : j < listed.size := by rw [inv.size]; omega
         exact ih (t - j) (by omega) j rfl (by omega) (getD_in hjs hl) t (Nat.le_refl _) hr
   . have h1 := all_eq_true.1 hc t (mem_range.2 htlt); simp only [Bool.or_eq_true, decide_eq_true_eq] at h1; rcases h1 with h1 | h1
     . omega
     . obtain ⟨o', ho', e, he, hb, hon⟩ := Region.waitsFor_spec h1; have : o' = ot := Option.some.inj (ho'.symm.trans hot); subst this; have h2 := hall e he hb; rw [hon, getD_both (inv.tail (t - 1) (by omega) (by omega))] at h2; cases h2
def b3z (F : Nat -> Bool) (ops : Array Oper) : Bool :=
 let n := a2u F ops.toList
 let k := min n (b3B ops)
 (decide (n = ops.size) || (decide (n < ops.size) && b9L ops k n && Region.chainB .any ops n)) &&
 Region.lexHead .any ops (ops.size - n) (n - k) k (a0f k (Array.replicate ops.size false)) && (ops.toList.all fun o => match o.dst with
   | some d => decide (d < 1000000)
   | none => true)
theorem b4p : ∀ (l : List Oper), a2u F l <= l.length
 | [] => Nat.le_refl _
 | o :: l => by simp only [a2u]; split <;> simp; have := b4p l; omega
theorem b1f (s : Nat) : ∀ m, (a0f m (Array.replicate s false)).size = s
 | 0 => by simp [a0f]
 | m + 1 => by simp [a0f, b1f s m]
theorem a5k {s : Nat} : ∀ (m i : Nat), m <= i -> i < s -> (a0f m (Array.replicate s false)).getD i true = false
 | 0, i, _, hi => getD_in (by simpa [a0f] using hi) (getD_replicate_false _ _)
 | m + 1, i, h, hi => by
   simp only [a0f]; rw [getD_set_ne true (by omega)]; exact a5k m i (by omega) hi
theorem b5u {s : Nat} : ∀ (m i : Nat), i < m -> i < s -> (a0f m (Array.replicate s false)).getD i false = true
 | 0, i, h, _ => by omega
 | m + 1, i, h, hi => by
   simp only [a0f]; by_cases him : m = i
   . subst him; have := b1f s m; simp [this, hi]
   . rw [getD_set_ne false him]; exact b5u m i (by omega) hi
theorem b3h {nn : Nat} (hn : nn <= ops.size) : ∀ (m : Nat), m <= nn -> (∀ i, i < m -> a0X ops i = true) -> HeadInv .any ops nn (a0f m (Array.replicate ops.size false))
 | 0, _, _ => ⟨by simp [a0f], fun j oj _ hl => (by simp only [a0f] at hl; rw [getD_replicate_false] at hl; cases hl), fun t _ ht => a5k 0 t (Nat.zero_le _) ht⟩
 | m + 1, hm, hl => by
   have ih := b3h hn m (by omega) (fun i hi => hl i (by omega)); obtain ⟨d, t, oi, g1, g2, g3, g4, g5, g6, g7⟩ := a8i (hl m (by omega)); refine ih.set (mem_ready.2 ⟨a5k m m (Nat.le_refl _) (by omega), oi, g1, fun e he => ?_⟩) (by omega); rw [g4] at he; simp at he
theorem c4R {id kk : Nat} {K : St -> Prop} (hm : P.follows .mixedOrders = true) (hB : b3z F ops = true) (hdst : ∀ o ∈ ops.toList, ∀ d, o.dst = some d -> d < kk)
   (h : D4 P w0 L0 row kk (fun σ => R9 P F ops (T5 F ops.toList) ops.toList K (S7 (T5 F ops.toList) σ)) a w) (hQ : ∀ a w, D4 P w0 L0 row kk K a w -> Q .normal a w) : (Code.region id ops true).wp P Q a w := by
 obtain ⟨L, O, σ, hR, hdef, hsz, h⟩ := h; simp only [b3z] at hB; generalize hnn : a2u F ops.toList = nn at hB; generalize hkk : min nn (b3B ops) = k at hB; simp only [Bool.and_eq_true, Bool.or_eq_true, decide_eq_true_eq] at hB; obtain ⟨⟨hcase, hlex⟩, hlt6⟩ := hB; have hle := b4p (F := F) ops.toList; rw [Array.length_toList, hnn] at hle; have hkn : k <= nn := (by omega); have hlate : ∀ i, i < k -> a0X ops i = true := fun i hi => b7V (by omega)
 have hds6 : ∀ d ∈ T5 F ops.toList, d < 1000000 := by
   intro d hd; rw [a9u] at hd; simp only [a3m, mem_filterMap] at hd; obtain ⟨o, ho, hod⟩ := hd; have := all_eq_true.1 hlt6 o (mem_of_mem_take ho); simpa [hod] using this
 have hds : ∀ o ∈ ops.toList.take nn, ∀ d, o.dst = some d -> d ∈ T5 F ops.toList := fun o ho d hd => by rw [a9u, hnn]; simp only [a3m, mem_filterMap]; exact ⟨o, ho, hd⟩
 let Q0 : Exit -> Act -> World -> Prop := fun e a w => e = .normal /\ D4 P w0 L0 row kk K a w
 have hQp : ∀ ch a w, ¬ Q0 (.panic ch) a w := fun ch a w h => by cases h.1
 have hQl : ¬ LetsOut Q0 := fun ⟨a, w, h⟩ => by cases h.1
 refine wp_mono (Q := Q0) (wp_region_any hm ?_) (fun e a w ⟨he, hg⟩ => by subst he; exact hQ a w hg); generalize hw1 : ({ w with drawn := w.drawn + 1 } : World) = w1; have hR1 : Rel P w0 L0 row w1 L O (S7 (T5 F ops.toList) σ) (C6 a) := by rw [<- hw1]; exact (hR.drew).clean _
 have h0 := a1N (F := F) _ _ h; rw [hnn] at h0; have htl : (ops.toList.take nn).length = nn := by simp; omega
 have hdl : (ops.toList.drop nn).length = ops.size - nn := (by simp); have main : ∀ j, j <= k -> ∀ a, D4 P w0 L0 row kk (fun σ => INV (T5 F ops.toList) σ /\ a3z P F ops (T5 F ops.toList) ((ops.toList.take nn).drop (k - j)) (fun σ' => P6 P F ops (ops.toList.drop nn) K σ') σ) a w1 ->
     wpAny P .any ops Q0 (ops.size - (k - j)) (a0f (k - j) (Array.replicate ops.size false)) a w1 := by
   intro j
   induction j with
   | zero =>
     intro _ a hg; simp only [Nat.sub_zero] at hg ⊢; obtain ⟨L1, O1, a0, hR2, hd2, hs2, hI, hv⟩ := hg; have inv0 := b3h hle k hkn hlate; have hk0 : ∀ i, i < k -> (a0f k (Array.replicate ops.size false)).getD i false = true := fun i hi => b5u k i hi (by omega)
     have hlt : ∀ listed, HeadInv .any ops nn listed /\ (∀ i, i < k -> listed.getD i false = true) -> ∀ i, i < nn -> listed.getD i true = false -> ∀ j ∈ Region.ready .any ops listed, j < nn := by
       intro listed ⟨inv, hk⟩ i hi hun j hj; rcases hcase with h1 | ⟨⟨h1, h2⟩, h3⟩
       . obtain ⟨_, o, ho, _⟩ := mem_ready.1 hj; rw [h1]; exact (Array.getElem?_eq_some_iff.1 ho).1
       . rcases Nat.lt_or_ge j nn with h4 | h4
         . exact h4
         . exact absurd hj (b6c h2 h3 h1 inv hk _ i rfl hi hun j h4)
     have H := b4J (md := .any) (g := ops.size - nn) (P := P) (F := F) (ds := T5 F ops.toList) (K := fun σ' => P6 P F ops (ops.toList.drop nn) K σ') (fun listed => HeadInv .any ops nn listed /\ ∀ i, i < k -> listed.getD i false = true)
       (fun listed j ⟨h1, h2⟩ hj hjn => ⟨h1.set hj hjn, fun i hi => getD_set_true (h2 i hi)⟩) hlt ((ops.toList.take nn).drop k) k _ a0 (fun o ho => hds o (mem_of_mem_drop ho)) (fun j hj => by
         have hj' : k + j < nn := by simp at hj; omega
         simp [getElem?_drop, getElem?_take, hj']) (by simp; omega) ⟨inv0, hk0⟩ (by rw [length_drop, htl]; exact hlex) hI hv
     have := a6o (md := .any) (Q := Q0) (g := ops.size - nn) (k := kk) (w0 := w0) (L0 := L0) (row := row) hdst (fun listed a' w' hg => by
       obtain ⟨L1, O1, σ1, hR1, hd1, hs1, _, hseq, _, hv⟩ := hg; have := wpAny_of_seq (md := .any) (Q' := Q0) (P := P) (ops.toList.drop nn) nn listed a' w' (fun j => by simp [getElem?_drop]) (by rw [hdl]; exact hseq)
         (b1B (ops.toList.drop nn) a' w' (fun o ho d hd => hdst o (mem_of_mem_drop ho) d hd) ⟨L1, O1, σ1, hR1, hd1, hs1, hv⟩ (fun a w hg => ⟨rfl, hg⟩))
       rwa [hdl] at this) _ _ a w1 ⟨L1, O1, a0, hR2, hd2, hs2, hI, H⟩
     rw [length_drop, htl, show nn - k + (ops.size - nn) = ops.size - k by omega] at this; exact this
   | succ j ih =>
     intro hj a hg; have hik : k - (j + 1) < k := (by omega); obtain ⟨d, t, oi, g1, g2, g3, g4, g5, g6, g7⟩ := a8i (hlate _ hik); have hsucc : k - j = k - (j + 1) + 1 := (by omega); have hstep : ops.size - (k - (j + 1)) = (ops.size - (k - j)) + 1 := (by omega); rw [hstep]; refine b8D hQp hQl g1 g2 g3 g4 g5 g6 g7 _ _ _ _ (a5k _ _ (Nat.le_refl _) (by omega)) ?_; have hmk : (a0f (k - (j + 1)) (Array.replicate ops.size false)).setIfInBounds (k - (j + 1)) true = a0f (k - j) (Array.replicate ops.size false) := by rw [hsucc]; rfl
     rw [hmk]; refine ih (by omega) _ ?_; obtain ⟨L1, O1, σ1, hR2, hd2, hs2, hI, hv⟩ := hg; have hcons : (ops.toList.take nn).drop (k - (j + 1)) = oi :: (ops.toList.take nn).drop (k - j) := by
       rw [drop_eq_getElem_cons (by rw [htl]; omega), hsucc]; congr 1
       have : (ops.toList.take nn)[k - (j + 1)]? = some oi := by rw [getElem?_take, if_pos (by omega)]; simpa using g1
       exact (List.getElem?_eq_some_iff.1 this).2
     rw [hcons] at hv; have hmem : oi ∈ ops.toList := by rw [Array.mem_toList_iff]; exact Array.mem_of_getElem? g1
     have hmemt : oi ∈ ops.toList.take nn := mem_of_mem_drop (i := k - (j + 1)) (by rw [hcons]; simp); obtain ⟨d', x, ⟨y1, y2, y3, y4⟩, hK⟩ := b2v (hds oi hmemt) hv; obtain rfl : d = d' := by rw [g2] at y1; simpa using y1
     have hp : I5 P F oi.op d σ1 (fun y => y = x) := by
       rcases y4 with ⟨_, hp⟩ | ⟨hw, _⟩
       . exact hp
       . simp [a1S, g5] at hw
     have hwp := a9M (K := fun τ => τ = put σ1 d x) (Q := fun _ _ _ => False) g2 (hdst oi hmem d g2) hs2 hd2 hR2 (a2E hp fun y hy => by rw [hy]); have hrun : (execOp a.eval oi).run P w1 = .ok (.value (a.eval (.tmp t))) w1 := (by simp [execOp, g3]); unfold Oper.wp at hwp; rw [hrun] at hwp; simp only [Oper.upon, g2] at hwp; obtain ⟨L2, O2, σ2, hR3, hd3, hs3, rfl⟩ := hwp; rw [a5P hI y2 y3] at hR3; exact ⟨L2, O2, _, hR3, hd3, hs3, hI.setv y3, hK⟩
 have := main k (Nat.le_refl _) a ⟨L, O, _, hR1, hdef, hsz, b3g hds6, by rw [Nat.sub_self, drop_zero]; exact h0⟩; rw [Nat.sub_self] at this; exact this
end Go.Vw
namespace Go.Vw
open Go.RowKit Go.Proofs
variable {P : Program} {F : Nat -> Bool} {w0 : World} {L0 : Nat -> Nat -> Prop} {row : Nat -> Prop} {n : Nat} {K : St -> Prop} {Q : Exit -> Act -> World -> Prop}
 {w : World} {a : Act} {ops : Array Oper}
theorem c4D {o : Oper} {K' : Act -> World -> Prop} (hdst : ∀ d, o.dst = some d -> d < n) (h : D4 P w0 L0 row n (P6 P F ops [o] K) a w) (hQ : ∀ a w, D4 P w0 L0 row n K a w -> K' a w) :
   if Region.wanted o (yielded ops a.tmps) then o.wp P a w K' Q \/ (o.asks P a w /\ LetsOut Q) else K' (a.put o.dst undef) w := by
 have hrest : ∀ a w, D4 P w0 L0 row n (P6 P F ops [] K) a w -> K' a w := fun a w hg => hQ a w hg
 obtain ⟨L, O, σ, hR, hdef, hsz, hv⟩ := h; simp only [P6] at hv; have run : vop P F o K σ -> o.wp P a w K' Q := fun hv => by
   have h1 : o.wp P a w (D4 P w0 L0 row n K) Q := b0B hdst hsz hdef hR hv; exact Oper.wp_mono hQ h1
 cases hg : o.guard with
 | none =>
   rw [hg] at hv; simp only [Region.wanted, hg, if_true]; exact .inl (run hv)
 | some g =>
   obtain ⟨j, want⟩ := g; rw [hg] at hv; obtain ⟨t, ht, hv⟩ := A7 hv; split at hv
   . rename_i b hb
     have hy := a5S hR ht hb; by_cases hbw : b = want
     . have : Region.wanted o (yielded ops a.tmps) = true := (by simp [Region.wanted, hg, hy, hbw]); rw [if_pos this]; exact .inl (run (hv.1 hbw))
     . have : ¬ Region.wanted o (yielded ops a.tmps) = true := (by simp [Region.wanted, hg, hy, hbw]); rw [if_neg this]; exact hQ _ _ (a4M hR hdst hsz hdef (hv.2 hbw))
   . rename_i hb
     have hy := a5w hR ht hb; have : ¬ Region.wanted o (yielded ops a.tmps) = true := (by simp [Region.wanted, hg, hy]); rw [if_neg this]; exact hQ _ _ (a4M hR hdst hsz hdef hv)
   . exact hv.elim
def a6P (ops : Array Oper) : Bool := (List.range ops.size).all fun j => match ops[j]? with
 | some o => o.after.all fun e => !Region.binds .any e || decide (e.on < j)
 | none => true
def opn (ops : Array Oper) (s : Array Bool) : List Nat := (List.range ops.size).filter fun i => !s.getD i true
theorem b6X {s : Array Bool} {i : Nat} : i ∈ opn ops s ↔ i < ops.size /\ s.getD i true = false := by simp [opn]
theorem c4x {s : Array Bool} (hd : a6P ops = true) (h : Region.ready .any ops s = []) : ∀ i, i < ops.size -> s.getD i true = true := by
 intro i
 induction i using Nat.strongRecOn with
 | _ i ih =>
   intro hi; cases hc : s.getD i true with
   | true => rfl
   | false =>
     have hr : i ∈ Region.ready .any ops s := by
       refine mem_ready.2 ⟨hc, ops[i], by simp [hi], fun e he hb => ?_⟩; have h1 := all_eq_true.1 hd i (mem_range.2 hi); simp only [Array.getElem?_eq_getElem hi] at h1; have h2 := Array.all_eq_true_iff_forall_mem.1 h1 e he; simp only [hb, Bool.not_true, Bool.false_or, decide_eq_true_eq] at h2; have h3 := ih e.on h2 (by omega); rcases Nat.lt_or_ge e.on s.size with q | q
       . simpa [q] using h3
       . have h4 : s.getD i true = true := (by simp [show s.size <= i by omega]); rw [hc] at h4; cases h4
     rw [h] at hr; cases hr
theorem c4G (J : (Nat -> Bool) -> Act -> World -> Prop) (hd : a6P ops = true)
   (hs : ∀ (b : Nat -> Bool) i o, ops[i]? = some o -> b i = false -> (∀ e ∈ o.after, Region.binds .any e = true -> b e.on = true) -> ∀ a w, J b a w -> ∀ K' : Act -> World -> Prop, (∀ a w, J (fun j => if j = i then true else b j) a w -> K' a w) ->
     if Region.wanted o (yielded ops a.tmps) then o.wp P a w K' Q \/ (o.asks P a w /\ LetsOut Q) else K' (a.put o.dst undef) w)
   (he : ∀ b a w, (∀ i, i < ops.size -> b i = true) -> J b a w -> Q .normal a w) :
   ∀ g (s : Array Bool) a w, s.size = ops.size -> (opn ops s).length <= g -> J (fun i => s.getD i false) a w -> wpAny P .any ops Q g s a w := by
 have hfull : ∀ (s : Array Bool) a w, s.size = ops.size -> Region.ready .any ops s = [] -> J (fun i => s.getD i false) a w -> Q .normal a w := fun s a w hz h hJ => by
   refine he _ a w (fun i hi => ?_) hJ; have := c4x hd h i hi; have hi' : i < s.size := (by omega); simpa [hi'] using this
 intro g
 induction g with
 | zero =>
   intro s a w hz hg hJ; have hn : Region.ready .any ops s = [] := by
     refine eq_nil_iff_forall_not_mem.2 fun i hi => ?_
     obtain ⟨h1, o, h2, _⟩ := mem_ready.1 hi; have : i ∈ opn ops s := b6X.2 ⟨(Array.getElem?_eq_some_iff.1 h2).1, h1⟩; rw [eq_nil_of_length_eq_zero (by omega : (opn ops s).length = 0)] at this; cases this
   exact ⟨hn, hfull s a w hz hn hJ⟩
 | succ g ih =>
   intro s a w hz hg hJ; refine ⟨fun hn => hfull s a w hz hn hJ, fun i hr => ?_⟩; obtain ⟨h1, o, h2, h3⟩ := mem_ready.1 hr; have hi : i < ops.size := (Array.getElem?_eq_some_iff.1 h2).1; have hi' : i < s.size := (by omega); unfold wpOp; rw [h2]; have hb : s.getD i false = false := (by simpa [hi'] using h1); refine hs _ i o h2 hb h3 a w hJ _ fun a w hJ' => ih _ a w (by simpa using hz) ?_ ?_
   . have hlt : (opn ops (s.setIfInBounds i true)).length < (opn ops s).length := by
       have e : opn ops (s.setIfInBounds i true) = (opn ops s).filter fun j => !(s.setIfInBounds i true).getD j true := by
         unfold opn; rw [filter_filter]; refine filter_congr fun j _ => ?_
         by_cases hij : i = j
         . subst hij; simp [hi']
         . rw [getD_set_ne true hij]; simp
       rw [e, length_filter_lt_length_iff_exists]; exact ⟨i, b6X.2 ⟨hi, h1⟩, by simp [hi']⟩
     omega
   . have e : (fun j => (s.setIfInBounds i true).getD j false) = fun j => if j = i then true else s.getD j false := by
       funext j
       by_cases hij : i = j
       . subst hij; simp [hi']
       . rw [getD_set_ne false hij, if_neg (Ne.symm hij)]
     rw [e]; exact hJ'
theorem b6E (J : (Nat -> Bool) -> Act -> World -> Prop) (hd : a6P ops = true)
   (hs : ∀ (b : Nat -> Bool) i o, ops[i]? = some o -> b i = false -> (∀ e ∈ o.after, Region.binds .any e = true -> b e.on = true) -> ∀ a w, J b a w -> ∀ K' : Act -> World -> Prop, (∀ a w, J (fun j => if j = i then true else b j) a w -> K' a w) ->
     if Region.wanted o (yielded ops a.tmps) then o.wp P a w K' Q \/ (o.asks P a w /\ LetsOut Q) else K' (a.put o.dst undef) w)
   (he : ∀ b a w, (∀ i, i < ops.size -> b i = true) -> J b a w -> Q .normal a w) (h0 : J (fun _ => false) a w) : wpAny P .any ops Q ops.size (Array.replicate ops.size false) a w := by
 refine c4G J hd hs he _ _ _ _ (by simp) ?_ ?_
 . unfold opn; have := length_filter_le (fun i => !(Array.replicate ops.size false).getD i true) (List.range ops.size); simpa using this
 . have e : (fun i => (Array.replicate ops.size false).getD i false) = fun _ => false := by
     funext i
     rcases Nat.lt_or_ge i ops.size with q | q <;> simp [q]
   rw [e]; exact h0
end Go.Vw
namespace Go.Vw
open Go.RowKit Go.Proofs
variable {P : Program} {F : Nat -> Bool} {w0 : World} {L0 : Nat -> Nat -> Prop} {row : Nat -> Prop} {n : Nat} {K : St -> Prop} {Q : Exit -> Act -> World -> Prop}
 {w w' : World} {L L' : Nat -> Nat -> Prop} {O O' : Nat -> Option Nat} {σ σ' : St} {a : Act} {o : Oper} {d : Nat} {v : Value} {tm : Nat -> Value}
 {ops : Array Oper} {ds : List Nat}
def wrO (o : Oper) : Option Nat :=
 match o.dst with
 | some d => some d
 | none => (match o.op with
   | .store _ (.tmp s) _ => some s
   | _ => none)
def c0h (ops : Array Oper) (x y : Oper) : Bool := match wrO x, wrO y with
 | some d, some e => decide (d ≠ e) && !(y.looksAt ops).contains d && !(x.looksAt ops).contains e
 | _, _ => false
def b0q (ops : Array Oper) : Bool := a6P ops && (List.range ops.size).all fun k => match ops[k]? with
 | some o => o.guard.isNone && (match wrO o with
   | some d => decide (d < 1000000)
   | none => false) && ((List.range k).all fun j => Region.waitsFor .any ops k j || (match ops[j]? with
   | some oj => c0h ops oj o
   | none => false))
 | none => false
def wrs (l : List Oper) : List Nat := l.flatMap fun o => (wrO o).toList
def a8o : Op -> Option TypeId
 | .alloc e => some e
 | _ => none
def a0K (P : Program) (F : Nat -> Bool) (ds : List Nat) : List Oper -> (St -> Prop) -> St -> Prop
 | [], K, σ => K σ
 | o :: rest, K, σ => match o.dst with
   | some d => (match a8o o.op with
     | some e => if F (d + 1000000) = true then False else B4 (E3 P e) fun z => a0K P F ds rest K (E4 σ d (.box z))
     | none => I5 P F o.op d σ fun x => S0 ds x = true /\ a0K P F ds rest K (E4 σ d x))
   | none => (match o.op with
     | .store t (.tmp s) y => (match σ s with
       | .box b => B4 (asD (A6 σ y)) fun u => C0 u = C0 b /\ E5 P t = some (C0 u) /\ a0K P F ds rest K (E4 σ s (.box u))
       | _ => False)
     | _ => False)
def b7P (P : Program) (F : Nat -> Bool) (o : Oper) (d : Nat) (σ : St) (x : AV) : Prop :=
 (o.dst = some d /\ I5 P F o.op d σ (fun y => y = x)) \/
 (o.dst = some d /\ ∃ e z, o.op = .alloc e /\ F (d + 1000000) = false /\ E3 P e = some z /\ x = .box z) \/
 (o.dst = none /\ ∃ t y b u, o.op = .store t (.tmp d) y /\ σ d = .box b /\ asD (A6 σ y) = some u /\ C0 u = C0 b /\ E5 P t = some (C0 u) /\ x = .box u)
def XV (P : Program) (F : Nat -> Bool) (ds : List Nat) (o : Oper) (d : Nat) (σ : St) (x : AV) : Prop := wrO o = some d /\ d ∈ ds /\ S0 ds x = true /\ b7P P F o d σ x
theorem c0G {rest : List Oper} (hds : ∀ s, wrO o = some s -> s ∈ ds) (h : a0K P F ds (o :: rest) K σ) : ∃ d x, XV P F ds o d σ x /\ a0K P F ds rest K (E4 σ d x) := by
 simp only [a0K] at h; cases hd : o.dst with
 | some d =>
   rw [hd] at h; simp only at h; have hw : wrO o = some d := (by simp [wrO, hd]); cases ha : a8o o.op with
   | some e =>
     rw [ha] at h; simp only at h; split at h
     . exact h.elim
     . rename_i hF
       obtain ⟨z, hz, h⟩ := A7 h; have he : o.op = .alloc e := by
         unfold a8o at ha; split at ha
         . rename_i e' ho; simp only [Option.some.injEq] at ha; rw [ho, ha]
         . cases ha
       exact ⟨d, .box z, ⟨hw, hds d hw, rfl, .inr (.inl ⟨hd, e, z, he, by simpa using hF, hz, rfl⟩)⟩, h⟩
   | none =>
     rw [ha] at h; obtain ⟨x, h1, h2, h3⟩ := a7o h; exact ⟨d, x, ⟨hw, hds d hw, h2, .inl ⟨hd, h1⟩⟩, h3⟩
 | none =>
   rw [hd] at h; simp only at h; split at h
   . rename_i t s y ho
     split at h
     . rename_i b hb
       obtain ⟨u, hu, h1, h2, h3⟩ := A7 h; have hw : wrO o = some s := (by simp [wrO, hd, ho]); exact ⟨s, .box u, ⟨hw, hds s hw, rfl, .inr (.inr ⟨hd, t, y, b, u, ho, hb, hu, h1, h2, rfl⟩)⟩, h3⟩
     . exact h.elim
   . exact h.elim
theorem b7P.agr {e : Nat} {y : AV} (hA : Agr o.op.operands.toList σ σ') (h : b7P P F o e σ y) : b7P P F o e σ' y := by
 rcases h with ⟨h1, h2⟩ | h | ⟨h1, t, z, b, u, h2, h3, h4, h5, h6, h7⟩
 . exact .inl ⟨h1, a8v hA h2⟩
 . exact .inr (.inl h)
 . refine .inr (.inr ⟨h1, t, z, b, u, h2, ?_, ?_, h5, h6, h7⟩)
   . rw [<- (hA.1 (.tmp e) (by rw [h2]; simp [Op.operands])).1 e rfl]; exact h3
   . rw [<- hA.aval (x := z) (by rw [h2]; simp [Op.operands])]; exact h4
def ov (W : Nat -> Nat × AV) (b : Nat -> Bool) (σ : St) : Nat -> St
 | 0 => σ
 | k + 1 => if b k = true then E4 (ov W b σ k) (W k).1 (W k).2 else ov W b σ k
section
variable {W : Nat -> Nat × AV} {b b' : Nat -> Bool}
theorem b0X {t : Nat} : ∀ m, (∀ k, k < m -> b k ≠ b' k -> (W k).1 ≠ t) -> ov W b σ m t = ov W b' σ m t
 | 0, _ => rfl
 | m + 1, h => by
   have ih := b0X m fun k hk => h k (by omega)
   have h1 := h m (by omega); simp only [ov]; cases e : b m <;> cases e' : b' m <;> simp only [Bool.false_eq_true, if_false, if_true, E4]
   . exact ih
   . rw [if_neg (Ne.symm (h1 (by simp [e, e'])))]; exact ih
   . rw [if_neg (Ne.symm (h1 (by simp [e, e'])))]; exact ih
   . rw [ih]
theorem b9b {i : Nat} : ∀ m, i <= m -> ov W (fun k => decide (k < i)) σ m = ov W (fun _ => true) σ i
 | 0, h => by obtain rfl : i = 0 := by omega
              rfl
 | m + 1, h => by
   rcases Nat.lt_or_ge m i with q | q
   . obtain rfl : i = m + 1 := by omega
     funext t
     exact b0X _ fun k hk hn => absurd (by simpa using hk) hn
   . simp only [ov, decide_eq_true_eq, if_neg (show ¬ m < i by omega)]; exact b9b m q
theorem c0f {i : Nat} (hi : b i = false) : ∀ m, i < m -> (∀ k, i < k -> k < m -> b k = true -> (W i).1 ≠ (W k).1) -> ov W (fun j => if j = i then true else b j) σ m = E4 (ov W b σ m) (W i).1 (W i).2
 | 0, h, _ => by omega
 | m + 1, h, hk => by
   by_cases q : m = i
   . subst q; have e : ov W (fun j => if j = m then true else b j) σ m = ov W b σ m := by
       funext t
       exact b0X _ fun k hk hn => absurd (if_neg (by omega)) hn
     simp only [ov, if_true, hi, Bool.false_eq_true, if_false, e]
   . have ih := c0f hi m (by omega) fun k h1 h2 => hk k h1 (by omega)
     simp only [ov, if_neg q, ih]; split
     . rename_i hb
       exact b2F (hk m (by omega) (by omega) hb)
     . rfl
theorem c1e (h : INV ds σ) : ∀ m, (∀ k, k < m -> S0 ds (W k).2 = true) -> INV ds (ov W b σ m)
 | 0, _ => h
 | m + 1, hk => by
   have ih := c1e h m fun k h => hk k (by omega)
   simp only [ov]; split
   . exact ih.setv (hk m (by omega))
   . exact ih
end
theorem c1g : ∀ (l : List Oper) (σ : St), (∀ o ∈ l, ∀ s, wrO o = some s -> s ∈ ds) -> a0K P F ds l K σ -> ∃ W : Nat -> Nat × AV, (∀ k o, l[k]? = some o -> XV P F ds o (W k).1 (ov W (fun _ => true) σ k) (W k).2) /\ K (ov W (fun _ => true) σ l.length)
 | [], σ, _, h => ⟨fun _ => (0, .undef), fun k o h => by simp at h, h⟩
 | o :: l, σ, hds, h => by
   obtain ⟨d, x, hy, h⟩ := c0G (hds o (by simp)) h; obtain ⟨W, h1, h2⟩ := c1g l _ (fun o ho => hds o (by simp [ho])) h
   let W' : Nat -> Nat × AV := fun k => match k with
     | 0 => (d, x)
     | k + 1 => W k
   have e : ∀ k, ov W' (fun _ => true) σ (k + 1) = ov W (fun _ => true) (E4 σ d x) k := by
     intro k
     induction k with
     | zero => rfl
     | succ k ih => rw [ov, if_pos rfl, ih]; rfl
   refine ⟨W', fun k o' hk => ?_, by rw [length_cons, e]; exact h2⟩; cases k with
   | zero => obtain rfl : o = o' := by simpa using hk
             exact hy
   | succ k => rw [e]; exact h1 k o' (by simpa using hk)
theorem a6d (h : b0q ops = true) {k : Nat} (hk : k < ops.size) : ∃ o d, ops[k]? = some o /\ o.guard = none /\ wrO o = some d /\ d < 1000000 /\
   ∀ j, j < k -> (∃ e ∈ o.after, Region.binds .any e = true /\ e.on = j) \/ ∃ oj dj, ops[j]? = some oj /\ wrO oj = some dj /\ dj ≠ d /\ dj ∉ o.looksAt ops /\ d ∉ oj.looksAt ops := by
 simp only [b0q, Bool.and_eq_true] at h; have h1 := all_eq_true.1 h.2 k (mem_range.2 hk); split at h1
 . rename_i o ho
   simp only [Bool.and_eq_true, Option.isNone_iff_eq_none] at h1; obtain ⟨⟨g1, g2⟩, g4⟩ := h1; split at g2
   . rename_i d hd
     refine ⟨o, d, ho, g1, hd, by simpa using g2, fun j hj => ?_⟩; have := all_eq_true.1 g4 j (mem_range.2 hj); simp only [Bool.or_eq_true] at this; rcases this with h | h
     . obtain ⟨o', ho', e, he, hb, hon⟩ := Region.waitsFor_spec h; obtain rfl : o = o' := Option.some.inj (ho.symm.trans ho'); exact .inl ⟨e, he, hb, hon⟩
     . split at h
       . rename_i oj hoj
         simp only [c0h, hd] at h; split at h
         . rename_i dj e hdj he
           simp only [Option.some.injEq] at he; subst he; simp only [Bool.and_eq_true, decide_eq_true_eq, Bool.not_eq_true', contains_eq_mem, decide_eq_false_iff_not] at h; exact .inr ⟨oj, dj, hoj, hdj, h.1.1, h.1.2, h.2⟩
         . cases h
       . cases h
   . cases g2
 . cases h1
theorem c4W {id : Nat} (hm : P.follows .mixedOrders = true) (hs : b0q ops = true) (hdst : ∀ o ∈ ops.toList, ∀ d, o.dst = some d -> d < n)
   (h : D4 P w0 L0 row n (fun σ => a0K P F (wrs ops.toList) ops.toList K (S7 (wrs ops.toList) σ)) a w) (hQ : ∀ a w, D4 P w0 L0 row n K a w -> Q .normal a w) : (Code.region id ops true).wp P Q a w := by
 obtain ⟨L, O, σ, hR, hdef, hsz, hv⟩ := h; have hI0 : INV (wrs ops.toList) (S7 (wrs ops.toList) σ) := b3g fun d hd => by
   simp only [wrs, mem_flatMap, Option.mem_toList] at hd; obtain ⟨o, ho, hd⟩ := hd; obtain ⟨k, hk⟩ := mem_iff_getElem?.1 ho; have hk : ops[k]? = some o := (by simpa using hk); obtain ⟨o', d', ho', _, hw, hlt, _⟩ := a6d hs (Array.getElem?_eq_some_iff.1 hk).1; obtain rfl : o = o' := Option.some.inj (hk.symm.trans ho'); obtain rfl : d' = d := Option.some.inj (hw.symm.trans hd); exact hlt
 obtain ⟨W, hW, hK⟩ := c1g ops.toList _ (fun o ho s hs => by simp only [wrs, mem_flatMap, Option.mem_toList]; exact ⟨o, ho, hs⟩) hv; generalize wrs ops.toList = ds at *; have hR1 := (hR.drew).clean ds; generalize S7 ds σ = σ0 at *; have hd : a6P ops = true := by simp only [b0q, Bool.and_eq_true] at hs; exact hs.1
 have hW : ∀ k o, ops[k]? = some o -> XV P F ds o (W k).1 (ov W (fun _ => true) σ0 k) (W k).2 := fun k o h => hW k o (by simpa using h)
 have hrf : ∀ k, k < ops.size -> (W k).1 ∈ ds /\ S0 ds (W k).2 = true := fun k hk => by
   obtain ⟨_, h2, h3, _⟩ := hW k ops[k] (by simp [hk]); exact ⟨h2, h3⟩
 have hIb : ∀ b, INV ds (ov W b σ0 ops.size) := fun b => c1e hI0 _ fun k hk => (hrf k hk).2
 refine wp_region_any hm (b6E (fun b a w => (∀ i o, ops[i]? = some o -> b i = true -> ∀ e ∈ o.after, Region.binds .any e = true -> b e.on = true) /\ D4 P w0 L0 row n (fun τ => τ = ov W b σ0 ops.size) a w) hd ?_ ?_ ⟨fun _ _ _ h => (by cases h), L, O, σ0, hR1, hdef, hsz, ?_⟩)
 . rintro b i o ho hb hdep a w ⟨hcl, L1, O1, τ, hR1, hd1, hs1, rfl⟩ K' hK'; have hi : i < ops.size := (Array.getElem?_eq_some_iff.1 ho).1; obtain ⟨o', d', ho', hg, hw', _, hp⟩ := a6d hs hi; obtain rfl : o = o' := Option.some.inj (ho.symm.trans ho'); obtain ⟨h1, h2, h3, h4⟩ := hW i o ho; obtain rfl : (W i).1 = d' := Option.some.inj (h1.symm.trans hw'); have hap : ∀ k, k < ops.size -> (k < i /\ b k = false \/ i < k /\ b k = true) -> (W k).1 ∉ o.looksAt ops /\ (W i).1 ≠ (W k).1 := fun k hk hc => by
     obtain ⟨ok, dk, hok, _, hwk, _, hpk⟩ := a6d hs hk; obtain rfl : (W k).1 = dk := Option.some.inj ((hW k ok hok).1.symm.trans hwk); rcases hc with ⟨hc, hbk⟩ | ⟨hc, hbk⟩
     . rcases hp k hc with ⟨e, he, hbd, rfl⟩ | ⟨oj, dj, hoj, hwj, q1, q2, q3⟩
       . rw [hdep e he hbd] at hbk; cases hbk
       . obtain rfl : ok = oj := Option.some.inj (hok.symm.trans hoj); obtain rfl : (W k).1 = dj := Option.some.inj (hwk.symm.trans hwj); exact ⟨q2, Ne.symm q1⟩
     . rcases hpk i hc with ⟨e, he, hbd, rfl⟩ | ⟨oj, dj, hoj, hwj, q1, q2, q3⟩
       . rw [hcl k ok hok hbk e he hbd] at hb; cases hb
       . obtain rfl : o = oj := Option.some.inj (ho.symm.trans hoj); obtain rfl : (W i).1 = dj := Option.some.inj (h1.symm.trans hwj); exact ⟨q3, q1⟩
   have hset := c0f (W := W) (σ := σ0) hb ops.size hi fun k h5 h6 h7 => (hap k h6 (.inr ⟨h5, h7⟩)).2
   have h4 := h4.agr (σ' := ov W b σ0 ops.size) (b9r (ops := ops) (by rw [<- b9b ops.size (Nat.le_of_lt hi)]; exact hIb _) fun s hs => by
     rw [<- b9b ops.size (Nat.le_of_lt hi)]; refine b0X _ fun k hk hne => ?_
     rcases hs with hs | hs
     . rintro rfl; refine (hap k hk ?_).1 hs; rcases Nat.lt_trichotomy k i with q | q | q
       . exact .inl ⟨q, by simpa [q] using hne⟩
       . subst q; simp [hb] at hne
       . exact .inr ⟨q, by simpa [show ¬ k < i by omega] using hne⟩
     . rintro rfl; exact hs (hrf k hk).1)
   generalize hx : (W i).2 = x at *; generalize hdd : (W i).1 = d at *; have hlt := hdst o (by rw [Array.mem_toList_iff]; exact Array.mem_of_getElem? ho); rw [if_pos (by simp [Region.wanted, hg])]; refine .inl (Oper.wp_mono (K := D4 P w0 L0 row n (fun τ => τ = put (ov W b σ0 ops.size) d x)) ?_ ?_)
   . rintro a' w' ⟨L2, O2, σ2, hR2, hd2, hs2, rfl⟩; rw [a5P (hIb b) h2 h3, <- hset] at hR2; refine hK' _ _ ⟨fun k ok hok hbk e he hbd => ?_, L2, O2, _, hR2, hd2, hs2, rfl⟩; by_cases q : k = i
     . subst q; obtain rfl : o = ok := Option.some.inj (ho.symm.trans hok); simp [hdep e he hbd]
     . simp only [if_neg q] at hbk; simp [hcl k ok hok hbk e he hbd]
   . rcases h4 with ⟨e1, hp⟩ | ⟨e1, e, z, e2, e3, e4, rfl⟩ | ⟨e1, t, y, b', u, e2, e3, e4, e5, e6, rfl⟩
     . exact a9M (K := fun τ => τ = put (ov W b σ0 ops.size) d x) e1 (hlt d e1) hs1 hd1 hR1 (a2E hp fun y hy => by rw [hy])
     . refine b0B (F := F) hlt hs1 hd1 hR1 ?_; simp only [vop, e1, P9, e2, e3, e4, B4]; simp
     . refine b0B (F := F) hlt hs1 hd1 hR1 ?_; have ex : A6 (ov W b σ0 ops.size) (.tmp d) = .adr d [] := (by simp only [A6, e3, rd]); simp only [vop, e1, e2, a4K, ex, e3, D.get, D.upd, e4, B4]; exact ⟨e5, e6, trivial⟩
 . rintro b a w hb ⟨_, hg⟩; refine hQ a w (hg.mono fun τ e => ?_); subst e; have e : ov W b σ0 ops.size = ov W (fun _ => true) σ0 ops.size := by
     funext t
     exact b0X _ fun k hk hn => absurd (hb k hk) hn
   rw [e]; simpa using hK
 . have : ∀ m, ov W (fun _ => false) σ0 m = σ0 := by
     intro m
     induction m with
     | zero => rfl
     | succ m ih => simpa [ov] using ih
   rw [this]
end Go.Vw
namespace Go.Vw
open Go.RowKit Go.Proofs
def a8O (body : (Exit -> St -> Prop) -> St -> Prop) (Q : Exit -> St -> Prop) (σ : St) : Prop :=
 ∃ (I : Nat -> St -> Prop) (k : Nat), I k σ /\ ∀ m τ, I m τ -> body (a5n (fun τ' => ∃ m', m' < m /\ I m' τ') Q) τ
def b1A (b : Bool) (P : Program) (F : Nat -> Bool) (ops : Array Oper) (K N : St -> Prop) (σ : St) : Prop := if b = true then ∃ J : (Nat -> Bool) -> St -> Prop, J (fun _ => false) σ /\ a6P ops = true /\
 (∀ (b : Nat -> Bool) i o, ops[i]? = some o -> b i = false -> (∀ e ∈ o.after, Region.binds .any e = true -> b e.on = true) -> ∀ σ, J b σ -> ∀ K', (∀ σ', J (fun j => if j = i then true else b j) σ' -> K' σ') -> P6 P F ops [o] K' σ) /\
 (∀ b σ, (∀ i, i < ops.size -> b i = true) -> J b σ -> K σ) else N σ
def a9T (b : Bool) (P : Program) (F : Nat -> Bool) (ops : Array Oper) (K N : St -> Prop) (σ : St) : Prop := if b = true then a0K P F (wrs ops.toList) ops.toList K (S7 (wrs ops.toList) σ) else N σ
def vwp (P : Program) (F : Nat -> Bool) : Code -> (Exit -> St -> Prop) -> St -> Prop
 | .skip, Q, σ => Q .normal σ
 | .region _ ops false, Q, σ => P6 P F ops ops.toList (Q .normal) σ
 | .region id ops true, Q, σ => a9T (F (9000000 + id)) P F ops (Q .normal) (b1A (F (8000000 + id)) P F ops (Q .normal) (fun σ => R9 P F ops (T5 F ops.toList) ops.toList (Q .normal) (S7 (T5 F ops.toList) σ))) σ
 | .seq x y, Q, σ => vwp P F x (a5n (vwp P F y Q) Q) σ
 | .cond c x y, Q, σ => (match A6 σ c with
   | .d (.bool b) => (b = true -> vwp P F x Q σ) /\ (b = false -> vwp P F y Q σ)
   | _ => False)
 | .block id c, Q, σ => vwp P F c (a4p id Q) σ
 | .loop c, Q, σ => a8O (vwp P F c) Q σ
 | .exit id, Q, σ => Q (.exit id) σ
 | .ret, Q, σ => Q .ret σ
 | _, _, _ => False
def a1D (F : Nat -> Bool) (n : Nat) : Code -> Bool
 | .region id ops dr => (ops.toList.all fun o => match o.dst with
   | some d => decide (d < n)
   | none => true) && (!dr || (if F (9000000 + id) = true then b0q ops else F (8000000 + id) || b3z F ops))
 | .seq x y | .cond _ x y => a1D F n x && a1D F n y
 | .block _ c | .loop c => a1D F n c
 | _ => true
variable {P : Program} {F : Nat -> Bool} {w0 : World} {L0 : Nat -> Nat -> Prop} {row : Nat -> Prop} {n : Nat} {K : St -> Prop} {Q : Exit -> Act -> World -> Prop}
 {w w' : World} {L L' : Nat -> Nat -> Prop} {O O' : Nat -> Option Nat} {σ σ' : St} {a : Act} {o : Oper} {d : Nat} {v : Value} {tm : Nat -> Value}
def post (P : Program) (w0 : World) (L0 : Nat -> Nat -> Prop) (row : Nat -> Prop) (n : Nat) (Q : Exit -> St -> Prop) : Exit -> Act -> World -> Prop := fun e a w => D4 P w0 L0 row n (Q e) a w
theorem a1P (hm : P.follows .mixedOrders = true) : ∀ (c : Code) (Q : Exit -> St -> Prop) (a : Act) (w : World), a1D F n c = true -> D4 P w0 L0 row n (vwp P F c Q) a w -> c.wp P (post P w0 L0 row n Q) a w
 | .skip, Q, a, w, _, h => wp_skip h
 | .region _ ops false, Q, a, w, hok, h => by
   simp only [a1D, Bool.and_eq_true] at hok; refine wp_region_list (b1B ops.toList a w (fun o ho d hd => ?_) h (fun a w h => h)); have := all_eq_true.1 hok.1 o ho; simpa [hd] using this
 | .region id ops true, Q, a, w, hok, h => by
   simp only [a1D, Bool.and_eq_true, Bool.not_true, Bool.false_or] at hok; have hdst : ∀ o ∈ ops.toList, ∀ d, o.dst = some d -> d < n := fun o ho d hd => by
     have := all_eq_true.1 hok.1 o ho; simpa [hd] using this
   by_cases h9 : F (9000000 + id) = true
   . rw [if_pos h9] at hok; obtain ⟨L, O, σ, hR, hdef, hsz, hv⟩ := h; simp only [vwp, a9T, h9, if_true] at hv; exact c4W hm hok.2 hdst ⟨L, O, σ, hR, hdef, hsz, hv⟩ (fun a w h => h)
   rw [if_neg h9] at hok; simp only [Bool.or_eq_true] at hok; by_cases h8 : F (8000000 + id) = true
   . obtain ⟨L, O, σ, hR, hdef, hsz, hv⟩ := h; simp only [vwp, a9T, if_neg h9, b1A, h8, if_true] at hv; obtain ⟨J, h0, hd, hs, he⟩ := hv; exact wp_region_any hm (b6E (fun b => D4 P w0 L0 row n (J b)) hd (fun b i o ho hb hdep a w hg K' hK => c4D (hdst o (Array.mem_toList_iff.2 (Array.mem_of_getElem? ho))) (hg.mono fun σ hσ => hs b i o ho hb hdep σ hσ _ fun _ h => h) hK) (fun b a w hb hg => hg.mono fun σ => he b σ hb) ⟨L, O, σ, hR.drew, hdef, hsz, h0⟩)
   have hB : b3z F ops = true := by
     rcases hok.2 with h | h
     . exact absurd h h8
     . exact h
   have h : D4 P w0 L0 row n (fun σ => R9 P F ops (T5 F ops.toList) ops.toList (Q .normal) (S7 (T5 F ops.toList) σ)) a w := by
     obtain ⟨L, O, σ, hR, hdef, hsz, hv⟩ := h; simp only [vwp, a9T, if_neg h9, b1A, if_neg h8] at hv; exact ⟨L, O, σ, hR, hdef, hsz, hv⟩
   exact c4R hm hB hdst h (fun a w h => h)
 | .seq x y, Q, a, w, hok, h => by
   simp only [a1D, Bool.and_eq_true] at hok; refine wp_seq (wp_mono (a1P hm x _ a w hok.1 h) ?_); intro e a' w' hg; cases e with
   | normal => exact a1P hm y Q a' w' hok.2 hg
   | exit id => exact hg
   | goto l => exact hg
   | ret => exact hg
   | panic ch => exact hg
   | outgrown => exact hg
 | .cond c x y, Q, a, w, hok, h => by
   simp only [a1D, Bool.and_eq_true] at hok; obtain ⟨L, O, σ, hR, hdef, hsz, hv⟩ := h; simp only [vwp] at hv; split at hv
   . rename_i b hc
     have hcv := (H3 hR hc).bool_inv; exact wp_cond_split hcv (fun hb => a1P hm x Q a w hok.1 ⟨L, O, σ, hR, hdef, hsz, hv.1 hb⟩) (fun hb => a1P hm y Q a w hok.2 ⟨L, O, σ, hR, hdef, hsz, hv.2 hb⟩)
   . exact hv.elim
 | .block id c, Q, a, w, hok, h => by
   refine wp_block (wp_mono (a1P hm c _ a w hok h) ?_); intro e a' w' hg; cases e with
   | exit id' =>
     show if id' = id then post P w0 L0 row n Q .normal a' w' else post P w0 L0 row n Q (.exit id') a' w'
     have hg' : D4 P w0 L0 row n (fun σ => if id' = id then Q .normal σ else Q (.exit id') σ) a' w' := hg; split
     . exact hg'.mono fun σ h => by rwa [if_pos (by assumption)] at h
     . exact hg'.mono fun σ h => by rwa [if_neg (by assumption)] at h
   | normal => exact hg
   | goto l => exact hg
   | ret => exact hg
   | panic ch => exact hg
   | outgrown => exact hg
 | .loop c, Q, a, w, hok, h => by
   obtain ⟨L, O, σ, hR, hdef, hsz, I, k, h0, hI⟩ := h; refine wp_loop_ghost (fun m a w => D4 P w0 L0 row n (I m) a w) k ⟨L, O, σ, hR, hdef, hsz, h0⟩ ?_; intro m a' w' hg; refine wp_mono (a1P hm c _ a' w' hok (hg.mono fun τ hτ => hI m τ hτ)) ?_; intro e a2 w2 hg2; cases e with
   | normal =>
     obtain ⟨L2, O2, σ2, hR2, hd2, hs2, m', hm, hI2⟩ := hg2; exact ⟨m', hm, L2, O2, σ2, hR2, hd2, hs2, hI2⟩
   | exit id => exact hg2
   | goto l => exact hg2
   | ret => exact hg2
   | panic ch => exact hg2
   | outgrown => exact hg2
 | .exit id, Q, a, w, _, h => wp_exit h
 | .ret, Q, a, w, _, h => wp_ret h
 | .rangeFunc .., Q, a, w, _, h => by obtain ⟨_, _, _, _, _, _, h⟩ := h; simp only [vwp] at h
 | .scope _, Q, a, w, _, h => by obtain ⟨_, _, _, _, _, _, h⟩ := h; simp only [vwp] at h
 | .label _, Q, a, w, _, h => by obtain ⟨_, _, _, _, _, _, h⟩ := h; simp only [vwp] at h
 | .goto _, Q, a, w, _, h => by obtain ⟨_, _, _, _, _, _, h⟩ := h; simp only [vwp] at h
 | .refuse _, Q, a, w, _, h => by obtain ⟨_, _, _, _, _, _, h⟩ := h; simp only [vwp] at h
def Z3 (x r : AV) : Prop :=
 match r with
 | .d y => (match x with
   | .own true _ l => y = .sl l
   | .bor _ true _ l => y = .sl l
   | _ => asD x = some y)
 | .own m e l => (match x with
   | .own m' e' l' => m' = m /\ e' = e /\ l' = l
   | .bor _ m' e' l' => m' = m /\ e' = e /\ l' = l
   | _ => False)
 | .undef => True
 | _ => False
theorem F0.seen {og : Option Nat} {e : TypeId} {l : List D} {v : Value} (hlok : ∀ b q, L b q -> b < w.heap.size) (hog : ∀ g, og = some g -> g < w.heap.size) (h : F0 P w L og true e l v) :
   ∃ L', RepV w L' (.sl l) v /\ (∀ c q, L' c q -> c < w.heap.size) /\ (∀ c q, some c ≠ og -> (L' c q ↔ L c q)) /\ Ext w L w L' := by
 have h' : RC P w L og (.own true e l) v := h; obtain ⟨L', h1, h2, h3, h4⟩ := h'.demote false hlok hog; have h1' : F0 P w L' og false e l v := h1; exact ⟨L', h1'.at_, h2, h3, h4⟩
theorem b7p (hR : Rel P w0 L0 row w L O σ tm) {t : Nat} {r : AV} (h : Z3 (σ t) r) :
   ∃ L' og', (∀ b q, L' b q -> b < w.heap.size) /\ (∀ b q, b < w0.heap.size -> ¬ row b -> (L' b q ↔ L0 b q)) /\ (∀ g, og' = some g -> g < w.heap.size /\ (w0.heap.size <= g \/ row g)) /\ Ext w L w L' /\ RC P w L' og' r (tm t) := by
 have h1 := hR.slots t; have keep : ∀ og', (∀ g, og' = some g -> g < w.heap.size /\ (w0.heap.size <= g \/ row g)) -> RC P w L og' r (tm t) ->
     ∃ L' og', (∀ b q, L' b q -> b < w.heap.size) /\ (∀ b q, b < w0.heap.size -> ¬ row b -> (L' b q ↔ L0 b q)) /\ (∀ g, og' = some g -> g < w.heap.size /\ (w0.heap.size <= g \/ row g)) /\ Ext w L w L' /\ RC P w L' og' r (tm t) :=
   fun og' hg hr => ⟨L, og', hR.lok, hR.old, hg, fun _ _ h => ⟨h, fun _ hv => hv⟩, hr⟩
 have seen : ∀ (j : Nat) (e : TypeId) (l : List D), F0 P w L (O j) true e l (tm t) -> r = .d (.sl l) ->
     ∃ L' og', (∀ b q, L' b q -> b < w.heap.size) /\ (∀ b q, b < w0.heap.size -> ¬ row b -> (L' b q ↔ L0 b q)) /\ (∀ g, og' = some g -> g < w.heap.size /\ (w0.heap.size <= g \/ row g)) /\ Ext w L w L' /\ RC P w L' og' r (tm t) := by
   rintro j e l ho rfl; obtain ⟨L', g1, g2, g3, g4⟩ := ho.seen hR.lok (fun g hg => (hR.olt j g hg).1); refine ⟨L', none, g2, fun b q hb hr => ?_, by simp, g4, by simpa only [RC] using g1⟩; refine (g3 b q (fun e => ?_)).trans (hR.old b q hb hr); rcases (hR.olt j b e.symm).2 with h2 | h2
   . omega
   . exact hr h2
 cases r with
 | d y =>
   have other : asD (σ t) = some y -> RepV w L y (tm t) := fun h => RA.asD hR.slots h1 h
   simp only [Z3] at h; split at h
   . rename_i e l hx
     subst h; rw [hx] at h1; exact seen t e l h1 rfl
   . rename_i j e l hx
     subst h; rw [hx] at h1; obtain ⟨h2, h3⟩ := h1; have h4 := hR.slots j; rw [h2] at h4; exact seen j e l (by rw [h3]; exact h4) rfl
   . exact keep none (by simp) (by simpa only [RC] using other h)
 | own m e l =>
   simp only [Z3] at h; split at h
   . rename_i m' e' l' hx
     obtain ⟨rfl, rfl, rfl⟩ := h; rw [hx] at h1; exact keep (O t) (fun g hg => hR.olt t g hg) h1
   . rename_i j m' e' l' hx
     obtain ⟨rfl, rfl, rfl⟩ := h; rw [hx] at h1; obtain ⟨h2, h3⟩ := h1; have h4 := hR.slots j; rw [h2] at h4; exact keep (O j) (fun g hg => hR.olt j g hg) (by rw [h3]; exact h4)
   . exact h.elim
 | undef => exact keep none (by simp) (by simp [RC])
 | _ => exact h.elim
def a5d (args : List AV) : St := fun i => match args[i]? with
 | some x => x
 | none => .undef
def a5T : AV -> Bool
 | .own _ _ _ => true
 | _ => false
def b0u : AV -> Bool
 | .d _ => true
 | .own true _ _ => true
 | _ => false
theorem RCs.length {og : Option Nat} : ∀ {xs : List AV} {vs : List Value}, RCs P w L og xs vs -> vs.length = xs.length
 | [], _, h => by simp only [RCs] at h; subst h; rfl
 | x :: xs, _, h => by
   simp only [RCs] at h; obtain ⟨v, us, rfl, h1, h2⟩ := h; simp [RCs.length h2]
def a4o : List AV -> Bool
 | [] => true
 | x :: xs => if a5T x then xs.all (fun y => !a5T y) else a4o xs
theorem b2p : ∀ {args : List AV} {i j : Nat} {x y : AV}, a4o args = true -> args[i]? = some x -> args[j]? = some y -> a5T x = true -> a5T y = true -> i = j
 | [], i, _, _, _, _, h, _, _, _ => by simp at h
 | z :: zs, i, j, x, y, h, hx, hy, h1, h2 => by
   simp only [a4o] at h; split at h
   . have hz : ∀ (k : Nat) (u : AV), zs[k]? = some u -> a5T u = false := fun k u hk => by
       have := all_eq_true.1 h u (mem_of_getElem? hk); simpa using this
     cases i <;> cases j
     . rfl
     . simp only [getElem?_cons_succ] at hy; rw [hz _ _ hy] at h2; cases h2
     . simp only [getElem?_cons_succ] at hx; rw [hz _ _ hx] at h1; cases h1
     . simp only [getElem?_cons_succ] at hx; rw [hz _ _ hx] at h1; cases h1
   . rename_i hz
     cases i with
     | zero => simp only [getElem?_cons_zero, Option.some.injEq] at hx; subst hx; exact absurd h1 hz
     | succ i =>
       cases j with
       | zero => simp only [getElem?_cons_zero, Option.some.injEq] at hy; subst hy; exact absurd h2 hz
       | succ j =>
         simp only [getElem?_cons_succ] at hx hy; rw [b2p h hx hy h1 h2]
def b3O (args : List AV) (og : Option Nat) : Nat -> Option Nat := fun i => match args[i]? with
 | some x => if a5T x then og else none
 | none => none
theorem b4R {og : Option Nat} {args : List AV} {vals : List Value} {k : Nat} (hlok : ∀ b q, L b q -> b < w.heap.size) (hgl : GL P w L) (hog : ∀ g, og = some g -> g < w.heap.size /\ ∀ q, ¬ L g q) (h : RCs P w L og args vals)
   (harg : (args.all b0u) = true) (hone : a4o args = true) :
   Rel P w L (H1 og) w L (b3O args og) (a5d args) (C6 { tmps := vals.toArray ++ Array.replicate k undef, defers := [] }) := by
 refine ⟨F7.refl w _, hlok, hgl, fun _ _ _ _ => Iff.rfl, fun i => ?_, fun i j g hi hj => ?_, fun i g hi => ?_⟩
 . simp only [b3O, a5d]; cases hx : args[i]? with
   | none => simp [RA, RC]
   | some x =>
     obtain ⟨v, hv, hr⟩ := h.get hx; have htm : C6 { tmps := vals.toArray ++ Array.replicate k undef, defers := [] } i = v := by
       have hl : i < vals.length := (List.getElem?_eq_some_iff.1 hv).1; simp only [C6, Array.getD_eq_getD_getElem?]; rw [Array.getElem?_append_left (by simpa using hl)]; simp [hv]
     rw [htm]; have ha := all_eq_true.1 harg x (mem_of_getElem? hx); cases x <;> simp [b0u] at ha <;> simp only [a5T, Bool.false_eq_true, if_false, if_true]
     case d y => exact hr
     case own m e l => exact hr
 . simp only [b3O] at hi hj; split at hi
   . rename_i x hx
     split at hi
     . rename_i h1
       split at hj
       . rename_i y hy
         split at hj
         . rename_i h2
           exact b2p hone hx hy h1 h2
         . cases hj
       . cases hj
     . cases hi
   . cases hi
 . simp only [b3O] at hi; split at hi
   . split at hi
     . exact ⟨(hog g hi).1, .inr hi⟩
     . cases hi
   . cases hi
def b1s (t : Nat) (r : AV) : Exit -> St -> Prop := fun e σ => (e = .ret \/ e = .normal) /\ Z3 (σ t) r
def b3E (t u : Nat) (r : AV) (y : D) : Exit -> St -> Prop := fun e σ => (e = .ret \/ e = .normal) /\ Z3 (σ t) r /\ asD (σ u) = some y
theorem b9F {f : FuncId} {fn : Func} {c : Code} {args : List AV} {t : Nat} {r : AV} (F : Nat -> Bool) (hm : P.follows .mixedOrders = true) (hf : P.funcs[f]? = some fn) (hname : (fn.name == "runtime.NumGoroutine") = false) (hb : fn.body = some c) (hres : fn.results = #[.tmp t])
   (hargs : args.length <= fn.ntmps) (hok : a1D F fn.ntmps c = true) (harg : (args.all b0u) = true) (hone : a4o args = true)
   (h : vwp P F c (b1s t r) (a5d args)) : Ctr P f args r := by
 refine ⟨enters_of hf hname hb, fun w L og vals hlok hgl hog hrc => ?_⟩; have hl := hrc.length; refine calls_of_wp hf hb (wp_mono (a1P (n := fn.ntmps) hm c _ _ w hok ⟨L, _, a5d args, b4R hlok hgl hog hrc harg hone, rfl, ?_, h⟩) ?_)
 . simp; omega
 . rintro e a' w' ⟨L', O', σ', hR, hdef, hsz, he, hr⟩; obtain ⟨L2, og2, h1, h2, h3, _, h4⟩ := b7p hR hr; have hfin : a'.defers = [] /\ ∃ v, (results fn a'.tmps).run P w' = .ok v w' /\ (∃ v' L' og', Ending.returned v = .returned v' /\ F7 w w' (H1 og) /\ (∀ b q, L' b q -> b < w'.heap.size) /\ (∀ b q, b < w.heap.size -> ¬ H1 og b -> (L' b q ↔ L b q)) /\
       (∀ g, og' = some g -> g < w'.heap.size /\ (w.heap.size <= g \/ og = some g)) /\ RC P w' L' og' r v') :=
     ⟨hdef, _, results_tmp hres _ _ _, _, L2, og2, rfl, hR.grown, h1, h2, h3, h4⟩
   rcases he with rfl | rfl
   . exact hfin
   . exact hfin
def A5 (args hs : List AV) : St := fun i => if 1000000 <= i then (match hs[i - 1000000]? with
   | some x => x
   | none => .undef) else (match args[i]? with
   | some x => x
   | none => .undef)
def b8W : AV -> Bool
 | .d _ => true
 | _ => false
def a0A (σ : St) (t : Nat) (r : AV) : Prop :=
 match σ t with
 | .d y => r = .d y
 | .nils => r = .d (.sl [])
 | .own m e l => r = .own m e l
 | .bor _ m e l => r = .own m e l
 | .tup [] => r = .tup []
 | _ => False
def b4Z (t : Nat) (Post : AV -> List AV -> Prop) : Exit -> St -> Prop := fun e σ => (e = .ret \/ e = .normal) /\ ∃ (r : AV) (ks : List Nat), ks.Nodup /\ (∀ k ∈ ks, isH (σ k) = true) /\ a0A σ t r /\ Post r (ks.map σ)
theorem b3k {args hs : List AV} {vals : List Value} {k : Nat} (hlok : ∀ b q, L b q -> b < w.heap.size) (hgl : GL P w L) (h : RCs P w L none args vals) (harg : (args.all b8W) = true) (hh : ∀ x ∈ hs, RH P w L x) (hap : J6 (hs.map C9)) (hblt : ∀ x ∈ hs, ∀ g, C9 x = some g -> g < w.heap.size) :
   Rel P w L (fun b => some b ∈ hs.map C9) w L (fun i => if 1000000 <= i then (hs[i - 1000000]?).bind C9 else none) (A5 args hs) (C6 { tmps := vals.toArray ++ Array.replicate k undef, defers := [] }) := by
 refine ⟨F7.refl w _, hlok, hgl, fun _ _ _ _ => Iff.rfl, fun i => ?_, fun i j g hi hj => ?_, fun i g hi => ?_⟩
 . simp only [A5]; by_cases hi : 1000000 <= i
   . simp only [hi, if_true]; cases hx : hs[i - 1000000]? with
     | none => simp [RA, RC]
     | some x =>
       obtain ⟨h1, h2⟩ := hh x (mem_of_getElem? hx); simp only [Option.bind_some]; cases x <;> simp [isH] at h1 <;> exact h2
   . simp only [hi, if_false]; cases hx : args[i]? with
     | none => simp [RA, RC]
     | some x =>
       obtain ⟨v, hv, hr⟩ := h.get hx; have htm : C6 { tmps := vals.toArray ++ Array.replicate k undef, defers := [] } i = v := by
         have hl : i < vals.length := (List.getElem?_eq_some_iff.1 hv).1; simp only [C6, Array.getD_eq_getD_getElem?]; rw [Array.getElem?_append_left (by simpa using hl)]; simp [hv]
       rw [htm]; have ha := all_eq_true.1 harg x (mem_of_getElem? hx); cases x <;> simp [b8W] at ha
       exact hr
 . have key : ∀ (l : List (Option Nat)), J6 l -> ∀ (i j g : Nat), l[i]? = some (some g) -> l[j]? = some (some g) -> i = j := by
     intro l
     induction l with
     | nil => intro _ i j g h; simp at h
     | cons x xs ih =>
       intro ha i j g h1 h2; cases i <;> cases j
       . rfl
       . simp only [getElem?_cons_zero, getElem?_cons_succ, Option.some.injEq] at h1 h2; exact absurd (mem_of_getElem? h2) (ha.1 g h1)
       . simp only [getElem?_cons_zero, getElem?_cons_succ, Option.some.injEq] at h1 h2; exact absurd (mem_of_getElem? h1) (ha.1 g h2)
       . simp only [getElem?_cons_succ] at h1 h2; rw [ih ha.2 _ _ g h1 h2]
   split at hi
   . split at hj
     . have conv : ∀ i, (hs[i - 1000000]?).bind C9 = some g -> (hs.map C9)[i - 1000000]? = some (some g) := by
         intro i h; rw [getElem?_map]; cases hx : hs[i - 1000000]? with
         | none => rw [hx] at h; cases h
         | some x => rw [hx] at h; simpa using h
       have := key _ hap _ _ g (conv i hi) (conv j hj); omega
     . cases hj
   . cases hi
 . split at hi
   . cases hx : hs[i - 1000000]? with
     | none => rw [hx] at hi; cases hi
     | some x =>
       rw [hx] at hi; simp only [Option.bind_some] at hi; have hm := mem_of_getElem? hx; exact ⟨hblt x hm g hi, .inr (mem_map.2 ⟨x, hm, hi⟩)⟩
   . cases hi
theorem RH.lt {x : AV} (h : RH P w L x) {g : Nat} (hg : C9 x = some g) : g < w.heap.size := by
 obtain ⟨h1, h2⟩ := h; cases x <;> simp [isH] at h1
 case hs u e l =>
   obtain ⟨css, sz, f1, f2, f3, f4, f5⟩ : F0 P w L (C9 (.hs u e l)) true e l u := h2; rcases f4.2 with ⟨hv, _⟩ | ⟨g', cap, cur, hv, hh, _⟩
   . subst hv; simp [C9, Value.ownBlock] at hg
   . subst hv; obtain rfl : g' = g := by simpa [C9, Value.ownBlock] using hg
     exact (Array.getElem?_eq_some_iff.1 hh).1
 case hb u e y =>
   obtain ⟨g', C, e1, e2, e3, _⟩ : Y4 w L (C9 (.hb u e y)) e y u := h2; rw [hg] at e1; obtain rfl : g = g' := by simpa using e1
   exact (Array.getElem?_eq_some_iff.1 e3).1
 case hm u kt m E =>
   obtain ⟨g', m', es, clk, e1, e2, e3, _⟩ : a2a P w L (C9 (.hm u kt m E)) kt m E u := h2; rw [hg] at e1; obtain rfl : g = g' := by simpa using e1
   exact (Array.getElem?_eq_some_iff.1 e3).1
theorem S3 {f : FuncId} {fn : Func} {c : Code} {args hs : List AV} {t : Nat} {Post : AV -> List AV -> Prop} (F : Nat -> Bool) (hm : P.follows .mixedOrders = true) (hf : P.funcs[f]? = some fn) (hname : (fn.name == "runtime.NumGoroutine") = false) (hb : fn.body = some c) (hres : fn.results = #[.tmp t])
   (hargs : args.length <= fn.ntmps) (hok : a1D F fn.ntmps c = true) (harg : (args.all b8W) = true)
   (h : vwp P F c (b4Z t Post) (A5 args hs)) : G1 P f args hs Post := by
 refine ⟨enters_of hf hname hb, fun w L vals hlok hgl hrc hh hap => ?_⟩; have hl := hrc.length; refine calls_of_wp hf hb (wp_mono (a1P (n := fn.ntmps) hm c _ _ w hok ⟨L, _, A5 args hs, b3k hlok hgl hrc harg hh hap (fun x hx g hg => (hh x hx).lt hg), rfl, ?_, h⟩) ?_)
 . simp; omega
 . rintro e a' w' ⟨L', O', σ', hR, hdef, hsz, he, r, ks, hnd, hks, hr, hpost⟩; have hks' : ∀ k ∈ ks, RH P w' L' (σ' k) /\ ∀ g, C9 (σ' k) = some g -> O' k = some g := by
     intro k hk; have hs := hR.slots k; have hH := hks k hk; have hrc : RC P w' L' (O' k) (σ' k) (C6 a' k) := by
       cases hx : σ' k <;> rw [hx] at hs hH <;> simp [isH] at hH <;> exact hs
     exact hrc.self hH
   obtain ⟨og, o1, o2, o3⟩ : ∃ og, RC P w' L' og r (C6 a' t) /\ (∀ g, og = some g -> ∃ j, O' j = some g /\ isH (σ' j) = false) /\ True := by
     have hs := hR.slots t; unfold a0A at hr; cases hx : σ' t <;> rw [hx] at hr hs
     case d y => subst hr; exact ⟨none, hs, by simp, trivial⟩
     case nils => subst hr; refine ⟨none, ?_, by simp, trivial⟩; simp only [RC]; rw [show C6 a' t = .slice none 0 0 from hs]; exact a5E
     case own m e l => subst hr; exact ⟨O' t, hs, fun g hg => ⟨t, hg, by rw [hx]; rfl⟩, trivial⟩
     case bor j m e l =>
       subst hr; obtain ⟨h2, h3⟩ := hs; have h4 := hR.slots j; rw [h2] at h4; exact ⟨O' j, by rw [h3]; exact h4, fun g hg => ⟨j, hg, by rw [h2]; rfl⟩, trivial⟩
     case tup l =>
       cases l with
       | nil => subst hr; obtain ⟨vs, h1, h2⟩ := hs; exact ⟨none, by simp only [RC]; exact ⟨vs, h1, by simp only [RCs] at h2 ⊢; exact h2⟩, by simp, trivial⟩
       | cons x l => exact hr.elim
     all_goals exact hr.elim
   have hmap : ∀ g, some g ∈ (ks.map σ').map C9 -> ∃ k ∈ ks, O' k = some g := by
     intro g hg; simp only [map_map, mem_map, Function.comp_apply] at hg; obtain ⟨k, hk, hg⟩ := hg; exact ⟨k, hk, (hks' k hk).2 g hg⟩
   have hapart : ∀ (l : List Nat), l.Nodup -> (∀ k ∈ l, ∀ g, C9 (σ' k) = some g -> O' k = some g) -> J6 ((l.map σ').map C9) := by
     intro l
     induction l with
     | nil => intro _ _; trivial
     | cons k l ih =>
       intro hn ho; rw [nodup_cons] at hn; refine ⟨fun g hg hm => ?_, ih hn.2 (fun k hk => ho k (by simp [hk]))⟩; simp only [map_map, mem_map, Function.comp_apply] at hm; obtain ⟨k', hk', hg'⟩ := hm; have e1 := ho k (by simp) g hg; have e2 := ho k' (by simp [hk']) g hg'; exact hn.1 (by rw [hR.inj k k' g e1 e2]; exact hk')
   have hfin : a'.defers = [] /\ ∃ v, (results fn a'.tmps).run P w' = .ok v w' /\ (∃ v' L' og r hs', Ending.returned v = .returned v' /\ F7 w w' (fun b => some b ∈ hs.map C9) /\ (∀ b q, L' b q -> b < w'.heap.size) /\ (∀ b q, b < w.heap.size -> some b ∉ hs.map C9 -> (L' b q ↔ L b q)) /\
     (∀ g, some g ∈ og :: hs'.map C9 -> g < w'.heap.size /\ (w.heap.size <= g \/ some g ∈ hs.map C9)) /\ J6 (og :: hs'.map C9) /\ RC P w' L' og r v' /\ (∀ x ∈ hs', RH P w' L' x) /\ Post r hs') := by
     refine ⟨hdef, _, results_tmp hres _ _ _, _, L', og, r, ks.map σ', rfl, hR.grown, hR.lok, hR.old, fun g hg => ?_, ⟨fun g hg hm => ?_, hapart ks hnd (fun k hk => (hks' k hk).2)⟩, o1, fun x hx => ?_, hpost⟩
     . rcases mem_cons.1 hg with hg | hg
       . obtain ⟨j, hj, _⟩ := o2 g hg.symm; exact hR.olt j g hj
       . obtain ⟨k, _, hk⟩ := hmap g hg; exact hR.olt k g hk
     . obtain ⟨j, hj, hjH⟩ := o2 g hg; obtain ⟨k, hkm, hk⟩ := hmap g hm; have := hks k hkm; rw [hR.inj k j g hk hj] at this; rw [hjH] at this; cases this
     . obtain ⟨k, hk, rfl⟩ := mem_map.1 hx; exact (hks' k hk).1
   rcases he with rfl | rfl
   . exact hfin
   . exact hfin
end Go.Vw
namespace Go.Vw
def mkd {α : Sort _} (x : α) : α := x
theorem c4I {α : Sort _} (x y : α) (h : x = y) : mkd x = y := by unfold mkd; exact h
@[simp] theorem D1 {α : Sort _} (x : α) : mkd x = x := c4I x x (Eq.symm (Eq.symm rfl))
@[simp] theorem d2R (σ : St) (d : Nat) (x : AV) (i : Nat) : put σ d x i = if i = d then F5 d x else F5 d (σ i) := rfl
@[simp] theorem d0q (l : List AV) (i : Nat) : a5d l i = match l[i]? with
 | some x => x
 | none => .undef := rfl
def b0g (P : Program) (F : Nat -> Bool) (ops : Array Oper) (l : List Oper) (ds : List Nat) (K : St -> Prop) (σ : St) : Prop := R9 P F ops ds l K (S7 ds σ)
def a6C (b : Bool) (P : Program) (F : Nat -> Bool) (ops : Array Oper) (l : List Oper) (ds : List Nat) (K : St -> Prop) (σ : St) : Prop := b1A b P F ops K (b0g P F ops l ds K) σ
def a8h (P : Program) (F : Nat -> Bool) (l : List Oper) (ds : List Nat) (K : St -> Prop) (σ : St) : Prop := a0K P F ds l K (S7 ds σ)
def a7O (b9 b : Bool) (P : Program) (F : Nat -> Bool) (l : List Oper) (ds : List Nat) (K : St -> Prop) (σ : St) : Prop := a9T b9 P F l.toArray K (a6C b P F l.toArray l ds K) σ
section
variable {P : Program} {F : Nat -> Bool} {Q : Exit -> St -> Prop} {K : St -> Prop} {σ : St}
@[simp] theorem c9h : vwp P F .skip Q σ = Q .normal σ := by simp only [vwp]
@[simp] theorem c6R (id : Nat) (ops : List Oper) : vwp P F (.region id ops.toArray false) Q σ = P6 P F ops.toArray ops (Q .normal) σ := by simp only [vwp]
@[simp] theorem c7H (ops : Array Oper) (l : List Oper) (ds : List Nat) : a6C false P F ops l ds K σ = b0g P F ops l ds K σ := by simp [a6C, b1A]
@[simp] theorem c7M (b : Bool) (l : List Oper) (ds : List Nat) : a7O false b P F l ds K σ = a6C b P F l.toArray l ds K σ := by simp [a7O, a9T]
@[simp] theorem c9o (b : Bool) (l : List Oper) (ds : List Nat) : a7O true b P F l ds K σ = a8h P F l (wrs l) K σ := by simp [a7O, a9T, a8h]
@[simp] theorem c9K (l : List Oper) (ds : List Nat) : a8h P F l ds K σ = a0K P F ds l K (S7 ds σ) := rfl
@[simp] theorem d2l : wrs [] = [] := rfl
@[simp] theorem d0C (o : Oper) (rest : List Oper) : wrs (o :: rest) = (wrO o).toList ++ wrs rest := rfl
attribute [simp] wrO a8o
@[simp] theorem c9B (id : Nat) (ops : List Oper) : vwp P F (.region id ops.toArray true) Q σ = a7O (F (9000000 + id)) (F (8000000 + id)) P F ops (T5 F ops) (Q .normal) σ := by simp only [vwp, a7O, a6C]; rfl
@[simp] theorem c8K : T5 F [] = [] := rfl
@[simp] theorem c7K (d : Nat) (op : Op) (ty : TypeId) (pos : String) (after : Array Edge) (g : Option (Nat × Bool)) (rest : List Oper) :
   T5 F ({ dst := some d, op, type := ty, pos, after, guard := g } :: rest) = if a4k F (some d) op then [] else d :: T5 F rest := rfl
@[simp] theorem c7I (op : Op) (ty : TypeId) (pos : String) (after : Array Edge) (g : Option (Nat × Bool)) (rest : List Oper) :
   T5 F ({ dst := none, op, type := ty, pos, after, guard := g } :: rest) = if a4k F none op then [] else T5 F rest := rfl
@[simp] theorem d1p (ops : Array Oper) (l : List Oper) (ds : List Nat) : b0g P F ops l ds K σ = R9 P F ops ds l K (S7 ds σ) := rfl
@[simp] theorem d0Q (x y : Code) : vwp P F (.seq x y) Q σ = vwp P F x (a5n (vwp P F y Q) Q) σ := by simp only [vwp]
@[simp] theorem c8N (c : Operand) (x y : Code) : vwp P F (.cond c x y) Q σ = (match A6 σ c with
   | .d (.bool b) => if b = true then vwp P F x Q σ else vwp P F y Q σ
   | _ => False) := by
 simp only [vwp]; cases A6 σ c with
 | d x => cases x with
   | bool b => cases b <;> simp
   | _ => rfl
 | _ => rfl
@[simp] theorem c7m (id : Nat) (c : Code) : vwp P F (.block id c) Q σ = vwp P F c (a4p id Q) σ := by simp only [vwp]
@[simp] theorem c9z (c : Code) : vwp P F (.loop c) Q σ = a8O (vwp P F c) Q σ := by simp only [vwp]
@[simp] theorem c9J (id : Nat) : vwp P F (.exit id) Q σ = Q (.exit id) σ := by simp only [vwp]
@[simp] theorem d1n : vwp P F .ret Q σ = Q .ret σ := by simp only [vwp]
@[simp] theorem d2E (N : St -> Prop) : a5n N Q .normal σ = N σ := rfl
@[simp] theorem d1X (N : St -> Prop) : a5n N Q .ret σ = Q .ret σ := rfl
@[simp] theorem d2F (N : St -> Prop) (id : Nat) : a5n N Q (.exit id) σ = Q (.exit id) σ := rfl
@[simp] theorem c8a (id : Nat) : a4p id Q .normal σ = Q .normal σ := rfl
@[simp] theorem c8j (id : Nat) : a4p id Q .ret σ = Q .ret σ := rfl
@[simp] theorem c8p (id id' : Nat) : a4p id Q (.exit id') σ = if id' = id then Q .normal σ else Q (.exit id') σ := rfl
@[simp] theorem c9V (ops : Array Oper) : P6 P F ops [] K σ = K σ := rfl
@[simp] theorem c9y (ops : Array Oper) (dst : Option Tmp) (op : Op) (ty : TypeId) (pos : String) (after : Array Edge) (rest : List Oper) :
   P6 P F ops ({ dst, op, type := ty, pos, after, guard := none } :: rest) K σ = vop P F { dst, op, type := ty, pos, after, guard := none } (P6 P F ops rest K) σ := rfl
@[simp] theorem c7E (ops : Array Oper) (dst : Option Tmp) (op : Op) (ty : TypeId) (pos : String) (after : Array Edge) (j : Nat) (want : Bool) (rest : List Oper) :
   P6 P F ops ({ dst, op, type := ty, pos, after, guard := some (j, want) } :: rest) K σ = B4 ((ops[j]?).bind (·.dst)) fun t => (match σ t with
     | .d (.bool b) => if b = want then vop P F { dst, op, type := ty, pos, after, guard := some (j, want) } (P6 P F ops rest K) σ else P6 P F ops rest K (b1N σ dst)
     | .tup [] => P6 P F ops rest K (b1N σ dst)
     | _ => False) := by
 simp only [P6]; congr 1
 funext t
 cases σ t with
 | d x => cases x with
   | bool b => by_cases hb : b = want <;> simp [hb]
   | _ => rfl
 | tup l => cases l <;> rfl
 | _ => rfl
def b3F (ds : List Nat) (d : Nat) (N : St -> Prop) (σ : St) (x : AV) : Prop := S0 ds x = true /\ N (E4 σ d x)
@[simp] theorem d1z (ds : List Nat) (d : Nat) (N : St -> Prop) (x : AV) : b3F ds d N σ x = (S0 ds x = true /\ N (E4 σ d x)) := rfl
@[simp] theorem d1H (ds : List Nat) : a0K P F ds [] K σ = K σ := rfl
@[simp] theorem c8R (ds : List Nat) (d : Nat) (op : Op) (ty : TypeId) (pos : String) (after : Array Edge) (g : Option (Nat × Bool)) (rest : List Oper) :
   a0K P F ds ({ dst := some d, op, type := ty, pos, after, guard := g } :: rest) K σ = (match a8o op with
     | some e => if F (d + 1000000) = true then False else B4 (E3 P e) fun z => a0K P F ds rest K (E4 σ d (.box z))
     | none => I5 P F op d σ (b3F ds d (a0K P F ds rest K) σ)) := rfl
@[simp] theorem c7j (ds : List Nat) (t : TypeId) (s : Nat) (y : Operand) (ty : TypeId) (pos : String) (after : Array Edge) (g : Option (Nat × Bool)) (rest : List Oper) :
   a0K P F ds ({ dst := none, op := .store t (.tmp s) y, type := ty, pos, after, guard := g } :: rest) K σ = (match σ s with
     | .box b => B4 (asD (A6 σ y)) fun u => C0 u = C0 b /\ E5 P t = some (C0 u) /\ a0K P F ds rest K (E4 σ s (.box u))
     | _ => False) := rfl
@[simp] theorem c8D (ops : Array Oper) (ds : List Nat) : R9 P F ops ds [] K σ = K σ := rfl
@[simp] theorem c8r (ops : Array Oper) (ds : List Nat) (d : Nat) (op : Op) (ty : TypeId) (pos : String) (after : Array Edge) (rest : List Oper) :
   R9 P F ops ds ({ dst := some d, op, type := ty, pos, after, guard := none } :: rest) K σ = if a4k F (some d) op then vop P F { dst := some d, op, type := ty, pos, after, guard := none } (P6 P F ops rest K) σ
     else I5 P F op d σ (b3F ds d (R9 P F ops ds rest K) σ) := by
 simp only [R9, P6, L9]; rfl
@[simp] theorem c6N (ops : Array Oper) (ds : List Nat) (op : Op) (ty : TypeId) (pos : String) (after : Array Edge) (rest : List Oper) :
   R9 P F ops ds ({ dst := none, op, type := ty, pos, after, guard := none } :: rest) K σ = if a4k F none op then vop P F { dst := none, op, type := ty, pos, after, guard := none } (P6 P F ops rest K) σ else False := by
 simp only [R9, P6, b8Z]
@[simp] theorem c6Q (ops : Array Oper) (ds : List Nat) (d : Nat) (op : Op) (ty : TypeId) (pos : String) (after : Array Edge) (j : Nat) (want : Bool) (rest : List Oper) :
   R9 P F ops ds ({ dst := some d, op, type := ty, pos, after, guard := some (j, want) } :: rest) K σ = if a4k F (some d) op then P6 P F ops ({ dst := some d, op, type := ty, pos, after, guard := some (j, want) } :: rest) K σ
     else B4 ((ops[j]?).bind (·.dst)) fun t => (match σ t with
     | .d (.bool b) => if b = want then I5 P F op d σ (b3F ds d (R9 P F ops ds rest K) σ) else R9 P F ops ds rest K (E4 σ d (.tup []))
     | .tup [] => R9 P F ops ds rest K (E4 σ d (.tup []))
     | _ => False) := by
 simp only [R9, L9]; split
 . rfl
 . congr 1
   funext t
   cases σ t with
   | d x => cases x with
     | bool b => by_cases hb : b = want <;> simp [hb] <;> rfl
     | _ => rfl
   | tup l => cases l <;> rfl
   | _ => rfl
@[simp] theorem c9X (d : Nat) (op : Op) (ty : TypeId) (pos : String) (after : Array Edge) (g : Option (Nat × Bool)) : vop P F { dst := some d, op, type := ty, pos, after, guard := g } K σ = P9 P F op ty d K σ := rfl
@[simp] theorem c9q (c : Call) (ty : TypeId) (pos : String) (after : Array Edge) (g : Option (Nat × Bool)) : vop P F { dst := none, op := .call c, type := ty, pos, after, guard := g } K σ = a5z P c K σ := rfl
@[simp] theorem c5v (t : TypeId) (x i y : Operand) (ty : TypeId) (pos : String) (after : Array Edge) (g : Option (Nat × Bool)) : vop P F { dst := none, op := .mapUpdate t x i y, type := ty, pos, after, guard := g } K σ = a6u P t x i y K σ := rfl
@[simp] theorem c8w (t : TypeId) (x i y : Operand) (ty : TypeId) (pos : String) (after : Array Edge) (g : Option (Nat × Bool)) : vop P F { dst := none, op := .insert t x i y, type := ty, pos, after, guard := g } K σ = a6u P t x i y K σ := rfl
@[simp] theorem c8S (t : TypeId) (x y : Operand) (ty : TypeId) (pos : String) (after : Array Edge) (g : Option (Nat × Bool)) : vop P F { dst := none, op := .store t x y, type := ty, pos, after, guard := g } K σ = a4K P t x y K σ := rfl
end
section
variable (d : D) (l : List D) (m : Bool) (e : TypeId) (j i t : Nat) (p : List Nat) (xs : List AV) (s : Str) (σ : St)
@[simp] theorem d3s : asD (.d d) = some d := rfl
@[simp] theorem d1j : asD .nils = some (.sl []) := rfl
@[simp] theorem c9U : asD (.full l) = some (.sl l) := rfl
@[simp] theorem d1K : asD (.own false e l) = some (.sl l) := rfl
@[simp] theorem d2t : asD (.bor j false e l) = some (.sl l) := rfl
@[simp] theorem d0K : asD (.own true e l) = none := rfl
@[simp] theorem d1t : asD (.bor j true e l) = none := rfl
@[congr] theorem d2Q {σ' : St} {v v' : AV} {C : List D -> Prop} (hv : v = v') (hs : mkd (σ) = σ') : a2n v σ C = a2n v' σ' C := by subst hv; rw [D1] at hs; subst hs; rfl
@[congr] theorem d1L {σ' : St} {u u' : Value} {C : List D -> Prop} (hu : mkd (u) = u') (hs : mkd (σ) = σ') : b3J u σ C = b3J u' σ' C := by rw [D1] at hu; subst hu; rw [D1] at hs; subst hs; rfl
@[simp] theorem d1B {u : Value} {C : List D -> Prop} : a2n (.d (.raw u)) σ C = b3J u σ C := rfl
@[simp] theorem d0g {C : List D -> Prop} : a2n (.bor j m e l) σ C = C l := by simp [a2n, Z2]
@[simp] theorem d2L {C : List D -> Prop} : a2n (.d (.sl l)) σ C = C l := by simp [a2n, Z2]
@[simp] theorem c9A {C : List D -> Prop} : a2n .nils σ C = C [] := by simp [a2n, Z2]
@[simp] theorem c9k {C : List D -> Prop} : a2n (.full l) σ C = C l := by simp [a2n, Z2]
@[simp] theorem c8O : Z2 (.bor j m e l) = some l := rfl
@[simp] theorem d1Q : Z2 (.d (.sl l)) = some l := rfl
@[simp] theorem c7D : Z2 .nils = some [] := rfl
@[simp] theorem c7U : Z2 (.full l) = some l := rfl
@[simp] theorem c9m : a3G (.bor j m e l) = some l.length := rfl
@[simp] theorem d2m : a3G (.d (.sl l)) = some l.length := rfl
@[simp] theorem c7v : a3G .nils = some 0 := rfl
@[simp] theorem c8b : a3G (.full l) = some l.length := rfl
@[simp] theorem c9D (A : Option Addr) (k c : Nat) : a3G (.d (.raw (.slice A k c))) = some k := rfl
@[simp] theorem d3b : rd t (.own m e l) = .bor t m e l := rfl
@[simp] theorem d3f : rd t (.box d) = .adr t [] := rfl
@[simp] theorem d2H : rd t (.tup xs) = .undef := rfl
@[simp] theorem d2D : rd t (.iter s i) = .undef := rfl
@[simp] theorem d1r : rd t .undef = .undef := rfl
@[simp] theorem d3y : rd t (.d d) = .d d := rfl
@[simp] theorem d1U : rd t .nils = .nils := rfl
@[simp] theorem d2d : rd t (.full l) = .full l := rfl
@[simp] theorem d2X : rd t (.bor j m e l) = .bor j m e l := rfl
@[simp] theorem d2Y : rd t (.adr j p) = .adr j p := rfl
@[simp] theorem d2r : rd t (.eadr j i p) = .eadr j i p := rfl
@[simp] theorem c9T : A6 σ (.tmp t) = rd t (σ t) := rfl
@[simp] theorem c7h (v : Value) : A6 σ (.const v) = a2b v := rfl
@[simp] theorem c8T (f : FuncId) : A6 σ (.func f) = .d (.clo f []) := rfl
@[simp] theorem c9H (b : Bool) : a2b (.bool b) = .d (.bool b) := rfl
@[simp] theorem d0A (k : IntKind) (n : Int) : a2b (.int k n) = .d (.int k n) := rfl
@[simp] theorem d1e (x : ByteArray) : a2b (.string x) = .d (.str x.data.toList) := rfl
@[simp] theorem d1d : a2b (.slice none 0 0) = .nils := rfl
@[simp] theorem c9W : a2b (.pointer none) = .d .nilp := rfl
@[simp] theorem c7x : F5 t .undef = .undef := rfl
@[simp] theorem d3d : F5 t (.d d) = .d d := rfl
@[simp] theorem c9u : F5 t .nils = .nils := rfl
@[simp] theorem c8B : F5 t (.full l) = .full l := rfl
@[simp] theorem c9S : F5 t (.own m e l) = .own m e l := rfl
@[simp] theorem c9e : F5 t (.box d) = .box d := rfl
@[simp] theorem d0c : F5 t (.tup xs) = .tup xs := rfl
@[simp] theorem c8Y : F5 t (.iter s i) = .iter s i := rfl
@[simp] theorem d1u : F5 t (.bor j m e l) = if j = t then (if m then .undef else .d (.sl l)) else .bor j m e l := rfl
@[simp] theorem d1f : F5 t (.adr j p) = if j = t then .undef else .adr j p := rfl
@[simp] theorem c9c : F5 t (.eadr j i p) = if j = t then .undef else .eadr j i p := rfl
@[simp] theorem d1M : a0P σ (.d (.ref d)) = some d := rfl
@[simp] theorem c8J : a0P σ (.adr j p) = match S5 (σ j) with
   | some b => D.get p b
   | none => none := rfl
@[simp] theorem c7l : a0P σ (.eadr j i p) = match N8 (σ j) with
   | some (_, l) => match l[i]? with
     | some y => D.get p y
     | none => none
   | none => none := rfl
@[simp] theorem d1C (A : Addr) : a2T σ (.d (.raw (.pointer (some A)))) = some () := rfl
@[simp] theorem d0r : a2T σ (.d (.ref d)) = some () := rfl
@[simp] theorem d1o : a2T σ (.adr j p) = (a0P σ (.adr j p)).map fun _ => () := rfl
@[simp] theorem c9C : a2T σ (.eadr j i p) = (a0P σ (.eadr j i p)).map fun _ => () := rfl
@[simp] theorem c9f : S5 (.box d) = some d := rfl
@[simp] theorem d0y (u : Value) (e : TypeId) : S5 (.hb u e d) = some d := rfl
@[simp] theorem c9x : N8 (.own true e l) = some (e, l) := rfl
@[simp] theorem d0t (u : Value) : N8 (.hs u e l) = some (e, l) := rfl
@[simp] theorem c7J (y : D) : a4l y (.box d) = .box y := rfl
@[simp] theorem c9d (y : D) (u : Value) (e : TypeId) : a4l y (.hb u e d) = .hb u e y := rfl
@[simp] theorem c8c (e' : TypeId) (l' : List D) : a1Q e' l' (.own m e l) = .own true e' l' := rfl
@[simp] theorem c9b (e' : TypeId) (l' : List D) (u : Value) : a1Q e' l' (.hs u e l) = .hs u e' l' := rfl
@[simp] theorem d3n (u : Value) (kt : TypeId) (mm : List (D × D)) (E : Option (List (D × Nat) × Nat)) : rd t (.hm u kt mm E) = .undef := rfl
@[simp] theorem d3k (u : Value) (E : List (D × Nat) × Nat) (ks : List D) : rd t (.mit u E ks) = .undef := rfl
@[simp] theorem d2k (u : Value) (kt : TypeId) (mm : List (D × D)) (E : Option (List (D × Nat) × Nat)) : F5 t (.hm u kt mm E) = .hm u kt mm E := rfl
@[simp] theorem d1E (u : Value) (E : List (D × Nat) × Nat) (ks : List D) : F5 t (.mit u E ks) = .mit u E ks := rfl
@[simp] theorem d1q : a2b (.map none) = .d (.raw (.map none)) := rfl
@[simp] theorem d2U : rd t (.sub j i) = .sub j i := rfl
@[simp] theorem d3v (u : Value) : rd t (.hs u e l) = .undef := rfl
@[simp] theorem d3r (u : Value) (e : TypeId) : rd t (.hb u e d) = .undef := rfl
@[simp] theorem d1a : F5 t (.sub j i) = if j = t then .undef else .sub j i := rfl
@[simp] theorem d2C (u : Value) : F5 t (.hs u e l) = .hs u e l := rfl
@[simp] theorem d2y (u : Value) (e : TypeId) : F5 t (.hb u e d) = .hb u e d := rfl
@[simp] theorem d2o (y : D) : Z3 (.d d) (.d y) = (d = y) := by simp [Z3]
@[simp] theorem c9O (y : D) : Z3 .nils (.d y) = (.sl [] = y) := by simp [Z3]
@[simp] theorem d0Y (y : D) : Z3 (.own m e l) (.d y) = (y = .sl l) := by cases m <;> simp [Z3, eq_comm]
@[simp] theorem d0G (y : D) : Z3 (.bor j m e l) (.d y) = (y = .sl l) := by cases m <;> simp [Z3, eq_comm]
@[simp] theorem c9n (m' : Bool) (e' : TypeId) (l' : List D) : Z3 (.own m e l) (.own m' e' l') = (m = m' /\ e = e' /\ l = l') := rfl
@[simp] theorem c9P (m' : Bool) (e' : TypeId) (l' : List D) : Z3 (.bor j m e l) (.own m' e' l') = (m = m' /\ e = e' /\ l = l') := rfl
@[simp] theorem d1x (r : AV) : b1s t r .ret σ = Z3 (σ t) r := by simp [b1s]
@[simp] theorem c7f (r : AV) : b1s t r .normal σ = Z3 (σ t) r := by simp [b1s]
@[simp] theorem d1k (Post : AV -> List AV -> Prop) : b4Z t Post .ret σ = ∃ (r : AV) (ks : List Nat), ks.Nodup /\ (∀ k ∈ ks, isH (σ k) = true) /\ a0A σ t r /\ Post r (ks.map σ) := by simp [b4Z]
@[simp] theorem c6O (Post : AV -> List AV -> Prop) : b4Z t Post .normal σ = ∃ (r : AV) (ks : List Nat), ks.Nodup /\ (∀ k ∈ ks, isH (σ k) = true) /\ a0A σ t r /\ Post r (ks.map σ) := by simp [b4Z]
@[simp] theorem c8P (u : Nat) (r : AV) (y : D) : b3E t u r y .ret σ = (Z3 (σ t) r /\ asD (σ u) = some y) := by simp [b3E]
@[simp] theorem c5S (u : Nat) (r : AV) (y : D) : b3E t u r y .normal σ = (Z3 (σ t) r /\ asD (σ u) = some y) := by simp [b3E]
end
@[simp] theorem d2A (σ : St) (d : Nat) (x : AV) (i : Nat) : E4 σ d x i = if i = d then x else σ i := rfl
@[simp] theorem c9Z (ds : List Nat) (σ : St) (i : Nat) : S7 ds σ i = G0 ds (σ i) := rfl
section
variable (ds : List Nat) (d : D) (l : List D) (m : Bool) (e : TypeId) (j i t : Nat) (p : List Nat) (xs : List AV) (s : Str)
@[simp] theorem c6Z : G0 ds .undef = .undef := rfl
@[simp] theorem d1S : G0 ds (.d d) = .d d := rfl
@[simp] theorem c7i : G0 ds .nils = .nils := rfl
@[simp] theorem c8q : G0 ds (.full l) = .full l := rfl
@[simp] theorem c9M : G0 ds (.own m e l) = .own m e l := rfl
@[simp] theorem c9t : G0 ds (.box d) = .box d := rfl
@[simp] theorem c9g : G0 ds (.tup xs) = .tup xs := rfl
@[simp] theorem c7Q : G0 ds (.iter s i) = .iter s i := rfl
@[simp] theorem c8L : G0 ds (.bor j m e l) = if ds.contains j then (if m then .undef else .d (.sl l)) else .bor j m e l := rfl
@[simp] theorem c9i : G0 ds (.adr j p) = if ds.contains j then .undef else .adr j p := rfl
@[simp] theorem c9R : G0 ds (.sub j i) = if ds.contains j then .undef else .sub j i := rfl
@[simp] theorem d0T (u : Value) (kt : TypeId) (mm : List (D × D)) (E : Option (List (D × Nat) × Nat)) : G0 ds (.hm u kt mm E) = .hm u kt mm E := rfl
@[simp] theorem c8y (u : Value) (E : List (D × Nat) × Nat) (ks : List D) : G0 ds (.mit u E ks) = .mit u E ks := rfl
@[simp] theorem d1y (u : Value) : G0 ds (.hs u e l) = .hs u e l := rfl
@[simp] theorem d1c (u : Value) (e : TypeId) : G0 ds (.hb u e d) = .hb u e d := rfl
@[simp] theorem d0w : S0 ds (.sub j i) = !ds.contains j := rfl
@[simp] theorem c8t : G0 ds (.eadr j i p) = if ds.contains j then .undef else .eadr j i p := rfl
@[simp] theorem c8d : S0 ds .undef = true := rfl
@[simp] theorem d3h : S0 ds (.d d) = true := rfl
@[simp] theorem c9a : S0 ds .nils = true := rfl
@[simp] theorem c8Q : S0 ds (.full l) = true := rfl
@[simp] theorem d1l : S0 ds (.own m e l) = true := rfl
@[simp] theorem d0Z : S0 ds (.tup xs) = true := rfl
@[simp] theorem d0R : S0 ds (.bor j m e l) = !ds.contains j := rfl
@[simp] theorem d0p : S0 ds (.adr j p) = !ds.contains j := rfl
@[simp] theorem c8G : S0 ds (.eadr j i p) = !ds.contains j := rfl
@[simp] theorem c8g : a3m [] = [] := rfl
@[simp] theorem c7g (dst : Option Tmp) (op : Op) (ty : TypeId) (pos : String) (after : Array Edge) (g : Option (Nat × Bool)) (rest : List Oper) : a3m ({ dst, op, type := ty, pos, after, guard := g } :: rest) = dst.toList ++ a3m rest := by
 cases dst <;> simp [a3m]
end
theorem B6 {P : Program} {g : FuncId} {args : List AV} {b : Bool} {C : AV -> Prop} {r : AV} (h : Ctr P g args r) (hk : C (a1K b r)) : b3D P g args b C := ⟨r, h, hk⟩
attribute [simp] b1C
attribute [simp] a4k a0L a3H X1 X3 a2H a0G a0Q
attribute [simp] ety
attribute [simp] b3N a1u W5 c5T c4f D8 a3M
attribute [simp] a5A a4h a6u b5e
attribute [simp] a5z a3P a6R a1x a1z a5I a2Q a2V a8F a4K D.get D.upd bnd Q8 a3L a0q a2G b8x T4 eat a1K C0 D6
 D.isAgg InR a3N c5H b1N left a5j
@[simp] theorem c9s {P : Program} {F : Nat -> Bool} {c x y : Operand} {ty : TypeId} {d : Nat} {K : St -> Prop} {σ : St} : P9 P F (.pick c x y) ty d K σ = (match A6 σ c with
   | .d (.bool b) => if b = true then K (put σ d (A6 σ x)) else K (put σ d (A6 σ y))
   | _ => False) := by
 simp only [P9]; cases A6 σ c with
 | d x => cases x with
   | bool b => cases b <;> simp
   | _ => rfl
 | _ => rfl
@[simp] theorem c7r {P : Program} {F : Nat -> Bool} {c x y : Operand} {d : Nat} {C : AV -> Prop} {σ : St} : I5 P F (.pick c x y) d σ C = (match A6 σ c with
   | .d (.bool b) => if b = true then C (A6 σ x) else C (A6 σ y)
   | _ => False) := by
 simp only [I5]; cases A6 σ c with
 | d x => cases x with
   | bool b => cases b <;> simp
   | _ => rfl
 | _ => rfl
section
variable {P : Program} {F : Nat -> Bool} {ty : TypeId} {d : Nat} {K : St -> Prop} {C : AV -> Prop} {σ : St}
@[simp] theorem c8A (x : Operand) : P9 P F (.move x) ty d K σ = (a3P P F x ty false d K σ) := rfl
@[simp] theorem c8n (x : Operand) : I5 P F (.move x) d σ C = (a0L false x σ C) := rfl
@[simp] theorem c7c (x : Operand) : P9 P F (.assign x) ty d K σ = (a3P P F x ty true d K σ) := rfl
@[simp] theorem c6F (x : Operand) : I5 P F (.assign x) d σ C = (a0L true x σ C) := rfl
@[simp] theorem c7q (t : Nat) : a1t P σ (.tmp t) = a0P σ (A6 σ (.tmp t)) := rfl
@[simp] theorem c6m (v : Value) : a1t P σ (.const v) = a0P σ (A6 σ (.const v)) := rfl
@[simp] theorem c5w (g : Nat) : a1t P σ (.global g) = b1q P g := rfl
@[simp] theorem c8Z (t : TypeId) (x : Operand) : P9 P F (.load t x) ty d K σ = (B4 (a1t P σ x) fun y => tyk P t = some (y.isAgg, C0 y) /\ K (put σ d (.d y))) := rfl
@[simp] theorem c7L (t : TypeId) (x : Operand) : I5 P F (.load t x) d σ C = (B4 (a1t P σ x) fun y => tyk P t = some (y.isAgg, C0 y) /\ C (.d y)) := rfl
@[simp] theorem c5y (x : Operand) : P9 P F (.nilCheck x) ty d K σ = (B4 (a2T σ (A6 σ x)) fun _ => K (put σ d (A6 σ x))) := rfl
@[simp] theorem c8l (e : TypeId) : P9 P F (.alloc e) ty d K σ = (if F (d + 1000000) then B4 (a3v P true e) fun z => b5o P e z σ d K else B4 (E3 P e) fun z => K (put σ d (.box z))) := rfl
@[simp] theorem c5i (t : TypeId) (x y : Operand) : P9 P F (.makeSlice t x y) ty d K σ = (B4 (I1 P t) fun e => B4 (E3 P e) fun z => B4 (esz P e) fun s => C0 z = s.1 /\ (match A6 σ x, A6 σ y with
   | .d (.int .i64 p), .d (.int .i64 q) => p = q /\ 0 <= p /\ p * s.2 <= 140737488355328 /\ p <= 140737488355328 /\ K (put σ d (.own (F d) e (replicate p.toNat z)))
   | _, _ => False)) := rfl
@[simp] theorem d1F (t : TypeId) (x : Operand) : P9 P F (.box t x) ty d K σ = (if F (d + 1000000) then B4 (asD (A6 σ x)) fun y => b8K t y σ d K else B4 (asD (A6 σ x)) fun y => K (put σ d (.box y))) := rfl
@[simp] theorem c7W (t : TypeId) (ps : Array (Nat × Operand)) : P9 P F (.build t ps) ty d K σ = (B4 (if F (d + 1000000) then a0n P true t else Q7 P t) fun zs => B4 (Q8 σ ps.toList) fun ys => a0q zs ys /\ K (put σ d (.d (.agg (a3L zs ys))))) := rfl
@[simp] theorem c6X (t : TypeId) (ps : Array (Nat × Operand)) : I5 P F (.build t ps) d σ C = (B4 (if F (d + 1000000) then a0n P true t else Q7 P t) fun zs => B4 (Q8 σ ps.toList) fun ys => a0q zs ys /\ C (.d (.agg (a3L zs ys)))) := rfl
@[simp] theorem c3P (t : TypeId) (len : Nat) (ps : Array (Nat × Operand)) : P9 P F (.buildSlice t len ps) ty d K σ = (B4 (I1 P t) fun e => B4 (esz P e) fun z => B4 (Q8 σ ps.toList) fun ys => ys.map (·.1) = List.range len /\ (∀ y ∈ ys.map (·.2), C0 y = z.1) /\ len * z.1 <= 16777216 /\ K (put σ d (.own (F d) e (ys.map (·.2))))) := rfl
@[simp] theorem c1O (t : TypeId) (len : Nat) (ps : Array (Nat × Operand)) : I5 P F (.buildSlice t len ps) d σ C = (B4 (I1 P t) fun e => B4 (esz P e) fun z => B4 (Q8 σ ps.toList) fun ys => ys.map (·.1) = List.range len /\ (∀ y ∈ ys.map (·.2), C0 y = z.1) /\ len * z.1 <= 16777216 /\ C (.own (F d) e (ys.map (·.2)))) := rfl
@[simp] theorem c4p (s : TypeId) (x : Operand) (f : Nat) : P9 P F (.fieldAddr s x f) ty d K σ = (a1z P s x f d K σ) := rfl
@[simp] theorem c3Z (s : TypeId) (x : Operand) (f : Nat) : I5 P F (.fieldAddr s x f) d σ C = (X3 P s x f σ C) := rfl
@[simp] theorem c4l (t : TypeId) (x i : Operand) : P9 P F (.indexAddr t x i) ty d K σ = (a1x P t x i d K σ) := rfl
@[simp] theorem c5q (x : Operand) : I5 P F (.nilCheck x) d σ C = (B4 (a2T σ (A6 σ x)) fun _ => C (A6 σ x)) := rfl
@[simp] theorem c3W (t : TypeId) (x i : Operand) : I5 P F (.indexAddr t x i) d σ C = (X1 P t x i σ C) := rfl
@[simp] theorem c7T (t : TypeId) (x i : Operand) : P9 P F (.index t x i) ty d K σ = ((match P.underlying t, A6 σ x, A6 σ i with | some .string, .d (.str s), .d (.int _ m) => 0 <= m /\ B4 (s[m.toNat]?) fun c => K (put σ d (.d (.int .u8 c.toNat))) | _, _, _ => False)) := rfl
@[simp] theorem c6U (t : TypeId) (x i : Operand) : I5 P F (.index t x i) d σ C = ((match P.underlying t, A6 σ x, A6 σ i with | some .string, .d (.str s), .d (.int _ m) => 0 <= m /\ B4 (s[m.toNat]?) fun c => C (.d (.int .u8 c.toNat)) | _, _, _ => False)) := rfl
@[simp] theorem c7s (t : TypeId) (x : Operand) (lo hi : Option Operand) : P9 P F (.slice t x lo hi none) ty d K σ = (a5I P t x lo hi d K σ) := rfl
@[simp] theorem c6T (t : TypeId) (x : Operand) (lo hi : Option Operand) : I5 P F (.slice t x lo hi none) d σ C = (a2H P t x lo hi σ C) := rfl
@[simp] theorem c7N (op : BinOp) (t : TypeId) (x y : Operand) (u : TypeId) : P9 P F (.binOp op t x y u) ty d K σ = (if a9r op y = true then a9Z P op t (A6 σ x) d K σ else B4 (asD (A6 σ x)) fun dx => B4 (asD (A6 σ y)) fun dy => X0 P t op dx dy fun r => K (put σ d (.d r))) := rfl
attribute [simp] a9r c1M b8M b4h b4g a9Z
@[simp] theorem c6Y (op : BinOp) (t : TypeId) (x y : Operand) (u : TypeId) : I5 P F (.binOp op t x y u) d σ C = (B4 (asD (A6 σ x)) fun dx => B4 (asD (A6 σ y)) fun dy => X0 P t op dx dy fun r => C (.d r)) := rfl
@[simp] theorem d1D (t : TypeId) (x : Operand) : P9 P F (.unOp .not t x) ty d K σ = ((match A6 σ x with | .d (.bool b) => K (put σ d (.d (.bool !b))) | _ => False)) := rfl
@[simp] theorem c9w (t : TypeId) (x : Operand) : I5 P F (.unOp .not t x) d σ C = ((match A6 σ x with | .d (.bool b) => C (.d (.bool !b)) | _ => False)) := rfl
@[simp] theorem c5z (s t : TypeId) (x : Operand) : P9 P F (.convert s t x) ty d K σ = (a2Q P F s t x d K σ) := rfl
@[simp] theorem c5t (s t : TypeId) (x : Operand) : I5 P F (.convert s t x) d σ C = (a0G P s t x σ C) := rfl
@[simp] theorem c7z (t : TypeId) (x : Operand) : P9 P F (.range t x) ty d K σ = (match A6 σ x with
   | .d (.str st) => P.underlying t = some .string /\ K (put σ d (.iter st 0))
   | .d (.map u ks _ bs clk) => b4v P t (K (put σ d (.mit u (ks.zip bs, clk) [])))
   | _ => False) := rfl
@[simp] theorem c7P (x : Operand) : P9 P F (.next x false) ty d K σ = a5A x d K σ := rfl
@[simp] theorem c8s (x : Operand) : P9 P F (.entry x) ty d K σ = a4h x d K σ := rfl
@[simp] theorem c6v (t : TypeId) : P9 P F (.makeMap t none) ty d K σ = b0o σ d K := rfl
def c2q (σ : St) (d : Nat) (K : St -> Prop) (y : AV) : Prop := K (put σ d y)
@[simp] theorem d2q (y : AV) : c2q σ d K y = K (put σ d y) := rfl
@[simp] theorem c6K (t : TypeId) (x i : Operand) (c : Bool) : P9 P F (.lookup t x i c) ty d K σ = (match A6 σ x with
   | .d (.raw u) => B4 (asD (A6 σ i)) fun k => a5U P t u k c σ (c2q σ d K)
   | .d (.map _ ks vs _ _) => B4 (asD (A6 σ i)) fun k => a6m P t ks vs k c (c2q σ d K)
   | _ => False) := rfl
@[simp] theorem c5V (t : TypeId) (x i : Operand) (c : Bool) : I5 P F (.lookup t x i c) d σ C = (match A6 σ x with
   | .d (.raw u) => B4 (asD (A6 σ i)) fun k => a5U P t u k c σ C
   | .d (.map _ ks vs _ _) => B4 (asD (A6 σ i)) fun k => a6m P t ks vs k c C
   | _ => False) := rfl
@[simp] theorem d0E (s f : Nat) (ds : List D) (C : AV -> Prop) : c2B P s f (.d (.agg ds)) C = (B4 (ds[f]?) fun y => B4 (b6J P s f) fun q => tyk P q.1 = some (y.isAgg, C0 y) /\ q.2 = D6 (ds.take f) /\ C (.d y)) := rfl
@[simp] theorem c8U (x : Operand) : P9 P F (.next x true) ty d K σ = a8F x d K σ := rfl
@[simp] theorem c6H (x : Operand) (i : Nat) : P9 P F (.extract x i) ty d K σ = (a2V F x i d K σ) := rfl
@[simp] theorem c5s (x : Operand) (i : Nat) : I5 P F (.extract x i) d σ C = (a0Q x i σ C) := rfl
@[simp] theorem c5u (g : FuncId) (first : Array Operand) (caps : Array Operand) : P9 P F (.makeFunc (.func g) first caps) ty d K σ = (match first.toList with
   | [] => a3N (fun σ' ds => K (put σ' d (.d (.clo g ds)))) caps.toList σ []
   | _ => False) := rfl
@[simp] theorem c9I (c : Call) : P9 P F (.call c) ty d K σ = (a6R P F c d K σ) := rfl
@[simp] theorem c7Z (c : Call) : I5 P F (.call c) d σ C = (a3H P F c d σ C) := rfl
end
section
variable {P : Program} {F : Nat -> Bool} {ty : TypeId} {d : Nat} {K : St -> Prop} {C : AV -> Prop} {σ σ' : St} {Q : Exit -> St -> Prop}
@[congr] theorem d2h {α : Type} {x x' : Option α} {f : α -> Prop} (h : mkd (x) = x') : B4 x f = B4 x' f := by rw [D1] at h; subst h; rfl
@[congr] theorem d3p {c : Code} (h : mkd (σ) = σ') : vwp P F c Q σ = vwp P F c Q σ' := by rw [D1] at h; subst h; rfl
@[congr] theorem d3l {b b' : Bool} {ops : Array Oper} {l : List Oper} {ds : List Nat} (hb : mkd b = b') : a6C b P F ops l ds K σ = a6C b' P F ops l ds K σ := by rw [D1] at hb; subst hb; rfl
@[congr] theorem d2G {b9 b9' b : Bool} {l : List Oper} {ds : List Nat} (hb : mkd b9 = b9') : a7O b9 b P F l ds K σ = a7O b9' b P F l ds K σ := by rw [D1] at hb; subst hb; rfl
@[congr] theorem d0k {l : List Oper} {ds ds' : List Nat} (hd : mkd ds = ds') (h : mkd σ = σ') : a8h P F l ds K σ = a8h P F l ds' K σ' := by rw [D1] at hd h; subst hd h; rfl
@[congr] theorem d2N {ds : List Nat} {l : List Oper} (h : mkd (σ) = σ') : a0K P F ds l K σ = a0K P F ds l K σ' := by rw [D1] at h; subst h; rfl
@[congr] theorem d2n {ops : Array Oper} {l : List Oper} {ds ds' : List Nat} (hd : mkd ds = ds') (h : mkd σ = σ') : b0g P F ops l ds K σ = b0g P F ops l ds' K σ' := by rw [D1] at hd h; subst hd h; rfl
@[congr] theorem d2T {ops : Array Oper} {l : List Oper} (h : mkd (σ) = σ') : P6 P F ops l K σ = P6 P F ops l K σ' := by rw [D1] at h; subst h; rfl
@[congr] theorem d1O {ops : Array Oper} {ds : List Nat} {l : List Oper} (h : mkd (σ) = σ') : R9 P F ops ds l K σ = R9 P F ops ds l K σ' := by rw [D1] at h; subst h; rfl
@[congr] theorem d3w {o : Oper} (h : mkd (σ) = σ') : vop P F o K σ = vop P F o K σ' := by rw [D1] at h; subst h; rfl
@[congr] theorem d2O {o : Op} (h : mkd (σ) = σ') : P9 P F o ty d K σ = P9 P F o ty d K σ' := by rw [D1] at h; subst h; rfl
@[congr] theorem d2u {o : Op} (h : mkd (σ) = σ') : I5 P F o d σ C = I5 P F o d σ' C := by rw [D1] at h; subst h; rfl
@[congr] theorem d2x {x : Operand} {b : Bool} (h : mkd (σ) = σ') : a3P P F x ty b d K σ = a3P P F x ty b d K σ' := by rw [D1] at h; subst h; rfl
@[congr] theorem d1W {x : Operand} {b : Bool} (h : mkd (σ) = σ') : a0L b x σ C = a0L b x σ' C := by rw [D1] at h; subst h; rfl
@[congr] theorem d1N {c : Call} (h : mkd (σ) = σ') : a6R P F c d K σ = a6R P F c d K σ' := by rw [D1] at h; subst h; rfl
@[congr] theorem d2s {c : Call} (h : mkd (σ) = σ') : a3H P F c d σ C = a3H P F c d σ' C := by rw [D1] at h; subst h; rfl
@[congr] theorem c5L {t : TypeId} {x i : Operand} (h : mkd (σ) = σ') : a1x P t x i d K σ = a1x P t x i d K σ' := by rw [D1] at h; subst h; rfl
@[congr] theorem c5D {t : TypeId} {x i : Operand} (h : mkd (σ) = σ') : X1 P t x i σ C = X1 P t x i σ' C := by rw [D1] at h; subst h; rfl
@[congr] theorem c6w {t : TypeId} {x : Operand} {i : Nat} (h : mkd (σ) = σ') : a1z P t x i d K σ = a1z P t x i d K σ' := by rw [D1] at h; subst h; rfl
@[congr] theorem c6t {t : TypeId} {x : Operand} {i : Nat} (h : mkd (σ) = σ') : X3 P t x i σ C = X3 P t x i σ' C := by rw [D1] at h; subst h; rfl
@[congr] theorem c9Y {t : TypeId} {x : Operand} {lo hi : Option Operand} (h : mkd (σ) = σ') : a5I P t x lo hi d K σ = a5I P t x lo hi d K σ' := by rw [D1] at h; subst h; rfl
@[congr] theorem d1G {t : TypeId} {x : Operand} {lo hi : Option Operand} (h : mkd (σ) = σ') : a2H P t x lo hi σ C = a2H P t x lo hi σ' C := by rw [D1] at h; subst h; rfl
@[congr] theorem c8o {s t : TypeId} {x : Operand} (h : mkd (σ) = σ') : a2Q P F s t x d K σ = a2Q P F s t x d K σ' := by rw [D1] at h; subst h; rfl
@[congr] theorem c7n {s t : TypeId} {x : Operand} (h : mkd (σ) = σ') : a0G P s t x σ C = a0G P s t x σ' C := by rw [D1] at h; subst h; rfl
@[congr] theorem d2j {op : BinOp} {t : TypeId} {x x' : AV} (hx : mkd (x) = x') (h : mkd (σ) = σ') : a9Z P op t x d K σ = a9Z P op t x' d K σ' := by rw [D1] at hx; subst hx; rw [D1] at h; subst h; rfl
@[congr] theorem d0U {x : Operand} (h : mkd (σ) = σ') : a5A x d K σ = a5A x d K σ' := by rw [D1] at h; subst h; rfl
@[congr] theorem c9F {x : Operand} (h : mkd (σ) = σ') : a4h x d K σ = a4h x d K σ' := by rw [D1] at h; subst h; rfl
@[congr] theorem d3e {t : TypeId} {x i y : Operand} (h : mkd (σ) = σ') : a6u P t x i y K σ = a6u P t x i y K σ' := by rw [D1] at h; subst h; rfl
@[congr] theorem d2e {t : TypeId} {u u' : Value} {k k' : D} {c : Bool} (hu : mkd u = u') (hk : mkd k = k') (h : mkd (σ) = σ') : a5U P t u k c σ C = a5U P t u' k' c σ' C := by rw [D1] at hu hk h; subst hu hk h; rfl
@[congr] theorem d2g {t : TypeId} {ks ks' vs vs' : List D} {k k' : D} {c : Bool} (h1 : mkd ks = ks') (h2 : mkd vs = vs') (hk : mkd k = k') : a6m P t ks vs k c C = a6m P t ks' vs' k' c C := by rw [D1] at h1 h2 hk; subst h1 h2 hk; rfl
@[congr] theorem d3j {t : TypeId} {u u' : Value} (hu : mkd u = u') (h : mkd (σ) = σ') : b5I P t u σ C = b5I P t u' σ' C := by rw [D1] at hu h; subst hu h; rfl
@[congr] theorem d2c (h : mkd (σ) = σ') : b0o σ d K = b0o σ' d K := by rw [D1] at h; subst h; rfl
@[congr] theorem d3m {t : TypeId} {u u' : Value} {k k' z z' : D} (hu : mkd u = u') (hk : mkd k = k') (hz : mkd z = z') (h : mkd (σ) = σ') : b9d P t u k z σ K = b9d P t u' k' z' σ' K := by rw [D1] at hu hk hz h; subst hu hk hz h; rfl
@[congr] theorem d2V {t : Nat} {u u' : Value} {E E' : List (D × Nat) × Nat} {s s' : List D} (hu : mkd u = u') (hE : mkd E = E') (hs : mkd s = s') (h : mkd (σ) = σ') : b8G t u E s σ d K = b8G t u' E' s' σ' d K := by rw [D1] at hu hE hs h; subst hu hE hs h; rfl
@[congr] theorem d2K {u u' : Value} {E E' : List (D × Nat) × Nat} {s s' : List D} (hu : mkd u = u') (hE : mkd E = E') (hs : mkd s = s') (h : mkd (σ) = σ') : b9g u E s σ d K = b9g u' E' s' σ' d K := by rw [D1] at hu hE hs h; subst hu hE hs h; rfl
@[congr] theorem d2S {s f : Nat} {x x' : AV} {C : AV -> Prop} (h : mkd x = x') : c2B P s f x C = c2B P s f x' C := by rw [D1] at h; subst h; rfl
@[congr] theorem d2M {g : FuncId} {xs xs' : List AV} {o : Option Nat} (h : mkd (xs) = xs') (hs : mkd (σ) = σ') : c2s P g xs σ o K = c2s P g xs' σ' o K := by rw [D1] at h; subst h; rw [D1] at hs; subst hs; rfl
@[congr] theorem d2b {x : Operand} (h : mkd (σ) = σ') : a8F x d K σ = a8F x d K σ' := by rw [D1] at h; subst h; rfl
@[congr] theorem c7Y {x : Operand} {i : Nat} (h : mkd (σ) = σ') : a2V F x i d K σ = a2V F x i d K σ' := by rw [D1] at h; subst h; rfl
@[congr] theorem c7O {x : Operand} {i : Nat} (h : mkd (σ) = σ') : a0Q x i σ C = a0Q x i σ' C := by rw [D1] at h; subst h; rfl
@[congr] theorem d1m {t : TypeId} {x y : Operand} (h : mkd (σ) = σ') : a4K P t x y K σ = a4K P t x y K σ' := by rw [D1] at h; subst h; rfl
@[congr] theorem d3g {t : TypeId} {op : BinOp} {x x' y y' : D} {C : D -> Prop} (hx : mkd (x) = x') (hy : mkd (y) = y') : X0 P t op x y C = X0 P t op x' y' C := by rw [D1] at hx; subst hx; rw [D1] at hy; subst hy; rfl
@[congr] theorem d3c {u u' : Option TypeDesc} {op : BinOp} {x x' y y' : D} {C : D -> Prop} (hu : mkd (u) = u') (hx : mkd (x) = x') (hy : mkd (y) = y') : G9 u op x y C = G9 u' op x' y' C := by rw [D1] at hu; subst hu; rw [D1] at hx; subst hx; rw [D1] at hy; subst hy; rfl
@[congr] theorem d1Z {g : FuncId} {xs xs' : List AV} (h : mkd (xs) = xs') (hs : mkd (σ) = σ') : b3M P g xs σ d K = b3M P g xs' σ' d K := by rw [D1] at h; subst h; rw [D1] at hs; subst hs; rfl
@[congr] theorem d2f {g : FuncId} {xs xs' : List AV} (h : mkd (xs) = xs') : b8P P g xs C = b8P P g xs' C := by rw [D1] at h; subst h; rfl
@[congr] theorem d3x {g : FuncId} {x x' : AV} {xs xs' : List AV} (hx : mkd (x) = x') (h : mkd (xs) = xs') (hs : mkd (σ) = σ') : InK P g x xs σ d K = InK P g x' xs' σ' d K := by rw [D1] at hx; subst hx; rw [D1] at h; subst h; rw [D1] at hs; subst hs; rfl
@[congr] theorem d2w {g : FuncId} {x x' : AV} {xs xs' : List AV} (hx : mkd (x) = x') (h : mkd (xs) = xs') (hs : mkd (σ) = σ') : b0s P g x xs σ d K = b0s P g x' xs' σ' d K := by rw [D1] at hx; subst hx; rw [D1] at h; subst h; rw [D1] at hs; subst hs; rfl
@[congr] theorem d2Z {g : FuncId} {xs xs' : List AV} (h : mkd (xs) = xs') (hs : mkd (σ) = σ') : a0S P g xs σ d K = a0S P g xs' σ' d K := by rw [D1] at h; subst h; rw [D1] at hs; subst hs; rfl
@[congr] theorem d2P {e : TypeId} {z : Nat × Nat} {l l' : List D} {u u' : Value} (h : mkd (l) = l') (hu : mkd (u) = u') (hs : mkd (σ) = σ') : b5y e z l u σ d K = b5y e z l' u' σ' d K := by rw [D1] at h; subst h; rw [D1] at hu; subst hu; rw [D1] at hs; subst hs; rfl
@[congr] theorem d1Y {e : TypeId} {st st' : Str} {u u' : Value} (h : mkd (st) = st') (hu : mkd (u) = u') (hs : mkd (σ) = σ') : b3H e st u σ d K = b3H e st' u' σ' d K := by rw [D1] at h; subst h; rw [D1] at hu; subst hu; rw [D1] at hs; subst hs; rfl
@[congr] theorem d2I {e : TypeId} {z z' : D} (h : mkd (z) = z') (hs : mkd (σ) = σ') : b8K e z σ d K = b8K e z' σ' d K := by rw [D1] at h; subst h; rw [D1] at hs; subst hs; rfl
@[congr] theorem d3a {e : TypeId} {z z' : D} (h : mkd (z) = z') (hs : mkd (σ) = σ') : b5o P e z σ d K = b5o P e z' σ' d K := by rw [D1] at h; subst h; rw [D1] at hs; subst hs; rfl
@[congr] theorem d1J {e : TypeId} {m m' : Nat} {u u' : Value} (h : mkd (m) = m') (hu : mkd (u) = u') (hs : mkd (σ) = σ') : b3y e m u σ C = b3y e m' u' σ' C := by rw [D1] at h; subst h; rw [D1] at hu; subst hu; rw [D1] at hs; subst hs; rfl
@[congr] theorem d2B {s f : Nat} {u u' : Value} (hu : mkd (u) = u') (hs : mkd (σ) = σ') : b0M P s f u σ C = b0M P s f u' σ' C := by rw [D1] at hu; subst hu; rw [D1] at hs; subst hs; rfl
@[congr] theorem d2W {t : Nat} {e : TypeId} {l l' : List D} (h : mkd (l) = l') (hs : mkd (σ) = σ') : c6p t e l σ d K = c6p t e l' σ' d K := by rw [D1] at h; subst h; rw [D1] at hs; subst hs; rfl
@[congr] theorem d3q {t : Nat} (hs : mkd (σ) = σ') : UnK t σ d K = UnK t σ' d K := by rw [D1] at hs; subst hs; rfl
@[congr] theorem d0h {e : TypeId} {i i' : Nat} {u u' : Value} (h : mkd (i) = i') (hu : mkd (u) = u') (hs : mkd (σ) = σ') : b5f e i u σ d K = b5f e i' u' σ' d K := by rw [D1] at h; subst h; rw [D1] at hu; subst hu; rw [D1] at hs; subst hs; rfl
@[congr] theorem d0b {c : Call} (h : mkd (σ) = σ') : a5z P c K σ = a5z P c K σ' := by rw [D1] at h; subst h; rfl
@[congr] theorem c8E {t : TypeId} {x hi mx : Operand} (h : mkd (σ) = σ') : b6L P t x hi mx d K σ = b6L P t x hi mx d K σ' := by rw [D1] at h; subst h; rfl
@[congr] theorem d1I {g : FuncId} {xs xs' : List AV} {b : Bool} (h : mkd (xs) = xs') (hs : mkd (σ) = σ') : b3K P g xs σ d b K = b3K P g xs' σ' d b K := by rw [D1] at h; subst h; rw [D1] at hs; subst hs; rfl
@[congr] theorem d2z {g : FuncId} {xs xs' : List AV} {b : Bool} (h : mkd (xs) = xs') : b3D P g xs b C = b3D P g xs' b C := by rw [D1] at h; subst h; rfl
@[congr] theorem d1R {body : (Exit -> St -> Prop) -> St -> Prop} (hs : mkd (σ) = σ') : a8O body Q σ = a8O body Q σ' := by rw [D1] at hs; subst hs; rfl
end
section
variable {α : Type} (y : α) (f : α -> Prop)
@[simp ↓] theorem c6J : B4 (some y) f = f y := rfl
@[simp ↓] theorem c6P : B4 (none : Option α) f = False := rfl
end
section
variable {u : Option TypeDesc} {k : IntKind} {p q : Int} {s t : Str} {b c : Bool} {C : D -> Prop}
@[simp] theorem d0i (P : Program) (t : TypeId) (op : BinOp) (y : D) : X0 P t op (.int k p) y C = G9 (P.underlying t) op (.int k p) y C := rfl
@[simp] theorem d1v (P : Program) (t : TypeId) (op : BinOp) (y : D) (s : Str) : X0 P t op (.str s) y C = G9 (P.underlying t) op (.str s) y C := rfl
@[simp] theorem c9G (P : Program) (t : TypeId) (op : BinOp) (y : D) (b : Bool) : X0 P t op (.bool b) y C = G9 (P.underlying t) op (.bool b) y C := rfl
@[simp] theorem c9l (P : Program) (t : TypeId) (op : BinOp) (y : D) : X0 P t op .nilp y C = G9 (P.underlying t) op .nilp y C := rfl
@[simp] theorem d1i (P : Program) (t : TypeId) (op : BinOp) (y : D) (v : Value) : X0 P t op (.raw v) y C = G9 (P.underlying t) op (.raw v) y C := rfl
@[simp] theorem d0P (P : Program) (t : TypeId) (op : BinOp) (y : D) (w : Value) (ks vs : List D) (bs : List Nat) (clk : Nat) : X0 P t op (.map w ks vs bs clk) y C = G9 (P.underlying t) op (.map w ks vs bs clk) y C := rfl
@[simp] theorem d1w (P : Program) (t : TypeId) (op : BinOp) (y x : D) : X0 P t op (.ref x) y C = G9 (P.underlying t) op (.ref x) y C := rfl
@[simp] theorem d1h (P : Program) (t : TypeId) (xs ys : List D) : X0 P t .eql (.agg xs) (.agg ys) C = (a1A P t = true /\ P7 P (P.fieldsOf t).toList 0 xs ys = true /\ C (.bool (O5 xs ys))) := rfl
@[simp] theorem d0j (P : Program) (t : TypeId) (xs ys : List D) : X0 P t .neq (.agg xs) (.agg ys) C = (a1A P t = true /\ P7 P (P.fieldsOf t).toList 0 xs ys = true /\ C (.bool (!O5 xs ys))) := rfl
@[simp ↓] theorem d0z : G9 u .add (.int k p) (.int k q) C = (InR k (p + q) /\ C (.int k (p + q))) := by simp [G9]
@[simp ↓] theorem d0I : G9 u .sub (.int k p) (.int k q) C = (InR k (p - q) /\ C (.int k (p - q))) := by simp [G9]
@[simp ↓] theorem d0D : G9 u .mul (.int k p) (.int k q) C = (InR k (p * q) /\ C (.int k (p * q))) := by simp [G9]
@[simp ↓] theorem d0H : G9 u .eql (.int k p) (.int k q) C = C (.bool (decide (p = q))) := by simp [G9]
@[simp ↓] theorem d0m : G9 u .neq (.int k p) (.int k q) C = C (.bool (!decide (p = q))) := by simp [G9]
@[simp ↓] theorem d0o : G9 u .lss (.int k p) (.int k q) C = C (.bool (decide (p < q))) := by simp [G9]
@[simp ↓] theorem d0v : G9 u .leq (.int k p) (.int k q) C = C (.bool (decide (p <= q))) := by simp [G9]
@[simp ↓] theorem d0M : G9 u .gtr (.int k p) (.int k q) C = C (.bool (decide (q < p))) := by simp [G9]
@[simp ↓] theorem d0l : G9 u .geq (.int k p) (.int k q) C = C (.bool (decide (q <= p))) := by simp [G9]
@[simp ↓] theorem d0V : G9 u .quo (.int k p) (.int k q) C = (0 <= p /\ 0 < q /\ InR k (p / q) /\ C (.int k (p / q))) := by simp [G9]
@[simp ↓] theorem d0a : G9 u .rem (.int k p) (.int k q) C = (0 < q /\ C (.int k (Int.tmod p q))) := by simp [G9]
@[simp] theorem d0s (n : Nat) (q : Int) : Int.tmod (n : Int) q = (n : Int) % q := Int.tmod_eq_emod_of_nonneg (Int.natCast_nonneg n)
@[simp ↓] theorem d1g (k' : IntKind) : G9 u .shr (.int k p) (.int k' q) C = (0 <= q /\ q.toNat <= k.bits /\ 0 <= p /\ C (.int k (p / 2 ^ q.toNat))) := by simp [G9]
@[simp ↓] theorem d0J (k' : IntKind) : G9 u .shl (.int k p) (.int k' q) C = (0 <= q /\ q.toNat <= k.bits /\ InR k (p * 2 ^ q.toNat) /\ C (.int k (p * 2 ^ q.toNat))) := by simp [G9]
@[simp ↓] theorem d0e : G9 u .and (.int k p) (.int k q) C = (0 <= p /\ 0 <= q /\ InR k p /\ InR k q /\ C (.int k ((p.toNat &&& q.toNat : Nat) : Int))) := by simp [G9]
@[simp ↓] theorem d2v : G9 u .or (.int k p) (.int k q) C = (0 <= p /\ 0 <= q /\ InR k p /\ InR k q /\ C (.int k ((p.toNat ||| q.toNat : Nat) : Int))) := by simp [G9]
@[simp ↓] theorem c7a : G9 u .eql .nilp .nilp C = (a0U u = true /\ C (.bool true)) := rfl
@[simp ↓] theorem c6L : G9 u .neq .nilp .nilp C = (a0U u = true /\ C (.bool false)) := rfl
@[simp ↓] theorem c6M (A : Addr) : G9 u .eql (.raw (.pointer (some A))) .nilp C = (a0U u = true /\ C (.bool false)) := rfl
@[simp ↓] theorem c6S (A : Addr) : G9 u .neq (.raw (.pointer (some A))) .nilp C = (a0U u = true /\ C (.bool true)) := rfl
@[simp ↓] theorem c6V (x : D) : G9 u .eql (.ref x) .nilp C = (a0U u = true /\ C (.bool false)) := rfl
@[simp ↓] theorem c6W (x : D) : G9 u .neq (.ref x) .nilp C = (a0U u = true /\ C (.bool true)) := rfl
@[simp ↓] theorem c7e (x : Option Nat) : G9 u .eql (.raw (.map x)) (.raw (.map none)) C = (a2q u = true /\ C (.bool x.isNone)) := rfl
@[simp ↓] theorem c7b (x : Option Nat) : G9 u .neq (.raw (.map x)) (.raw (.map none)) C = (a2q u = true /\ C (.bool (!x.isNone))) := rfl
@[simp ↓] theorem c6E (w : Value) (ks vs : List D) (bs : List Nat) (clk : Nat) : G9 u .eql (.map w ks vs bs clk) (.raw (.map none)) C = (a2q u = true /\ C (.bool false)) := rfl
@[simp ↓] theorem c6G (w : Value) (ks vs : List D) (bs : List Nat) (clk : Nat) : G9 u .neq (.map w ks vs bs clk) (.raw (.map none)) C = (a2q u = true /\ C (.bool true)) := rfl
@[simp] theorem c7X (k e : TypeId) : a2q (some (.map k e)) = true := rfl
@[simp] theorem c7V (e : TypeId) : a0U (some (.pointer e)) = true := rfl
attribute [simp] IntKind.bits b4v
@[simp ↓] theorem c8F : G9 u .add (.str s) (.str t) C = (s.length + t.length <= 9223372036854775807 /\ C (.str (s ++ t))) := rfl
@[simp ↓] theorem c9v : G9 u .eql (.str s) (.str t) C = C (.bool (decide (s = t))) := rfl
@[simp ↓] theorem c8V : G9 u .neq (.str s) (.str t) C = C (.bool (!decide (s = t))) := rfl
@[simp ↓] theorem c9Q : G9 u .lss (.str s) (.str t) C = C (.bool (Op.bytesLess s t)) := rfl
@[simp ↓] theorem c9L : G9 u .leq (.str s) (.str t) C = C (.bool (Op.bytesLess s t || decide (s = t))) := rfl
@[simp ↓] theorem c9E : G9 u .gtr (.str s) (.str t) C = C (.bool (!(Op.bytesLess s t || decide (s = t)))) := rfl
@[simp ↓] theorem c8M : G9 u .geq (.str s) (.str t) C = C (.bool (!Op.bytesLess s t)) := rfl
@[simp] theorem c8H : G9 u .eql (.bool b) (.bool c) C = (u = some .bool /\ C (.bool (b == c))) := rfl
@[simp] theorem c8X : G9 u .neq (.bool b) (.bool c) C = (u = some .bool /\ C (.bool (!(b == c)))) := rfl
end
section
variable (e : TypeId) (l : List D) (j i : Nat) (p : List Nat) (xs : List AV) (s : Str) (d : D)
@[simp] theorem c9r : asD .undef = none := rfl
@[simp] theorem d1P : asD (.box d) = none := rfl
@[simp] theorem d2i : asD (.adr j p) = none := rfl
@[simp] theorem d0W : asD (.eadr j i p) = none := rfl
@[simp] theorem d1V : asD (.tup xs) = none := rfl
@[simp] theorem d1b : asD (.iter s i) = none := rfl
@[simp] theorem d2p : asD (.sub j i) = none := rfl
@[simp] theorem d2a (u : Value) (E : List (D × Nat) × Nat) (ks : List D) : asD (.mit u E ks) = none := rfl
@[simp] theorem d0L (z x : D) : a1c true z (some x) = .tup [.d x, .d (.bool true)] := rfl
@[simp] theorem d1A (z : D) : a1c true z none = .tup [.d z, .d (.bool false)] := rfl
@[simp] theorem d0S (z x : D) : a1c false z (some x) = .d x := rfl
@[simp] theorem d0u (z : D) : a1c false z none = .d z := rfl
end
section
variable {P : Program} {t kt vt : TypeId} {u : Value} {k z : D} {c : Bool} {σ : St} {d : Nat} {K : St -> Prop} {C : AV -> Prop} {m : List (D × D)} {E : Option (List (D × Nat) × Nat)}
theorem a1d (j : Nat) (hj : 1000000 <= j) (ht : P.underlying t = some (.map kt vt)) (hm : σ j = .hm u kt m E) (hk : F4 P kt k = true) (hz : E3 P vt = some z) {r : Option D} (hr : M6 m k = r) (h : C (a1c c z r)) : a5U P t u k c σ C :=
 ⟨j, kt, vt, z, m, E, hj, ht, hm, hk, hz, by rw [hr]; exact h⟩
theorem c3F (j : Nat) (hj : 1000000 <= j) (ht : P.underlying t = some (.map kt vt)) (hm : σ j = .hm u kt m E) (h : C (.d (.int .i64 (m.length : Nat)))) : b5I P t u σ C := ⟨j, kt, vt, kt, m, E, hj, ht, hm, h⟩
theorem a8A (kt : TypeId) (j : Nat) (hj : σ j = .undef) (h : ∀ g, K (put (put σ j (.hm (.map (some g)) kt [] none)) d (.d (.raw (.map (some g)))))) : b0o σ d K := ⟨kt, j, hj, h⟩
theorem a6L (j : Nat) (ht : P.underlying t = some (.map kt vt)) (hm : σ j = .hm u kt m E) (hk : F4 P kt k = true) (m2 : List (D × D)) (hp : Perm m2 (S1 m k z)) (h : K (put σ j (.hm u kt m2 none))) : b9d P t u k z σ K :=
 ⟨j, kt, vt, m, m2, E, ht, hm, hk, hp, h⟩
theorem a0a {ks vs : List D} (ht : P.underlying t = some (.map kt vt)) (hk : F4 P kt k = true) (hf : ∀ k ∈ ks, F4 P kt k = true) (hz : E3 P vt = some z) {r : Option D} (hr : M6 (ks.zip vs) k = r) (h : C (a1c c z r)) : a6m P t ks vs k c C :=
 ⟨kt, vt, z, ht, hk, hf, hz, by rw [hr]; exact h⟩
theorem c6i {i : Nat} {ks vs : List D} {bs : List Nat} {clk : Nat} {seen : List D} (j : Nat) (hm : σ j = .d (.map u ks vs bs clk)) (hf : ∀ k ∈ ks, I4 k k = true) (h1 : ∀ k v, (k, v) ∈ ks.zip vs -> k ∉ seen -> K (put (put σ i (.mit u (ks.zip bs, clk) (seen ++ [k]))) d (.tup [.d (.bool true), .d k, .d v])))
   (h0 : (∀ p ∈ ks.zip vs, p.1 ∈ seen) -> K (put σ d (.tup [.d (.bool false)]))) : b8G i u (ks.zip bs, clk) seen σ d K := ⟨j, ks, vs, bs, clk, hm, rfl, hf, h1, h0⟩
theorem c5W {ks vs : List D} {bs : List Nat} {clk : Nat} {s2 : List D} {v : D} (j : Nat) (hm : σ j = .d (.map u ks vs bs clk)) (hf : ∀ k ∈ ks, I4 k k = true) (hv : (k, v) ∈ ks.zip vs) (h : K (put σ d (.tup [.d k, .d v]))) : b9g u (ks.zip bs, clk) (s2 ++ [k]) σ d K := ⟨j, ks, vs, bs, clk, s2, k, v, hm, rfl, hf, rfl, hv, h⟩
end
theorem A0 {P : Program} {g : FuncId} {args : List AV} {σ : St} {d : Nat} {b : Bool} {K : St -> Prop} {r : AV} (h : Ctr P g args r) (hk : K (put σ d (a1K b r))) : b3K P g args σ d b K := ⟨r, h, hk⟩
theorem a2s {body : (Exit -> St -> Prop) -> St -> Prop} {Q : Exit -> St -> Prop} {σ : St} (I : Nat -> St -> Prop) (k : Nat) (h0 : I k σ) (hr : ∀ m τ, I m τ -> body (a5n (fun τ' => ∃ m', m' < m /\ I m' τ') Q) τ) : a8O body Q σ := ⟨I, k, h0, hr⟩
end Go.Vw
namespace Go.Vw
open Go.RowKit Go.Proofs Go.Sort
variable {P : Program} {w w' : World} {L L' : Nat -> Nat -> Prop}
theorem b5V {F cur : Array Value} (h : F.size <= cur.size) : (putCells id 0 F cur).toList = F.toList ++ cur.toList.drop F.size := by
 apply ext_getElem
 . simp [putCells]; omega
 . intro i h1 h2; simp only [putCells, Array.length_toList, Array.size_mapIdx] at h1; simp only [putCells, Array.getElem_toList, Array.getElem_mapIdx, Nat.zero_le, true_and, Nat.zero_add, Nat.sub_zero, id]; by_cases hi : i < F.size
   . rw [if_pos hi, getElem_append_left (by simpa using hi)]; simp [hi]
   . rw [if_neg hi, getElem_append_right (by simp; omega)]; simp only [Array.length_toList, getElem_drop, Array.getElem_toList]; congr 1; omega
theorem a6f {α : Type} [Inhabited α] (enc : α -> Value) (w : World) (g : Nat) (d : Array α) : putRow enc w g 0 d = putRow id w g 0 (d.map enc) := by
 unfold putRow; refine mapBlock_congr w g _ _ (fun c e fr _ => ?_); unfold putCells; apply Array.ext
 . simp
 . intro i h1 h2; simp only [Array.getElem_mapIdx, Nat.zero_le, true_and, Nat.zero_add, Nat.sub_zero, id, Array.size_map]; by_cases hi : i < d.size
   . simp [hi]
   . simp [hi]
def M1 (w : World) (g m : Nat) (F : Array Value) (os : Array Obj) : World := grow (putRow id (Sort.ahead w m) g 0 F) os
theorem a4v (w : World) (g m : Nat) (F : Array Value) (os : Array Obj) : (M1 w g m F os).heap.size = w.heap.size + os.size := by
 simp [M1, grow, putRow, mapBlock, Sort.ahead]
theorem a3C (w : World) (g m : Nat) (F : Array Value) (os : Array Obj) {b : Nat} (hb : b < w.heap.size) (hne : b ≠ g) : (M1 w g m F os).heap[b]? = w.heap[b]? := by
 simp only [M1, grow, putRow, mapBlock, Sort.ahead]; rw [Array.getElem?_append_left (by simpa using hb), Array.getElem?_modify, if_neg (Ne.symm hne)]
theorem b8F (w : World) (g m : Nat) (F : Array Value) (os : Array Obj) {c : Array Value} {e : TypeId} {fz : Nat × Nat} (h : w.heap[g]? = some (.cells c e fz)) : (M1 w g m F os).heap[g]? = some (.cells (putCells id 0 F c) e fz) := by
 have hb : g < w.heap.size := (Array.getElem?_eq_some_iff.1 h).1; simp only [M1, grow, putRow, mapBlock, Sort.ahead]; rw [Array.getElem?_append_left (by simpa using hb), Array.getElem?_modify, if_pos rfl, h]; rfl
theorem F0.sorted {og : Option Nat} {e : TypeId} {l l' : List D} {g c : Nat} (h : F0 P w L og true e l (.slice (some ⟨g, 0, none⟩) l.length c)) (hlok : ∀ b q, L b q -> b < w.heap.size) {css' : List (List Value)} (hr : A8 w L l' css') (hlen : l'.length = l.length)
   (hsz : ∀ sz, (P.info? (ety e)).map (·.size) = some sz -> ∀ c ∈ css', c.length = sz) (m : Nat) (os : Array Obj) {F : Array Value} (hF : F.toList = css'.flatten) :
   F0 P (M1 w g m F os) L og true e l' (.slice (some ⟨g, 0, none⟩) l.length c) /\ F7 w (M1 w g m F os) (H1 (some g)) /\ (∀ b q, L b q -> b < (M1 w g m F os).heap.size) := by
 have C9 := h.blk (g := g) rfl; obtain ⟨css, sz, h1, h2, h3, h4, h5⟩ := h; rcases h4.2 with ⟨hv, hn⟩ | ⟨g', cap, cur, hv, hh, hnc, hcm, hcs, htk⟩
 . cases hv
 . simp only [Value.slice.injEq, Option.some.injEq, Addr.mk.injEq, and_true, true_and] at hv; obtain ⟨rfl, rfl⟩ := hv; have hsz' := hsz sz h1; have hFl : F.size = l.length * sz := by
     rw [<- Array.length_toList, hF, W4 hsz', hr.count, hlen]
   have hFc : F.size <= cur.size := by rw [hFl]; exact Nat.le_trans (Nat.mul_le_mul_right _ hnc) hcs
   have hpl := b5V hFc; have hps : (putCells id 0 F cur).size = cur.size := (by simp [putCells]); have hgrown : F7 w (M1 w g m F os) (H1 (some g)) := ⟨rfl, rfl, rfl, by rw [a4v]; omega, fun k hk hne => a3C w g m F os hk (fun e => hne (by rw [e]; rfl)), by show w.drawn <= (M1 w g m F os).drawn; exact Nat.le_add_right _ _⟩; have hext : Ext w L (M1 w g m F os) L := fun b q hq => ⟨hq, fun v hv => by
     have hne : b ≠ g := fun e => by subst e; exact C9.2 q hq
     rw [J4 (a3C w g m F os (hlok b q hq) hne)]; exact hv⟩
   refine ⟨⟨css', sz, h1, A8.mono hext _ _ hr, hsz', ⟨?_, .inr ⟨g, c, putCells id 0 F cur, by rw [hlen], by rw [hps]; exact b8F w g m F os hh, by rw [hlen]; exact hnc, hcm, by rw [hps]; exact hcs, ?_⟩⟩, fun g' hg' => ?_⟩, hgrown, fun b q hq => by rw [a4v]; have := hlok b q hq; omega⟩
   . rw [<- hF, Array.length_toList, hFl, hlen]
   . rw [hlen, hpl, <- hF, <- hFl, <- Array.length_toList, take_left]
   . obtain rfl : g = g' := by simpa [Value.ownBlock] using hg'
     exact ⟨C9.1, fun q => by simpa using C9.2 q⟩
theorem F0.holds {og : Option Nat} {e : TypeId} {l : List D} {g c : Nat} (h : F0 P w L og true e l (.slice (some ⟨g, 0, none⟩) l.length c)) : ∃ css, A8 w L l css /\ (∀ sz, (P.info? (ety e)).map (·.size) = some sz -> ∀ c ∈ css, c.length = sz) /\ Holds id w g 0 css.flatten.toArray /\ g < w.heap.size /\ l.length <= c := by
 obtain ⟨css, sz, h1, h2, h3, h4, h5⟩ := h; rcases h4.2 with ⟨hv, hn⟩ | ⟨g', cap, cur, hv, hh, hnc, hcm, hcs, htk⟩
 . cases hv
 . simp only [Value.slice.injEq, Option.some.injEq, Addr.mk.injEq, and_true, true_and] at hv; obtain ⟨rfl, rfl⟩ := hv; refine ⟨css, h2, fun s hs => by rw [h1] at hs; simp only [Option.some.injEq] at hs; subst hs; exact h3, fun j hj => ?_, (Array.getElem?_eq_some_iff.1 hh).1, hnc⟩; simp only [size_toArray] at hj; have hle : l.length * sz <= cur.size := Nat.le_trans (Nat.mul_le_mul_right _ hnc) hcs; have hjl : j < l.length * sz := by rw [<- h4.1]; exact hj
   have hjc : j < cur.size := (by omega); have hv : css.flatten[j]? = some cur[j] := by
     rw [<- htk, getElem?_take, if_pos hjl]; simp [hjc]
   constructor
   . simp only [World.cell?, hh, Nat.zero_add, id]; rw [show css.flatten.toArray[j]! = cur[j] by
       rw [getElem!_pos _ j (by simpa using hj)]; simpa using (List.getElem?_eq_some_iff.1 hv).2]
     simp [hjc]
   . simp only [World.frozen?, hh, Nat.zero_add]; unfold mk; split
     . simp
     . simp; omega
section
variable {g : FuncId} {args rest : List AV} {σ : St} {d : Nat} {K : St -> Prop} {C : AV -> Prop}
theorem c4e {y : D} (h : Ctr P g args (.d y)) (hy : a3M y = true) (hk : K (put σ d (.d y))) : b3M P g args σ d K := ⟨y, hy, h, hk⟩
theorem b8a {j : Nat} {e : TypeId} {l l' : List D} (h : a5Z P g e l rest l') (hk : K (put (put σ j (.own true e l')) d (.tup []))) : InK P g (.bor j true e l) rest σ d K := ⟨l', h, hk⟩
theorem d0O {u : Value} (j : Nat) {e : TypeId} {l l' : List D} (hj : σ j = .hs u e l) (h : a5Z P g e l rest l') (hk : K (put (put σ j (.hs u e l')) d (.tup []))) : InK P g (.d (.raw u)) rest σ d K := ⟨j, e, l, l', hj, h, hk⟩
theorem c8v {u : Value} (j : Nat) {e e' : TypeId} {l l' : List D} (hj : σ j = .hs u e l) (h : Ctr P g (.own true e l :: rest) (.own true e' l')) (hk : ∀ A c, K (put (put σ j (.hs (.slice A l'.length c) e' l')) d (.d (.raw (.slice A l'.length c))))) : b0s P g (.d (.raw u)) rest σ d K := ⟨j, e, l, e', l', hj, h, hk⟩
theorem c3G {e : TypeId} {z : Nat × Nat} {ds l : List D} {u : Value} (j : Nat) (hj : σ j = .hs u e l) (h1 : ∀ u ∈ ds, C0 u = z.1) (h2 : (l.length + ds.length) * z.2 <= 140737488355328) (h3 : l.length + ds.length <= 140737488355328)
   (hk : ∀ A c, K (put (put σ j (.hs (.slice A (l ++ ds).length c) e (l ++ ds))) d (.d (.raw (.slice A (l ++ ds).length c))))) : b5y e z ds u σ d K := ⟨j, l, .inl hj, h1, h2, h3, hk⟩
theorem c8u {e : TypeId} {z : Nat × Nat} {ds : List D} (j : Nat) (hj : σ j = .undef) (h1 : ∀ u ∈ ds, C0 u = z.1) (h2 : ds.length * z.2 <= 140737488355328) (h3 : ds.length <= 140737488355328)
   (hk : ∀ A c, K (put (put σ j (.hs (.slice A ds.length c) e ds)) d (.d (.raw (.slice A ds.length c))))) : b5y e z ds (.slice none 0 0) σ d K := ⟨j, [], .inr ⟨rfl, rfl, hj⟩, h1, by simpa using h2, by simpa using h3, by simpa using hk⟩
end
end Go.Vw
namespace Go.Vw
open Go.RowKit Go.Proofs
variable {P : Program} {w : World} {L : Nat -> Nat -> Prop}
theorem RCs.dataOnly {og og' : Option Nat} : ∀ {xs : List AV} {vs : List Value}, (∀ x ∈ xs, ∃ d, x = .d d) -> RCs P w L og xs vs -> RCs P w L og' xs vs
 | [], _, _, h => h
 | x :: xs, vs, hx, h => by
   simp only [RCs] at h ⊢; obtain ⟨v, us, h1, h2, h3⟩ := h; obtain ⟨d, rfl⟩ := hx x (by simp); exact ⟨v, us, h1, h2, RCs.dataOnly (fun y hy => hx y (by simp [hy])) h3⟩
theorem G1.frozen {f : FuncId} {args : List AV} {Post : AV -> List AV -> Prop} (h : G1 P f args [] Post) (hargs : ∀ x ∈ args, ∃ d, x = .d d) {e : TypeId} {l' : List D}
   (hp : ∀ r hs, Post r hs -> ∃ l, r = .own true e l /\ FzL hs l l') : Ctr P f args (.own true e l') := by
 refine ⟨h.1, fun w L og vals hlok hgl hog hv => (h.2 w L vals hlok hgl (RCs.dataOnly hargs hv) (by simp) trivial).mono ?_⟩; rintro x w' ⟨v, L', og', r, hs, rfl, hgr, hlok', hold', hog', hap, hrc, hrh, hpost⟩; obtain ⟨l, rfl, hl⟩ := hp r hs hpost; obtain ⟨css, sz, h1, h2, h3, h4, h5⟩ : F0 P w' L' og' true e l v := hrc; have hblkm : ∀ {u : Value} {e : TypeId} {l : List D} {g : Nat}, AV.hs u e l ∈ hs -> u.ownBlock = some g -> some g ∈ hs.map C9 := fun hm hb => mem_map.2 ⟨_, hm, hb⟩
 refine ⟨v, a5c P L' hs, og', rfl, hgr.sub (fun b hb => by simp at hb), fun b q hq => ?_, fun b q hb _ => ?_, fun g hg => ?_, css, sz, h1, A8.fz hrh hap.2 hl h2, h3, ⟨by rw [<- hl.len]; exact h4.1, by rw [<- hl.len]; exact h4.2⟩, fun g hg => ⟨(h5 g hg).1, fun o => ⟨fun hL => ?_, fun h => by simp at h⟩⟩⟩
 . rcases hq with hq | ⟨u, e, l, sz, hm, hb, _⟩
   . exact hlok' b q hq
   . exact (hog' b (mem_cons.2 (.inr (hblkm hm hb)))).1
 . refine ⟨fun hL => ?_, fun hL => .inl ((hold' b q hb (by simp)).2 hL)⟩; rcases hL with hL | ⟨u, e, l, sz, hm, hbb, _⟩
   . exact (hold' b q hb (by simp)).1 hL
   . have := (hog' b (mem_cons.2 (.inr (hblkm hm hbb)))).2; simp at this; omega
 . have := hog' g (by simp [hg]); exact ⟨this.1, .inl (by simpa using this.2)⟩
 . rcases hL with hL | ⟨u, e, l, sz, hm, hbb, _⟩
   . have := ((h5 g hg).2 o).1 hL; simp at this
   . exact absurd (hblkm hm hbb) (hap.1 g (h5 g hg).1)
theorem b6V : ∀ (xs : List AV) (σ : St) (b i : Nat), i < b -> (∀ d, b <= d -> F5 d (σ i) = σ i) -> E7 σ [] b xs i = σ i
 | [], _, _, _, _, _ => rfl
 | x :: xs, σ, b, i, hi, hk => by
   rw [E7, b6V xs _ _ _ (by omega)]
   . simp only [put, if_neg (show ¬ i = b by omega)]; exact hk b (Nat.le_refl _)
   . intro d hd; simp only [put, if_neg (show ¬ i = b by omega), hk b (Nat.le_refl _)]; exact hk d (by omega)
theorem a3k {x : AV} (h : isH x = true) (d : Nat) : F5 d x = x := by cases x <;> simp [isH] at h <;> rfl
theorem a8E : ∀ (xs : List AV) (σ : St) (b : Nat), (∀ x ∈ xs, isH x = true) -> ∀ i (h : i < xs.length), E7 σ [] b xs (b + i) = xs[i]
 | [], _, _, _, _, h => by simp at h
 | x :: xs, σ, b, hx, 0, h => by
   have hkx := a3k (hx x (by simp)); have e : (put σ b x) b = x := by simp only [put, if_true]; exact hkx b
   rw [Nat.add_zero, E7, b6V _ _ _ _ (by omega) (by intro d _; rw [e]; exact hkx d), e, getElem_cons_zero]
 | x :: xs, σ, b, hx, i + 1, h => by
   have := a8E xs (put σ b x) (b + 1) (fun y hy => hx y (by simp [hy])) i (by simpa using h); rw [E7, show b + (i + 1) = b + 1 + i by omega, this, getElem_cons_succ]
theorem G1.shaped {f : FuncId} {args hs : List AV} {Post : AV -> List AV -> Prop} (h : G1 P f args hs Post) :
   G1 P f args hs (fun r hs' => Post r hs' /\ ∀ u e l, AV.hs u e l ∈ hs' -> ∃ A c, u = .slice A l.length c) := by
 refine ⟨h.1, fun w L vals hlok hgl hv hh ha => (h.2 w L vals hlok hgl hv hh ha).mono ?_⟩; rintro x w' ⟨v, L', og', r, hs', h1, h2, h3, h4, h5, h6, h7, h8, h9⟩; refine ⟨v, L', og', r, hs', h1, h2, h3, h4, h5, h6, h7, h8, h9, fun u e l hm => ?_⟩; have : F0 P w' L' u.ownBlock true e l u := (h8 _ hm).2; exact this.shape
end Go.Vw
set_option maxHeartbeats 4000000
namespace Go.Vw
open Go
def rW {α : Type} : Result α -> World
 | .ok _ w => w
 | .halt _ w => w
theorem V0 {α : Type} {p : Program} : ∀ (s : Sem α) (w : World), w.drawn <= (rW (s.run p w)).drawn
 | .pure _, w => Nat.le_refl _
 | .load m ad k, w => by
   simp only [Sem.run]; split
   . exact V0 _ w
   . split
     . exact V0 _ w
     . exact Nat.le_refl _
 | .store m ad v k, w => by
   cases v <;> simp only [Sem.run]
   all_goals first
     | exact Nat.le_refl _
     | (split
        . split
          . exact Nat.le_refl _
          . exact V0 k (w.setCell ad _)
        . split
          . rename_i w2 l hf
            rw [<- a5K hf]; exact V0 k _
          . exact Nat.le_refl _)
 | .new o k, w => by simp only [Sem.run]; exact V0 _ { w with heap := w.heap.push o }
 | .shape r k, w => by simp only [Sem.run]; exact V0 _ w
 | .freeze ad n k, w => by
   simp only [Sem.run]; rw [<- a4y w ad n]; exact V0 _ _
 | .frozen ad k, w => by simp only [Sem.run]; exact V0 _ w
 | .getObj r k, w => by
   simp only [Sem.run]; split
   . exact Nat.le_refl _
   . exact V0 _ w
   . exact Nat.le_refl _
 | .setObj r o k, w => by
   simp only [Sem.run]; split
   . exact Nat.le_refl _
   . exact V0 k { w with heap := w.heap.setIfInBounds r o }
   . exact Nat.le_refl _
 | .choose q k, w => by
   simp only [Sem.run]; split
   . exact V0 _ w
   . exact Nat.le_trans (Nat.le_succ _) (V0 _ { w with drawn := w.drawn + 1 })
 | .sys c k, w => by
   simp only [Sem.run]; exact Nat.le_trans (b3a w c) (V0 _ _)
 | .program k, w => by simp only [Sem.run]; exact V0 _ w
 | .mark _ k, w => by simp only [Sem.run]; exact V0 _ w
 | .halt _, w => Nat.le_refl _
theorem D5 {α : Type} {p : Program} {s : Sem α} {w w' : World} {a : α} {d : Nat} (h : s.run p w = .ok a w') (hd : d <= w.drawn) : d <= w'.drawn := by
 have := V0 (p := p) s w; rw [h] at this; exact Nat.le_trans hd this
theorem a0B {α : Type} {p : Program} {s : Sem α} {w w' : World} {a : Halt} {d : Nat} (h : s.run p w = .halt a w') (hd : d <= w.drawn) : d <= w'.drawn := by
 have := V0 (p := p) s w; rw [h] at this; exact Nat.le_trans hd this
def Up (d : Nat) : GStep -> Prop
 | .go _ w _ => d <= w.drawn
 | .comm _ _ _ _ w _ => d <= w.drawn
 | .spawn _ _ w _ => d <= w.drawn
 | .count _ w _ => d <= w.drawn
 | .timer _ _ w _ => d <= w.drawn
 | .alone _ _ w _ => d <= w.drawn
 | .newcoro _ _ _ w _ => d <= w.drawn
 | .coroswitch _ _ _ w _ => d <= w.drawn
 | .collect _ w _ => d <= w.drawn
 | .watch _ w _ => d <= w.drawn
 | .ended _ _ _ => True
@[simp] theorem M0 {d : Nat} (es : Array Event) (s : GStep) : Up d (GStep.after es s) = Up d s := by cases s <;> rfl
theorem U0 {d : Nat} {α : Type} {o : Option α} {a : GStep} {f : α -> GStep} (h1 : Up d a) (h2 : ∀ x, Up d (f x)) : Up d (o.elim a f) := by cases o; exact h1; exact h2 _
theorem b9i {d : Nat} (w : World) (fd : Nat) (t : ByteArray) (o : Outcome) : Up d (endWith w fd t o) := by
 unfold endWith; simp only []; repeat' first
   | exact trivial
   | rw [M0]
   | refine U0 ?_ fun _ => ?_
   | split
theorem c1P {d : Nat} {w : World} (h : d <= w.drawn) (fr : Frame) (a : List ByteArray) (m : String) (b : Bool) : Up d (dieOf fr a m b w) := h
theorem a1M {d : Nat} {w : World} (h : d <= w.drawn) (fr : Frame) (m : String) : Up d (endThrow fr m w) := h
theorem a5L {d : Nat} {w : World} (h : d <= w.drawn) (p : Program) (fr : Frame) (v : Value) : Up d (endPrinting p fr v w) := by
 unfold endPrinting; simp only []; split
 . exact a1M h _ _
 . exact trivial
theorem a9n {d : Nat} {w : World} (h : d <= w.drawn) (p : Program) (fr : Frame) (cs : List Frame) (dy : Option Dying) (m : String) : Up d (endFatal p fr cs dy m w) := by
 unfold endFatal; simp only []; split
 . rename_i hr
   exact c1P (D5 hr h) _ _ _ _
 . exact trivial
 . exact trivial
theorem b8U {d : Nat} {w : World} (h : d <= w.drawn) (p : Program) (fr : Frame) (dy : Dying) (f : Fatal) : Up d (writeOn p fr dy f w) := by
 unfold writeOn; simp only [Sem.runT_eq]; repeat' first
   | exact trivial
   | (rename_i hr; exact D5 (Prod.mk.inj hr).1 h)
   | (rename_i hr; exact a0B (Prod.mk.inj hr).1 h)
   | rw [M0]
   | refine U0 ?_ fun _ => ?_
   | split
theorem c6r {d : Nat} {w : World} (h : d <= w.drawn) (p : Program) (fr : Frame) (dy : Dying) : Up d (die p fr dy w) := by
 unfold die; simp only [Sem.runT_eq, M0]; repeat' first
   | exact trivial
   | exact h
   | exact b8U h _ _ _ _
   | exact b9i _ _ _ _
   | exact D5 (by assumption) h
   | (have hq := D5 (by assumption) h; exact hq)
   | (have hq := D5 (by assumption) h; have hq2 := D5 (by assumption) hq; exact hq2)
   | (have hq := D5 (by assumption) h; have hq2 := D5 (by assumption) hq; have hq3 := D5 (by assumption) hq2; exact hq3)
   | exact a5L (a0B (by assumption) h) _ _ _
   | rw [M0]
   | refine U0 ?_ fun _ => ?_
   | split
theorem a5s {d : Nat} {w : World} (h : d <= w.drawn) (p : Program) (b : Bool) (fr : Frame) (cs : List Frame) (dy : Option Dying) (v : Value) : Up d (doReturn p b fr cs dy v w) := by
 unfold doReturn; simp only []; repeat' first
   | exact trivial
   | exact h
   | rw [M0]
   | refine U0 ?_ fun _ => ?_
   | split
theorem b1g {d : Nat} {w : World} (h : d <= w.drawn) (p : Program) (fr : Frame) (cs : List Frame) (dy : Option Dying) (x : Deferred) : Up d (callDeferred p fr cs dy x w) := by
 unfold callDeferred; simp only [Sem.runT_eq, M0]; repeat' first
   | exact trivial
   | exact D5 (by assumption) h
   | (have hq := D5 (by assumption) h; exact hq)
   | (have hq := D5 (by assumption) h; have hq2 := D5 (by assumption) hq; exact hq2)
   | (have hq := D5 (by assumption) h; have hq2 := D5 (by assumption) hq; have hq3 := D5 (by assumption) hq2; exact hq3)
   | exact a0B (by assumption) h
   | exact a9n (a0B (by assumption) h) _ _ _ _ _
   | exact a1M (a0B (by assumption) h) _ _
   | rw [M0]
   | refine U0 ?_ fun _ => ?_
   | split
theorem c1i {d : Nat} {w : World} (h : d <= w.drawn) (p : Program) (b : Bool) (fr : Frame) (cs : List Frame) (dy : Option Dying) : Up d (unwind p b fr cs dy w) := by
 unfold unwind; simp only [Sem.runT_eq, M0]; repeat' first
   | exact trivial
   | exact h
   | exact b1g h _ _ _ _ _
   | exact a5s h _ _ _ _ _ _
   | exact a5L h _ _ _
   | exact D5 (by assumption) h
   | (have hq := D5 (by assumption) h; exact hq)
   | (have hq := D5 (by assumption) h; have hq2 := D5 (by assumption) hq; exact hq2)
   | (have hq := D5 (by assumption) h; have hq2 := D5 (by assumption) hq; have hq3 := D5 (by assumption) hq2; exact hq3)
   | exact a5s (D5 (by assumption) h) _ _ _ _ _ _
   | rw [M0]
   | refine U0 ?_ fun _ => ?_
   | split
theorem c2Q {d : Nat} {w : World} (h : d <= w.drawn) (p : Program) (fr : Frame) (cs : List Frame) (dy : Option Dying) (g : Nat) : Up d (early p fr cs dy g w) := by
 unfold early; simp only []; repeat' first
   | exact trivial
   | exact h
   | exact D5 (by assumption) h
   | (have hq := D5 (by assumption) h; exact hq)
   | (have hq := D5 (by assumption) h; have hq2 := D5 (by assumption) hq; exact hq2)
   | (have hq := D5 (by assumption) h; have hq2 := D5 (by assumption) hq; have hq3 := D5 (by assumption) hq2; exact hq3)
   | rw [M0]
   | refine U0 ?_ fun _ => ?_
   | split
theorem a9F {d : Nat} {w : World} (h : d <= w.drawn) (p : Program) (fr : Frame) (cs : List Frame) (dy : Option Dying) (s : Sem Next) (l : Bool) : Up d (stepG.apply p l fr cs dy s w) := by
 have hl : (if l = true then s.runT p w #[] else (s.run p w, #[])).1 = s.run p w := by cases l <;> simp
 unfold stepG.apply; simp only [M0]; rw [hl]; repeat' first
   | exact trivial
   | exact D5 (by assumption) h
   | (have hq := D5 (by assumption) h; exact hq)
   | (have hq := D5 (by assumption) h; have hq2 := D5 (by assumption) hq; exact hq2)
   | (have hq := D5 (by assumption) h; have hq2 := D5 (by assumption) hq; have hq3 := D5 (by assumption) hq2; exact hq3)
   | exact a0B (by assumption) h
   | exact a1M (D5 (by assumption) h) _ _
   | exact a1M (a0B (by assumption) h) _ _
   | exact a9n (a0B (by assumption) h) _ _ _ _ _
   | exact c2Q (a0B (by assumption) h) _ _ _ _ _
   | rw [M0]
   | refine U0 ?_ fun _ => ?_
   | split
theorem c4o {d : Nat} {w : World} (h : d <= w.drawn) (p : Program) (fr : Frame) (cs : List Frame) (dy : Option Dying) (l : Bool) : Up d (stepG.oper p l fr cs dy w) := by
 unfold stepG.oper; repeat' first
   | exact trivial
   | exact a9F h _ _ _ _ _ _
   | rw [M0]
   | refine U0 ?_ fun _ => ?_
   | split
theorem c5n {d : Nat} {w : World} (h : d <= w.drawn) (p : Program) (b : Bool) (fr : Frame) (cs : List Frame) (dy : Option Dying) (l : Bool) : Up d (stepG.exec p b l fr cs dy w) := by
 unfold stepG.exec; simp only [Sem.runT_eq, M0]; repeat' first
   | exact trivial
   | exact h
   | exact a9F h _ _ _ _ _ _
   | exact c4o h _ _ _ _ _
   | exact D5 (by assumption) h
   | (have hq := D5 (by assumption) h; exact hq)
   | (have hq := D5 (by assumption) h; have hq2 := D5 (by assumption) hq; exact hq2)
   | (have hq := D5 (by assumption) h; have hq2 := D5 (by assumption) hq; have hq3 := D5 (by assumption) hq2; exact hq3)
   | exact a0B (by assumption) h
   | exact a5s (D5 (by assumption) h) _ _ _ _ _ _
   | exact a9F (D5 (by assumption) h) _ _ _ _ _ _
   | rw [M0]
   | refine U0 ?_ fun _ => ?_
   | split
theorem c2p {d : Nat} {w : World} (h : d <= w.drawn) (p : Program) (b : Bool) (g : Goroutine) (l : Bool) : Up d (stepG p b g w l) := by
 unfold stepG; simp only []; split
 . exact c6r h _ _ _
 . exact c5n h _ _ _ _ _ _
 . exact c1i h _ _ _ _ _
def UpS (d : Nat) : Stepped -> Prop
 | .next m => d <= m.world.drawn
 | .ended _ _ => True
theorem b0J {rest : Rest} {cases : Array CommCase} {w w' : World} (h : waitingAt rest cases w = some w') : w'.drawn = w.drawn := by
 unfold waitingAt at h; repeat' (first | (split at h) | (cases h; rfl) | cases h)
theorem b1v {d : Nat} {w : World} (h : d <= w.drawn) (p : Program) (rest : Rest) (gs : Array Goroutine) (i : Nat) (g : Goroutine) (cases : Array CommCase) (b : Bool) (shape : CommShape) : UpS d (communicate p rest gs i g cases b shape w).1 := by
 unfold communicate; simp only []; repeat' first
   | exact trivial
   | exact h
   | (rename_i hw; exact Nat.le_trans h (Nat.le_of_eq (b0J hw).symm))
   | exact D5 (by assumption) h
   | (have hq := D5 (by assumption) h; exact hq)
   | (have hq := D5 (by assumption) h; have hq2 := D5 (by assumption) hq; exact hq2)
   | (have hq := D5 (by assumption) h; have hq2 := D5 (by assumption) hq; have hq3 := D5 (by assumption) hq2; exact hq3)
   | exact a0B (by assumption) (D5 (by assumption) h)
   | exact D5 (by assumption) (D5 (by assumption) h)
   | rw [M0]
   | refine U0 ?_ fun _ => ?_
   | split
theorem b7n {d : Nat} {w : World} (h : d <= w.drawn) (p : Program) (gs : Array Goroutine) (rest : Rest) : UpS d (look p gs rest w) := by
 unfold look; simp only []; repeat' first
   | exact trivial
   | exact h
   | exact D5 (by assumption) h
   | (have hq := D5 (by assumption) h; exact hq)
   | (have hq := D5 (by assumption) h; have hq2 := D5 (by assumption) hq; exact hq2)
   | (have hq := D5 (by assumption) h; have hq2 := D5 (by assumption) hq; have hq3 := D5 (by assumption) hq2; exact hq3)
   | rw [M0]
   | refine U0 ?_ fun _ => ?_
   | split
theorem b6z (w : World) (c : Nat) : (drain w c).2.drawn = w.drawn := by
 unfold drain; split <;> rfl
theorem a4A (m : Machine) (k : Nat) (t : Timer) (a b : Nat) : (retime m k t a b).2.world.drawn = m.world.drawn := by
 unfold retime; cases hc : t.chan with
 | none => rfl
 | some c => exact b6z _ _
theorem a8k {m m' : Machine} {v : Addr} (h : timerOp.opened m v = some m') : m'.world.drawn = m.world.drawn := by
 unfold timerOp.opened at h; repeat' (first | (split at h) | (cases h; rfl) | cases h)
theorem b3x {m m' : Machine} {op : TimerOp} {v : Value} (h : timerOp m op = .ok (v, m')) : m'.world.drawn = m.world.drawn := by
 unfold timerOp at h; simp only [timerOp.named] at h; repeat' first
   | (cases h; rfl)
   | (cases h; exact a4A _ _ _ _ _)
   | (rename_i ho _ _; have := a8k ho; cases h; rw [<- this]; exact a4A _ _ _ _ _)
   | (rename_i ho _ _ _; have := a8k ho; cases h; rw [<- this]; exact a4A _ _ _ _ _)
   | cases h
   | split at h
theorem c5r {d : Nat} {m : Machine} (h : d <= m.world.drawn) (p : Program) (i : Nat) (l : Bool) : UpS d (runT p m i l).1 := by
 simp only [runT]; generalize m.gs.swapAt! _ _ = gg; have hs := c2p h p (i == 0) gg.1 l; generalize stepG p _ gg.1 m.world l = s at hs; cases s <;> simp only [Up] at hs <;> simp only []
 all_goals first
   | exact trivial
   | exact hs
   | exact b1v hs _ _ _ _ _ _ _ _
   | exact b7n hs _ _ _
   | (repeat' first
       | exact trivial
       | exact hs
       | (rename_i ht; exact Nat.le_trans hs (Nat.le_of_eq (b3x ht).symm))
       | (have hq := a1M hs (d := d) (by assumption) (by assumption))
       | split)
theorem c3y {d : Nat} {m : Machine} (h : d <= m.world.drawn) (p : Program) (k : Nat) : UpS d (serve p m k) := by
 unfold serve; simp only []; repeat' first
   | exact trivial
   | exact h
   | rw [M0]
   | refine U0 ?_ fun _ => ?_
   | split
def UpM (d : Nat) : Move -> Prop
 | .goroutine m _ => d <= m.world.drawn
 | .machine s _ => UpS d s
theorem c0v {α : Type} {p : Program} {s : Sem α} {w w' : World} {gs : Array Goroutine} {rest : Rest} {t : Nat} {a : α} {d : Nat} (h : s.run p (Machine.advanceTo { world := w, gs := gs, rest := rest } t).world = .ok a w') (hd : d <= w.drawn) : d <= w'.drawn := D5 h hd
theorem a9y {d : Nat} {m : Machine} (h : d <= m.world.drawn) (p : Program) : UpM d (askOn p m) := by
 unfold askOn; simp only []; repeat' first
   | exact trivial
   | exact h
   | exact c3y (m := { m with world := _ }) (D5 (by assumption) h) _ _
   | exact D5 (by assumption) h
   | (have hq := D5 (by assumption) h; exact hq)
   | (have hq := D5 (by assumption) h; have hq2 := D5 (by assumption) hq; exact hq2)
   | (have hq := D5 (by assumption) h; have hq2 := D5 (by assumption) hq; have hq3 := D5 (by assumption) hq2; exact hq3)
   | exact D5 (by assumption) (D5 (by assumption) h)
   | exact D5 (by assumption) (D5 (by assumption) (D5 (by assumption) h))
   | exact D5 (by assumption) (D5 (by assumption) (D5 (by assumption) (D5 (by assumption) h)))
   | rw [M0]
   | refine U0 ?_ fun _ => ?_
   | (have q1 := D5 (by assumption) h; have q2 := D5 (by assumption) q1; have q3 := c0v (by assumption) q2; exact q3)
   | (have q1 := D5 (by assumption) h; have q2 := D5 (by assumption) q1; have q3 := c0v (by assumption) q2; have q4 := D5 (by assumption) q3; exact q4)
   | split
theorem c0W {d : Nat} {m : Machine} (h : d <= m.world.drawn) (p : Program) : UpM d (ask p m) := by
 unfold ask; split
 . split
   . exact trivial
   . rename_i hr
     have hl := b7n (D5 hr h) p m.gs m.rest; generalize look p m.gs m.rest _ = s at hl; cases s with
     | next m2 => exact a9y hl p
     | ended o w => exact trivial
   . exact a9y (m := { m with world := _ }) (D5 (by assumption) h) p
 . exact a9y h p
theorem c4P {d : Nat} {m : Machine} (h : d <= m.world.drawn) (p : Program) : UpM d (move p m) := by
 unfold move; repeat' first
   | exact trivial
   | exact h
   | exact c0W h p
   | (refine c0W ?_ p; exact h)
   | rw [M0]
   | refine U0 ?_ fun _ => ?_
   | split
theorem c4U {m m' : Machine} {p : Program} (h : step p m = .next m') : m.world.drawn <= m'.world.drawn := by
 have hm := c4P (Nat.le_refl m.world.drawn) p; unfold step stepT at h; generalize move p m = mv at hm h; cases mv with
 | goroutine m2 i =>
   have := c5r hm p i true; simp only [] at h; rw [h] at this; exact this
 | machine s ops =>
   simp only [] at h; subst h; exact hm
theorem c3E {m m' : Machine} {p : Program} (h : Steps p m m') : m.world.drawn <= m'.world.drawn := by
 obtain ⟨n, hn⟩ := h
 induction n generalizing m with
 | zero => simp only [runN, Stepped.next.injEq] at hn; rw [hn]; exact Nat.le_refl _
 | succ n ih =>
   simp only [runN] at hn; cases hs : step p m with
   | next m2 => rw [hs] at hn; exact Nat.le_trans (c4U hs) (ih hn)
   | ended o w => rw [hs] at hn; cases hn
theorem b5U {P : Program} {f : FuncId} {args : Array Value} {w : World} {R : Ending -> World -> Prop} (h : Calls P f args w R) : Calls P f args w (fun e w' => R e w' /\ ((∃ v, e = .returned v) -> w.drawn <= w'.drawn)) := by
 intro cs; obtain ⟨e, w', fr, h1, h2, h3⟩ := h cs; refine ⟨e, w', fr, ⟨h1, ?_⟩, h2, h3⟩; rintro ⟨v, rfl⟩; exact c3E h2
end Go.Vw
namespace Go.Vw
open Go.RowKit Go.Proofs Go.Sort
variable {P : Program} {f : FuncId}
theorem G1.post {args hs : List AV} {Post Post' : AV -> List AV -> Prop} (h : G1 P f args hs Post) (hp : ∀ r hs', Post r hs' -> Post' r hs') : G1 P f args hs Post' := by
 refine ⟨h.1, fun w L vals hl hg hr h1 h2 => (h.2 w L vals hl hg hr h1 h2).mono ?_⟩; rintro x w' ⟨v, L', og', r, hs', rfl, a1, a2, a3, a4, a5, a6, a7, a8⟩; exact ⟨v, L', og', r, hs', rfl, a1, a2, a3, a4, a5, a6, a7, hp _ _ a8⟩
theorem RH.hs_lt {w : World} {L : Nat -> Nat -> Prop} {u : Value} {e : TypeId} {l : List D} (h : RH P w L (.hs u e l)) {g : Nat} (hg : u.ownBlock = some g) : g < w.heap.size /\ ∀ q, ¬ L g q := by
 obtain ⟨_, h⟩ := h; have h' : F0 P w L u.ownBlock true e l u := h; refine ⟨?_, (h'.blk hg).2⟩; obtain ⟨css, sz, h1, h2, h3, h4, h5⟩ := h'; rcases h4.2 with ⟨hv, hn⟩ | ⟨g', cap, cur, hv, hh, _⟩
 . subst hv; cases hg
 . subst hv; have : g' = g := (by simpa [Value.ownBlock] using hg); subst this; exact (Array.getElem?_eq_some_iff.1 hh).1
theorem a6a (u : Value) (e : TypeId) (d d' : D) : C9 (.hb u e d') = C9 (.hb u e d) := by
 cases u <;> try rfl
 rename_i a; cases a <;> rfl
theorem a7J : ∀ {xs ys : List (Option Nat)}, J6 (xs ++ ys) -> J6 xs /\ J6 ys /\ ∀ g, some g ∈ xs -> some g ∉ ys
 | [], ys, h => ⟨trivial, h, fun g hg => by simp at hg⟩
 | x :: xs, ys, h => by
   obtain ⟨h1, h2, h3⟩ := a7J h.2; refine ⟨⟨fun g hg hm => h.1 g hg (mem_append.2 (.inl hm)), h1⟩, h2, fun g hg => ?_⟩; rcases mem_cons.1 hg with hg | hg
   . exact fun hm => h.1 g hg.symm (mem_append.2 (.inr hm))
   . exact h3 g hg
theorem G1.frzIn {args : List AV} {u : Value} {T : TypeId} {d d' : D} {zs hs2 : List AV} {Post : AV -> List AV -> Prop} (h : G1 P f args (.hb u T d' :: hs2) Post) (hargs : ∀ x ∈ args, ∃ y, x = .d y) (hz : ∀ z ∈ zs, ∃ u e l, z = .hs u e l) (hf : Fz zs d d') :
   G1 P f args (.hb u T d :: (zs ++ hs2)) Post := by
 refine ⟨h.1, fun w L vals hl hg hrc hrh hap => ?_⟩; have hrz : ∀ x ∈ zs, RH P w L x := fun x hx => hrh x (by simp [hx])
 have hap2 : J6 (zs.map C9 ++ hs2.map C9) := by rw [<- map_append]; exact hap.2
 obtain ⟨ha1, ha2, ha3⟩ := a7J hap2; have hW : ∀ b q, a5c P L zs b q -> L b q \/ some b ∈ zs.map C9 := by
   rintro b q (h | ⟨u', e', l', sz, hm, hbb, _⟩)
   . exact .inl h
   . exact .inr (mem_map.2 ⟨_, hm, hbb⟩)
 have hzb : ∀ g, some g ∈ zs.map C9 -> g < w.heap.size /\ ∀ q, ¬ L g q := fun g hg => by
   obtain ⟨z, hz1, hz2⟩ := mem_map.1 hg; obtain ⟨u1, e1, l1, rfl⟩ := hz z hz1; exact RH.hs_lt (hrz _ hz1) hz2
 have hS : H4 w L w (a5c P L zs) (fun c => some c ∈ zs.map C9) :=
   ⟨a3s _, fun _ _ _ => rfl, fun c q hc hne => ⟨fun hq => (hW c q hq).elim id fun h => absurd h hne, fun hq => .inl hq⟩⟩
 have hhb := (hrh (.hb u T d) (by simp)).2; obtain ⟨g, C, h1, h2, h3, h4, h5⟩ : Y4 w L (C9 (.hb u T d)) T d u := hhb; have hgz : some g ∉ zs.map C9 := fun hm => hap.1 g h1 (by rw [map_append]; exact mem_append.2 (.inl hm))
 refine (h.2 w (a5c P L zs) vals (fun b q hq => (hW b q hq).elim (hl b q) fun h => (hzb b h).1) (hg.mono (a3s _)) ?_ (fun x hx => ?_) ?_).mono ?_
 . clear h
   induction args generalizing vals with
   | nil => simpa [RCs] using hrc
   | cons y args ih =>
     simp only [RCs] at hrc ⊢; obtain ⟨v2, us2, rfl, h6, h7⟩ := hrc; obtain ⟨z, rfl⟩ := hargs y (by simp); exact ⟨v2, us2, rfl, RepV.mono (a3s zs) h6, ih (fun x hx => hargs x (by simp [hx])) _ h7⟩
 . rcases mem_cons.1 hx with rfl | hx
   . refine ⟨rfl, ?_⟩; refine ⟨g, C, (a6a u T d d').trans h1, h2, h3, Rep.fz hrz ha1 hf h4, fun o hL => ?_⟩; rcases hW g o hL with hL | hL
     . exact h5 o hL
     . exact hgz hL
   . refine RH.step hS (fun g' hg' => ?_) (hrh x (by simp [hx])); have hm : some g' ∈ hs2.map C9 := mem_map.2 ⟨x, hx, hg'⟩; refine ⟨?_, fun hc => ha3 g' hc hm⟩; exact RH.lt (hrh x (by simp [hx])) hg'
 . show J6 (C9 (.hb u T d') :: hs2.map C9)
   refine ⟨fun g' hg' hm => hap.1 g' ((a6a u T d d').symm.trans hg' |> fun e => by rw [a6a u T d d'] at hg'; exact hg') (by rw [map_append]; exact mem_append.2 (.inr hm)), ha2⟩
 . rintro x w' ⟨v, L', og', r, hs', rfl, hgr, hlok', hold', hog', hap', hres, hrh', hpost⟩; have hin : ∀ b, some b ∈ (AV.hb u T d' :: hs2).map C9 -> some b ∈ (AV.hb u T d :: (zs ++ hs2)).map C9 := fun b hb => by
     simp only [map_cons, map_append, mem_cons, mem_append] at hb ⊢; rcases hb with hb | hb
     . exact .inl (hb.trans (a6a u T d d'))
     . exact .inr (.inr hb)
   refine ⟨v, L', og', r, hs', rfl, hgr.sub hin, hlok', fun b q hb hn => ?_, fun g' hg' => ⟨(hog' g' hg').1, (hog' g' hg').2.imp id (hin g')⟩, hap', hres, hrh', hpost⟩; rw [hold' b q hb (fun hm => hn (hin b hm))]; exact ⟨fun hq => (hW b q hq).elim id fun h => absurd (by simp only [map_cons, map_append, mem_cons, mem_append]; exact .inr (.inl h)) hn, fun hq => .inl hq⟩
theorem G1.addNil {args hs : List AV} {Post Post' : AV -> List AV -> Prop} {e : TypeId} (he : ∃ sz, (P.info? (ety e)).map (·.size) = some sz) (h : G1 P f args hs Post) (hp : ∀ r hs', Post r hs' -> Post' r (hs' ++ [.hs (.slice none 0 0) e []])) : G1 P f args hs Post' := by
 refine ⟨h.1, fun w L vals hlok hgl hv hh ha => (h.2 w L vals hlok hgl hv hh ha).mono ?_⟩; rintro x w' ⟨v, L', og', r, hs', rfl, hgr, hlok', hold', hog', hap, hrc, hrh, hpost⟩; have hm : ∀ g, some g ∈ (hs' ++ [AV.hs (.slice none 0 0) e []]).map C9 -> some g ∈ hs'.map C9 := fun g hg => by
   simp only [map_append, map_cons, map_nil, mem_append, mem_singleton] at hg; rcases hg with hg | hg
   . exact hg
   . cases hg
 have happ : ∀ xs : List (Option Nat), J6 xs -> J6 (xs ++ [none]) := fun xs => by
   induction xs with
   | nil => intro _; exact ⟨fun g hg => (by cases hg), trivial⟩
   | cons x xs ih =>
     intro hx; refine ⟨fun g hg hm => ?_, ih hx.2⟩; rcases mem_append.1 hm with hm | hm
     . exact hx.1 g hg hm
     . simp at hm
 refine ⟨v, L', og', r, hs' ++ [.hs (.slice none 0 0) e []], rfl, hgr, hlok', hold', fun g hg => ?_, ?_, hrc, fun x hx => ?_, hp _ _ hpost⟩
 . rcases mem_cons.1 hg with hg | hg
   . exact hog' g (by simp [hg])
   . exact hog' g (mem_cons.2 (.inr (hm g hg)))
 . refine ⟨fun g hg hmm => hap.1 g hg (hm g hmm), ?_⟩; rw [map_append]; exact happ _ hap.2
 . rcases mem_append.1 hx with hx | hx
   . exact hrh x hx
   . simp only [mem_singleton] at hx; subst hx; obtain ⟨sz, hsz⟩ := he; refine ⟨rfl, [], sz, hsz, by simp [A8], by simp, ⟨by simp, .inl ⟨rfl, rfl⟩⟩, fun g hg => by cases hg⟩
def a9w : D -> Str
 | .str s => s
 | _ => []
theorem b0l {kt : TypeId} {k : D} (hk : P.underlying kt = some .string) (h : F4 P kt k = true) : ∃ s, k = .str s := by
 rcases Q9 h with ⟨h1, h2⟩ | ⟨xs, rfl, h1, h2⟩
 . rw [hk] at h1; cases k <;> simp [Q5] at h1
   exact ⟨_, rfl⟩
 . rw [(a4C h1).1] at hk; cases hk
theorem c8h {w : World} {L : Nat -> Nat -> Prop} {kt : TypeId} {m m' : List (D × D)} {b : Nat} {es : Array MapEntry} {clk : Nat} (h3 : w.heap[b]? = some (.map es clk)) (h5 : Perm m' m) (h6 : M5 w L m' es.toList) (h7 : (m.map (·.1)).Nodup) (h8 : ∀ p ∈ m, F4 P kt p.1 = true)
   (h9 : (es.toList.map (·.born)).Nodup) (h10 : ∀ e ∈ es.toList, e.born < clk) (hk : P.underlying kt = some .string) (hl : m.length <= maxLen) (hs : ∀ p ∈ m, (a9w p.1).length <= maxLen) :
   ∃ D0 : DataW Unit, w.ownsMap P kt (fun _ => some (.lit (.bool true), [])) b m.length D0 /\ Maps.size D0 = m.length /\ (strKeys D0).Perm (m.map fun p => a9w p.1) := by
 have hlen : es.toList.length = m.length := by rw [h6.len, h5.length_eq]
 have hsz : es.size = m.length := by rw [<- hlen, Array.length_toList]
 have hkey : ∀ e ∈ es.toList, ∃ s : Str, e.key = .string ⟨s.toArray⟩ /\ s.length <= maxLen := fun e he => by
   obtain ⟨i, hi⟩ := getElem?_of_mem he; obtain ⟨p, hp, k1, _⟩ := h6.get hi; have hpm : p ∈ m := h5.mem_iff.1 (mem_of_getElem? hp); have hf := h8 p hpm; have hle := hs p hpm; obtain ⟨pk, pv⟩ := p; obtain ⟨s0, rfl⟩ := b0l hk hf; exact ⟨_, k1.str_inv, hle⟩
 have hrd : ∀ e ∈ es.toList, ∀ s : Str, e.key = .string ⟨s.toArray⟩ -> s.length <= maxLen -> WideElems.rd P kt (fun _ => some ((.lit (.bool true) : DataW Unit), [])) e = some (.string s, .lit (.bool true)) := fun e he s h1 h2 => by
   have : keyOf P kt e.key = some (.string s) := by
     rw [h1, WideMaps.keyOf_string_mk hk (by simpa [ByteArray.size] using h2)]
   simp [WideElems.rd, this]
 refine ⟨_, ⟨es, clk, h3, ⟨by rw [hsz]; exact hl, ⟨h10, h9, ?_⟩, fun x hx => ?_⟩, by omega, rfl⟩, ?_, ?_⟩
 . -- no key twice
   have hn : (m'.map (·.1)).Nodup := (h5.map _).nodup_iff.2 h7; have hen : ∀ {m' : List (D × D)} {l : List MapEntry}, M5 w L m' l -> (m'.map (·.1)).Nodup -> (∀ p ∈ m', F4 P kt p.1 = true) -> (l.map (·.key)).Nodup := by
     intro m'
     induction m' with
     | nil => intro l h _ _; simp only [M5] at h; subst h; simp
     | cons p m' ih =>
       intro l h hn hf; obtain ⟨e, es', rfl, k1, k2, k3⟩ := h; rw [map_cons, nodup_cons] at hn ⊢; refine ⟨fun hm => hn.1 ?_, ih k3 hn.2 (fun q hq => hf q (by simp [hq]))⟩; obtain ⟨e2, he2, he3⟩ := mem_map.1 hm; obtain ⟨i, hi⟩ := getElem?_of_mem he2; obtain ⟨q, hq, k4, _⟩ := k3.get hi; have := b6N (hf q (by simp [mem_of_getElem? hq])) (hf p (by simp)) k4 k1 he3; exact mem_map.2 ⟨q, mem_of_getElem? hq, this⟩
   refine hen h6 hn (fun p hp => ?_); exact h8 p (h5.mem_iff.1 hp)
 . obtain ⟨s, k1, k2⟩ := hkey x hx; exact ⟨_, hrd x hx s k1 k2⟩
 . rw [Maps.size_eq, length_sorted]; simp [hsz]
 . show (List.map (fun p : Lit × DataW Unit => strOf p.1) _).Perm _
   refine ((WideShapes.sorted_perm _).map _).trans ?_; rw [map_map]; refine Perm.trans ?_ (h5.map _); refine Perm.of_eq ?_; have : ∀ {m' : List (D × D)} {l : List MapEntry}, M5 w L m' l -> (∀ p ∈ m', F4 P kt p.1 = true) -> (∀ e ∈ l, e ∈ es.toList) -> l.map ((fun p : Lit × DataW Unit => strOf p.1) ∘ WideElems.rg P kt (fun _ => some ((.lit (.bool true) : DataW Unit), []))) = m'.map fun p => a9w p.1 := by
     intro m'
     induction m' with
     | nil => intro l h _ _; simp only [M5] at h; subst h; rfl
     | cons p m' ih =>
       intro l h hf hm; obtain ⟨e, es', rfl, k1, k2, k3⟩ := h; obtain ⟨s, k4, k5⟩ := hkey e (hm e (by simp)); rw [map_cons, map_cons, ih k3 (fun q hq => hf q (by simp [hq])) (fun e he => hm e (by simp [he]))]; congr 1
       have hp : p.1 = .str s := by
         have hfp := hf p (by simp); obtain ⟨pk, pv⟩ := p; obtain ⟨s0, e0⟩ := b0l hk hfp; simp only at e0; subst e0; have := k1.str_inv; rw [k4] at this; simp only [Value.string.injEq, ByteArray.mk.injEq] at this; have := congrArg Array.toList this; simp only [] at this; rw [this]
       simp only [Function.comp_apply, WideElems.rg_of (hrd e (hm e (by simp)) s k4 k5), strOf, hp, a9w]
   exact this h6 (fun p hp => h8 p (h5.mem_iff.1 hp)) (fun e he => he)
def a8P (g q : Nat) : Value := .func (.func g) #[] #[.pointer (some ⟨q, 0, none⟩)]
end Go.Vw
namespace Go.Vw
open Go.RowKit Go.Proofs
variable {P : Program} {F : Nat -> Bool} {w0 : World} {L0 : Nat -> Nat -> Prop} {row : Nat -> Prop} {n : Nat} {K : St -> Prop} {Q : Exit -> Act -> World -> Prop}
 {w w' : World} {L L' : Nat -> Nat -> Prop} {O O' : Nat -> Option Nat} {σ σ' : St} {a : Act} {o : Oper} {d : Nat} {v : Value} {tm : Nat -> Value}
def b7X : AV -> Option D
 | .box d => some d
 | _ => none
@[simp] theorem d0F (d : D) : b7X (.box d) = some d := rfl
def a0Z (P : Program) (σ : St) (r : ResultVar) (y : AV) : Prop :=
 match r with
 | .tmp t => y = .undef \/ ∃ x, y = .d x /\ asD (σ t) = some x
 | .cell t ty => ∃ x, y = .d x /\ b7X (σ t) = some x /\ tyk P ty = some (x.isAgg, C0 x)
def T3 (P : Program) (σ : St) : List ResultVar -> List AV -> Prop
 | [], ys => ys = []
 | r :: rs, ys => match ys with
   | y :: ys => a0Z P σ r y /\ T3 P σ rs ys
   | [] => False
def b4s (P : Program) (σ : St) (r : ResultVar) (y : AV) : Prop :=
 match r with
 | .tmp t => Z3 (σ t) y
 | .cell t ty => a0Z P σ (.cell t ty) y
def a1U : List AV -> AV
 | [y] => y
 | ys => .tup ys
def a3F : List Value -> Value
 | [v] => v
 | vs => .tuple vs.toArray
def b5s (P : Program) (r : ResultVar) (rs : List ResultVar) (y : AV) (ys : List AV) : Exit -> St -> Prop := fun e σ => (e = .ret \/ e = .normal) /\ b4s P σ r y /\ T3 P σ rs ys
def b0n (P : Program) (rs : List ResultVar) (Post : AV -> List AV -> Prop) : Exit -> St -> Prop := fun e σ => (e = .ret \/ e = .normal) /\ ∃ (ys : List AV) (ks : List Nat), ks.Nodup /\ (∀ k ∈ ks, isH (σ k) = true) /\ T3 P σ rs ys /\ Post (a1U ys) (ks.map σ)
def evR (tmps : Array Value) : ResultVar -> Sem Value
 | .tmp t => pure (tmps.getD t undef)
 | .cell a t => do loadVar t (<- asAddr (tmps.getD a undef))
def evs (P : Program) (w : World) (tmps : Array Value) : List ResultVar -> List Value -> Prop
 | [], vs => vs = []
 | r :: rs, vs => match vs with
   | v :: vs => (evR tmps r).run P w = .ok v w /\ evs P w tmps rs vs
   | [] => False
theorem b6g (fn : Func) (tmps : Array Value) : results fn tmps = (do
   let vs <- fn.results.mapM (evR tmps)
   pure (if h : vs.size = 1 then vs[0] else .tuple vs)) := by
 unfold results; congr 1
theorem a8U {fn : Func} {rs : List ResultVar} {vs : List Value} (h : fn.results = rs.toArray) (hl : rs.length <= 4) {tmps : Array Value} (he : evs P w tmps rs vs) : (results fn tmps).run P w = .ok (a3F vs) w := by
 rw [b6g, h]
 match rs, vs, he with
 | [], vs, he => simp only [evs] at he; subst he; simp [a3F]
 | [a], [x], he =>
   simp only [evs] at he; simp [he.1, a3F]
 | [a, b], [x, y], he =>
   simp only [evs] at he; simp [he.1, he.2.1, a3F]
 | [a, b, c], [x, y, z], he =>
   simp only [evs] at he; simp [he.1, he.2.1, he.2.2.1, a3F]
 | [a, b, c, d], [x, y, z, u], he =>
   simp only [evs] at he; simp [he.1, he.2.1, he.2.2.1, he.2.2.2.1, a3F]
 | _ :: _ :: _ :: _ :: _ :: _, _, _ => simp at hl
 | [_], [], he => exact he.elim
 | [_], _ :: _ :: _, he => simp only [evs] at he; exact absurd he.2 (by simp)
 | [_, _], [], he => exact he.elim
 | [_, _], [_], he => simp only [evs] at he; exact he.2.elim
 | [_, _], _ :: _ :: _ :: _, he => simp only [evs] at he; exact absurd he.2.2 (by simp)
 | [_, _, _], [], he => exact he.elim
 | [_, _, _], [_], he => simp only [evs] at he; exact he.2.elim
 | [_, _, _], [_, _], he => simp only [evs] at he; exact he.2.2.elim
 | [_, _, _], _ :: _ :: _ :: _ :: _, he => simp only [evs] at he; exact absurd he.2.2.2 (by simp)
 | [_, _, _, _], [], he => exact he.elim
 | [_, _, _, _], [_], he => simp only [evs] at he; exact he.2.elim
 | [_, _, _, _], [_, _], he => simp only [evs] at he; exact he.2.2.elim
 | [_, _, _, _], [_, _, _], he => simp only [evs] at he; exact he.2.2.2.elim
 | [_, _, _, _], _ :: _ :: _ :: _ :: _ :: _, he => simp only [evs] at he; exact absurd he.2.2.2.2 (by simp)
theorem b7s (hR : Rel P w0 L0 row w L O σ (C6 a)) {r : ResultVar} {y : AV} (h : a0Z P σ r y) : ∃ v, (evR a.tmps r).run P w = .ok v w /\ (y = .undef \/ ∃ x, y = .d x /\ RepV w L x v) := by
 cases r with
 | tmp t =>
   refine ⟨C6 a t, rfl, ?_⟩; rcases h with h | ⟨x, h1, h2⟩
   . exact .inl h
   . exact .inr ⟨x, h1, RA.asD hR.slots (hR.slots t) h2⟩
 | cell t ty =>
   obtain ⟨x, rfl, h1, h2⟩ := h; have h3 := hR.slots t; have hb : ∃ g C e, C6 a t = ptr g 0 /\ w.heap[g]? = some (.cells C e (0, 0)) /\ Rep w L x C.toList := by
     unfold b7X at h1; split at h1
     . rename_i y hx
       rw [hx] at h3; simp only [Option.some.injEq] at h1; subst h1; obtain ⟨g, C, e, g1, g2, g3, g4, _⟩ : a5v w L (O t) y (C6 a t) := h3; exact ⟨g, C, e, g2, g3, g4⟩
     . cases h1
   obtain ⟨g, C, e, g1, g2, g3⟩ := hb; obtain ⟨v, hv, hr⟩ := a8V (off := 0) h2 g3 (b := g) (fun k u hk => by
     simp only [World.cell?, g2]; simpa using hk)
   refine ⟨v, ?_, .inr ⟨x, rfl, hr⟩⟩; have g1' : a.tmps.getD t undef = .pointer (some ⟨g, 0, none⟩) := g1; simp [evR, g1', asAddr, hv]
theorem a9B (hR : Rel P w0 L0 row w L O σ (C6 a)) : ∀ {rs : List ResultVar} {ys : List AV}, T3 P σ rs ys -> ∃ vs, evs P w a.tmps rs vs /\ ∀ (L' : Nat -> Nat -> Prop), Ext w L w L' -> ∀ og, RCs P w L' og ys vs
 | [], ys, h => by
   simp only [T3] at h; subst h; exact ⟨[], by simp [evs], fun _ _ _ => by simp [RCs]⟩
 | r :: rs, [], h => h.elim
 | r :: rs, y :: ys, h => by
   obtain ⟨h1, h2⟩ := h; obtain ⟨v, hv, hy⟩ := b7s hR h1; obtain ⟨vs, hvs, hys⟩ := a9B hR h2; refine ⟨v :: vs, ⟨hv, hvs⟩, fun L' hx og => ?_⟩; simp only [RCs]; refine ⟨v, vs, rfl, ?_, hys L' hx og⟩; rcases hy with rfl | ⟨x, rfl, hr⟩
   . simp [RC]
   . simp only [RC]; exact hr.mono hx
theorem RCs.pack {og : Option Nat} : ∀ {ys : List AV} {vs : List Value}, RCs P w L og ys vs -> RC P w L og (a1U ys) (a3F vs)
 | [], vs, h => by simp only [RCs] at h; subst h; simp only [a1U, a3F, RC]; exact ⟨[], rfl, by simp [RCs]⟩
 | [y], vs, h => by
   simp only [RCs] at h; obtain ⟨v, us, rfl, h1, rfl⟩ := h; exact h1
 | y :: z :: ys, vs, h => by
   have h' := h; simp only [RCs] at h; obtain ⟨v, us, rfl, h1, u, us2, rfl, h2, h3⟩ := h; simp only [a1U, a3F, RC]; exact ⟨_, rfl, h'⟩
theorem G6 {f : FuncId} {fn : Func} {c : Code} {args : List AV} {rv : ResultVar} {rs : List ResultVar} {r : AV} {ys : List AV} (F : Nat -> Bool) (hm : P.follows .mixedOrders = true) (hf : P.funcs[f]? = some fn) (hname : (fn.name == "runtime.NumGoroutine") = false) (hb : fn.body = some c)
   (hres : fn.results = (rv :: rs).toArray) (hl : rs.length <= 3) (hargs : args.length <= fn.ntmps) (hok : a1D F fn.ntmps c = true) (harg : (args.all b0u) = true) (hone : a4o args = true)
   (h : vwp P F c (b5s P rv rs r ys) (a5d args)) : Ctr P f args (a1U (r :: ys)) := by
 refine ⟨enters_of hf hname hb, fun w L og vals hlok hgl hog hrc => ?_⟩; have hlen := hrc.length; refine calls_of_wp hf hb (wp_mono (a1P (n := fn.ntmps) hm c _ _ w hok ⟨L, _, a5d args, b4R hlok hgl hog hrc harg hone, rfl, ?_, h⟩) ?_)
 . simp; omega
 . rintro e a' w' ⟨L', O', σ', hR, hdef, hsz, he, hr, hy⟩; obtain ⟨v, L2, og2, hv, h1, h2, h3, h5, h4⟩ : ∃ v L2 og2, (evR a'.tmps rv).run P w' = .ok v w' /\ (∀ b q, L2 b q -> b < w'.heap.size) /\ (∀ b q, b < w.heap.size -> ¬ H1 og b -> (L2 b q ↔ L b q)) /\
       (∀ g, og2 = some g -> g < w'.heap.size /\ (w.heap.size <= g \/ H1 og g)) /\ Ext w' L' w' L2 /\ RC P w' L2 og2 r v := by
     cases rv with
     | tmp t =>
       obtain ⟨L2, og2, h1, h2, h3, h5, h4⟩ := b7p hR (show Z3 (σ' t) r from hr); exact ⟨C6 a' t, L2, og2, rfl, h1, h2, h3, h5, h4⟩
     | cell t ty =>
       obtain ⟨v, hv, hx⟩ := b7s hR (show a0Z P σ' (.cell t ty) r from hr); refine ⟨v, L', none, hv, hR.lok, hR.old, by simp, fun _ _ h => ⟨h, fun _ hv => hv⟩, ?_⟩; rcases hx with rfl | ⟨x, rfl, hrx⟩
       . simp [RC]
       . simpa only [RC] using hrx
   obtain ⟨vs, hvs, hys⟩ := a9B hR hy; have h6 : RCs P w' L2 og2 (r :: ys) (v :: vs) := by
     simp only [RCs]; exact ⟨v, vs, rfl, h4, hys L2 h5 og2⟩
   have hrun := a8U (vs := v :: vs) hres (by simp; omega) (show evs P w' a'.tmps (rv :: rs) (v :: vs) from ⟨hv, hvs⟩); have hfin : a'.defers = [] /\ ∃ v, (results fn a'.tmps).run P w' = .ok v w' /\ (∃ v' L' og', Ending.returned v = .returned v' /\ F7 w w' (H1 og) /\ (∀ b q, L' b q -> b < w'.heap.size) /\ (∀ b q, b < w.heap.size -> ¬ H1 og b -> (L' b q ↔ L b q)) /\
       (∀ g, og' = some g -> g < w'.heap.size /\ (w.heap.size <= g \/ og = some g)) /\ RC P w' L' og' (a1U (r :: ys)) v') :=
     ⟨hdef, _, hrun, _, L2, og2, rfl, hR.grown, h1, h2, h3, h6.pack⟩
   rcases he with rfl | rfl
   . exact hfin
   . exact hfin
theorem a1O {f : FuncId} {fn : Func} {c : Code} {args hs : List AV} {rs : List ResultVar} {Post : AV -> List AV -> Prop} (F : Nat -> Bool) (hm : P.follows .mixedOrders = true) (hf : P.funcs[f]? = some fn) (hname : (fn.name == "runtime.NumGoroutine") = false) (hb : fn.body = some c)
   (hres : fn.results = rs.toArray) (hl : rs.length <= 4) (hargs : args.length <= fn.ntmps) (hok : a1D F fn.ntmps c = true) (harg : (args.all b8W) = true)
   (h : vwp P F c (b0n P rs Post) (A5 args hs)) : G1 P f args hs Post := by
 refine ⟨enters_of hf hname hb, fun w L vals hlok hgl hrc hh hap => ?_⟩; have hlen := hrc.length; refine calls_of_wp hf hb (wp_mono (a1P (n := fn.ntmps) hm c _ _ w hok ⟨L, _, A5 args hs, b3k hlok hgl hrc harg hh hap (fun x hx g hg => (hh x hx).lt hg), rfl, ?_, h⟩) ?_)
 . simp; omega
 . rintro e a' w' ⟨L', O', σ', hR, hdef, hsz, he, ys, ks, hnd, hks, hr, hpost⟩; have hks' : ∀ k ∈ ks, RH P w' L' (σ' k) /\ ∀ g, C9 (σ' k) = some g -> O' k = some g := by
     intro k hk; have hs := hR.slots k; have hH := hks k hk; have hrc : RC P w' L' (O' k) (σ' k) (C6 a' k) := by
       cases hx : σ' k <;> rw [hx] at hs hH <;> simp [isH] at hH <;> exact hs
     exact hrc.self hH
   have hmap : ∀ g, some g ∈ (ks.map σ').map C9 -> ∃ k ∈ ks, O' k = some g := by
     intro g hg; simp only [map_map, mem_map, Function.comp_apply] at hg; obtain ⟨k, hk, hg⟩ := hg; exact ⟨k, hk, (hks' k hk).2 g hg⟩
   have hapart : ∀ (l : List Nat), l.Nodup -> (∀ k ∈ l, ∀ g, C9 (σ' k) = some g -> O' k = some g) -> J6 ((l.map σ').map C9) := by
     intro l
     induction l with
     | nil => intro _ _; trivial
     | cons k l ih =>
       intro hn ho; rw [nodup_cons] at hn; refine ⟨fun g hg hm => ?_, ih hn.2 (fun k hk => ho k (by simp [hk]))⟩; simp only [map_map, mem_map, Function.comp_apply] at hm; obtain ⟨k', hk', hg'⟩ := hm; have e1 := ho k (by simp) g hg; have e2 := ho k' (by simp [hk']) g hg'; exact hn.1 (by rw [hR.inj k k' g e1 e2]; exact hk')
   obtain ⟨vs, hvs, hys⟩ := a9B hR hr; have hrun := a8U hres hl hvs; have hrc := (hys L' (fun _ _ h => ⟨h, fun _ hv => hv⟩) none).pack; have hfin : a'.defers = [] /\ ∃ v, (results fn a'.tmps).run P w' = .ok v w' /\ (∃ v' L' og r hs', Ending.returned v = .returned v' /\ F7 w w' (fun b => some b ∈ hs.map C9) /\ (∀ b q, L' b q -> b < w'.heap.size) /\ (∀ b q, b < w.heap.size -> some b ∉ hs.map C9 -> (L' b q ↔ L b q)) /\
     (∀ g, some g ∈ og :: hs'.map C9 -> g < w'.heap.size /\ (w.heap.size <= g \/ some g ∈ hs.map C9)) /\ J6 (og :: hs'.map C9) /\ RC P w' L' og r v' /\ (∀ x ∈ hs', RH P w' L' x) /\ Post r hs') := by
     refine ⟨hdef, _, hrun, _, L', none, a1U ys, ks.map σ', rfl, hR.grown, hR.lok, hR.old, fun g hg => ?_, ⟨fun g hg hm => (by cases hg), hapart ks hnd (fun k hk => (hks' k hk).2)⟩, hrc, fun x hx => ?_, hpost⟩
     . rcases mem_cons.1 hg with hg | hg
       . cases hg
       . obtain ⟨k, _, hk⟩ := hmap g hg; exact hR.olt k g hk
     . obtain ⟨k, hk, rfl⟩ := mem_map.1 hx; exact (hks' k hk).1
   rcases he with rfl | rfl
   . exact hfin
   . exact hfin
section
variable {rs : List ResultVar} {r : ResultVar} {y : AV} {ys : List AV} {t : Nat} {ty : TypeId}
@[simp] theorem d0x : b5s P r rs y ys .ret σ = (b4s P σ r y /\ T3 P σ rs ys) := by simp [b5s]
@[simp] theorem c7d : b5s P r rs y ys .normal σ = (b4s P σ r y /\ T3 P σ rs ys) := by simp [b5s]
@[simp] theorem c8C (Post : AV -> List AV -> Prop) : b0n P rs Post .ret σ = ∃ (ys : List AV) (ks : List Nat), ks.Nodup /\ (∀ k ∈ ks, isH (σ k) = true) /\ T3 P σ rs ys /\ Post (a1U ys) (ks.map σ) := by simp [b0n]
@[simp] theorem c5Z (Post : AV -> List AV -> Prop) : b0n P rs Post .normal σ = ∃ (ys : List AV) (ks : List Nat), ks.Nodup /\ (∀ k ∈ ks, isH (σ k) = true) /\ T3 P σ rs ys /\ Post (a1U ys) (ks.map σ) := by simp [b0n]
@[simp] theorem c8z : T3 P σ [] ys = (ys = []) := rfl
@[simp] theorem c8m : T3 P σ (r :: rs) (y :: ys) = (a0Z P σ r y /\ T3 P σ rs ys) := rfl
@[simp] theorem d0d (x : D) : a0Z P σ (.tmp t) (.d x) = (asD (σ t) = some x) := by simp [a0Z]
@[simp] theorem c8I : a0Z P σ (.tmp t) .undef = True := by simp [a0Z]
@[simp] theorem c9p (x : D) : a0Z P σ (.cell t ty) (.d x) = (b7X (σ t) = some x /\ tyk P ty = some (x.isAgg, C0 x)) := by simp [a0Z]
@[simp] theorem d0B : b4s P σ (.tmp t) y = Z3 (σ t) y := rfl
@[simp] theorem c8W : b4s P σ (.cell t ty) y = a0Z P σ (.cell t ty) y := rfl
@[simp] theorem c9N : a1U [y] = y := rfl
@[simp] theorem c9j : a1U [] = .tup [] := rfl
@[simp] theorem c7k (z : AV) : a1U (y :: z :: ys) = .tup (y :: z :: ys) := rfl
end
end Go.Vw
namespace Go.Vw
open Go.RowKit Go.Proofs Go.Sort
theorem b8H {w w' : World} (h : F7 w w' noB) : ∃ q os', w' = grow (w.drewN q) os' := by
 refine ⟨w'.drawn - w.drawn, w'.heap.extract w.heap.size w'.heap.size, ?_⟩; have hh : w'.heap = w.heap ++ w'.heap.extract w.heap.size w'.heap.size := by
   apply Array.ext_getElem?
   intro i; rw [Array.getElem?_append]; split
   . rename_i hi; exact h.block i hi id
   . rename_i hi
     rw [Array.getElem?_extract]; split
     . congr 1; omega
     . rename_i h2
       rw [Array.getElem?_eq_none]; simp at h2; omega
 obtain ⟨he, ta, dr, os, ou⟩ := w'; have h1 := h.os; have h2 := h.tape; have h3 := h.output; have h4 := h.drawn; simp only at h1 h2 h3 h4 hh ⊢; subst h1 h2 h3; unfold grow World.drewN; simp only [World.mk.injEq]; refine ⟨hh, trivial, by omega, trivial, trivial⟩
def N7 {α : Type} [Inhabited α] (cf : α -> α -> Int) (l : List α) : List α := (pdq (ltOf cf) l.toArray 0 l.length (Lib.bitLen l.length) true true).toList
theorem U4 {α : Type} [Inhabited α] {cf : α -> α -> Int} (hO : SWO (ltOf cf)) (l : List α) : (N7 cf l).Perm l /\ ∀ i j (hij : i < j) (hj : j < (N7 cf l).length), ltOf cf (N7 cf l)[j] ((N7 cf l)[i]'(by omega)) = false := by
 have h := pdq_sorts (ltOf cf) hO l.toArray 0 l.length (Lib.bitLen l.length) true true (Nat.zero_le _) (by simp) (Or.inl rfl); obtain ⟨⟨h1, h2, h3⟩, h4⟩ := h; have hs : (N7 cf l).length = l.length := (by simpa [N7] using h1); refine ⟨?_, fun i j hij hj => ?_⟩
 . have e1 : (pdq (ltOf cf) l.toArray 0 l.length (Lib.bitLen l.length) true true).extract 0 l.length = pdq (ltOf cf) l.toArray 0 l.length (Lib.bitLen l.length) true true := by
     apply Array.extract_eq_self_of_le; rw [h1]; simp
   rw [e1] at h3; simpa [N7] using h3
 . have := h4 i j (Nat.zero_le _) hij (by omega); have hj' : j < (pdq (ltOf cf) l.toArray 0 l.length (Lib.bitLen l.length) true true).size := (by simpa [N7] using hj); rw [getElem!_pos _ j hj', getElem!_pos _ i (by omega)] at this; simpa [N7] using this
structure c3X {α : Type} (dat : α -> D) (enc : α -> List Value) (k : Nat) : Prop where
 agg : ∀ x, (dat x).isAgg = true
 rep : ∀ w L x cs, Rep w L (dat x) cs ↔ cs = enc x
 len : ∀ x, (enc x).length = k
 one : ∀ x, ∀ v ∈ enc x, v.oneCell' = true
theorem c3X.only {α : Type} {dat : α -> D} {enc : α -> List Value} {k : Nat} (h : c3X dat enc k) {w : World} {L : Nat -> Nat -> Prop} : ∀ {l : List α} {css : List (List Value)}, A8 w L (l.map dat) css -> css = l.map enc
 | [], css, hr => by simpa [A8] using hr
 | s :: l, css, hr => by
   simp only [map_cons, A8] at hr; obtain ⟨c, cs, rfl, h1, h2⟩ := hr; rw [(h.rep w L s c).1 h1, h.only h2]; rfl
structure a8B {α : Type} (dat : α -> D) (enc : α -> Value) : Prop where
 agg : ∀ x, (dat x).isAgg = false
 vagg : ∀ x, K7 (enc x) = false
 rep : ∀ w L x cs, Rep w L (dat x) cs ↔ cs = [enc x]
 one : ∀ x, (enc x).oneCell' = true
theorem a8B.reps {α : Type} {dat : α -> D} {enc : α -> Value} (h : a8B dat enc) (w : World) (L : Nat -> Nat -> Prop) : ∀ (l : List α), A8 w L (l.map dat) (l.map fun x => [enc x])
 | [] => by simp [A8]
 | s :: l => by
   simp only [map_cons, A8]; exact ⟨_, _, rfl, (h.rep w L s _).2 rfl, h.reps w L l⟩
theorem a8B.only {α : Type} {dat : α -> D} {enc : α -> Value} (h : a8B dat enc) {w : World} {L : Nat -> Nat -> Prop} : ∀ {l : List α} {css : List (List Value)}, A8 w L (l.map dat) css -> css = l.map fun x => [enc x]
 | [], css, hr => by simpa [A8] using hr
 | s :: l, css, hr => by
   simp only [map_cons, A8] at hr; obtain ⟨c, cs, rfl, h1, h2⟩ := hr; rw [(h.rep w L s c).1 h1, h.only h2]; rfl
theorem a8j {α : Type} (enc : α -> Value) (l : List α) : (l.map fun x => [enc x]).flatten = l.map enc := by
 induction l with
 | nil => rfl
 | cons x l ih => simp [ih]
theorem c1x : a8B D.str (fun s => Value.string ⟨s.toArray⟩) where
 agg _ := rfl
 vagg _ := rfl
 rep w L x cs := by simp [Rep]
 one x := by simp [Value.oneCell']
theorem b8c {P : Program} {ρ : Go.Shelf.Ren} (L6 : SlLaysF.n6 P ρ) {α : Type} [Inhabited α]
   (e : TypeId) (he : (P.info? (ety e)).map (·.size) = some 1) (hE : Enters P (ρ.f 6))
   (dat : α -> D) (enc : α -> Value) (hF : a8B dat enc) (cf : α -> α -> Int) (hO : SWO (ltOf cf)) (g : FuncId) (caps : List D) (hc : ∀ c ∈ caps, c.isAgg = false)
   (hcf : ∀ x y, Ctr P g ([.d (dat x), .d (dat y)] ++ caps.map .d) (.d (.int .i64 (cf x y))))
   (hnone : ∀ w cb, Calls P (ρ.f 6) #[.slice none 0 0, .func (.func g) #[] cb] w fun e w' => e = .returned (.tuple #[]) /\ w' = w)
   (l : List α) (hl : l.length < 1000000) : a5Z P (ρ.f 6) e (l.map dat) [.d (.clo g caps)] ((N7 cf l).map dat) := by
 refine ⟨hE, fun w L og v vals hlok hgl hown hrc => ?_⟩; simp only [RCs] at hrc; obtain ⟨cv, us, rfl, hc1, rfl⟩ := hrc; simp only [RC] at hc1; obtain ⟨ccs, hcc, rfl⟩ := a2k hc1; obtain ⟨css0, sz0, g1, g2, g3, g4, g5⟩ := id hown; rcases g4.2 with ⟨hv, hn⟩ | ⟨b, cap, cur, hv, _⟩
 . have hl0 : l = [] := (by simpa using hn); subst hl0; subst hv; refine (hnone w ccs.flatten.toArray).mono ?_; rintro e w' ⟨rfl, rfl⟩; have hnil : N7 cf [] = [] := Perm.eq_nil (U4 hO []).1; exact ⟨L, rfl, F7.refl _ _, hlok, fun _ _ _ _ => Iff.rfl, by rw [hnil]; exact hown⟩
 . subst hv; obtain ⟨css, h1, h2, h3, h4, h5⟩ := hown.holds; have hcss := hF.only h1; subst hcss; have C9 := hown.blk (g := b) rfl; have hH : Holds enc w b 0 l.toArray := fun j hj => by
     have h3' := h3 j (by rw [a8j]; simpa using hj); rw [a8j] at h3'; have : (l.map enc).toArray[j]! = enc l.toArray[j]! := by
       have hj' : j < l.length := (by simpa using hj); rw [getElem!_pos _ j (by simpa using hj'), getElem!_pos _ j (by simpa using hj')]; simp
     rw [this] at h3'; exact h3'
   have hW : ∀ m (os : Array Obj) (dk : Array α), sortWorld enc w b 0 m dk os = M1 w b m (dk.map enc) os := fun m os dk => by
     unfold M1 sortWorld; rw [a6f]
   have hcmp : CmpLays1 P g ccs.flatten.toArray enc cf b 0 l.toArray.size w := fun m os dk hdk x y => by
     rw [hW]; generalize dk.map enc = F; have hlok2 : ∀ c q, L c q -> c < (M1 w b m F os).heap.size := fun c q hq => by rw [a4v]; have := hlok c q hq; omega
     have hext : Ext w L (M1 w b m F os) L := fun c q hq => ⟨hq, fun v hv => by
       have hne : c ≠ b := fun e => by subst e; exact C9.2 q hq
       rw [J4 (a3C w b m F os (hlok c q hq) hne)]; exact hv⟩
     have hrep : ∀ z, RepV (M1 w b m F os) L (dat z) (enc z) := fun z => RepV.of_cell ((hF.rep _ _ z _).2 rfl) (hF.agg z) (hF.vagg z)
     have := (hcf x y).2 (M1 w b m F os) L none ([enc x, enc y] ++ ccs.flatten) hlok2 (hgl.mono hext) (by simp) (RCs.append (by
       simp only [RCs]; exact ⟨_, _, rfl, hrep x, _, _, rfl, hrep y, rfl⟩) (a1g (A8.mono hext _ _ hcc) hc none))
     have hargs : (#[enc x, enc y] ++ ccs.flatten.toArray : Array Value) = ([enc x, enc y] ++ ccs.flatten).toArray := by apply Array.ext'; simp
     rw [hargs]; refine Calls.mono this ?_; rintro e w' ⟨v, L', og', rfl, hgr, _, _, _, hv⟩; obtain rfl := RepV.int_inv (show RepV w' L' (.int .i64 (cf x y)) v from hv); rw [noB_eq] at hgr; exact ⟨rfl, b8H hgr⟩
   have eg : ∀ args w, (callFunc g args).run P w = .ok (.enter g args) w := (hcf default default).1; have h := Any.slices_SortFunc_eq L6 enc (fun x => hF.one x) cf hO g ccs.flatten.toArray b 0 cap l.toArray w eg hcmp hH h4 (by simp; omega); simp only [size_toArray] at h; rw [length_map]; refine h.mono ?_; rintro e' w' ⟨rfl, n, os, rfl⟩; have hp := (U4 hO l).1; have hlen : (N7 cf l).length = l.length := hp.length_eq; have hs := hown.sorted hlok (hF.reps w L (N7 cf l)) (by simp [hlen]) (fun sz hsz c hc => by
     obtain ⟨s, _, rfl⟩ := mem_map.1 hc; rw [he] at hsz; simpa using hsz) n os (F := ((N7 cf l).map enc).toArray) (by rw [a8j])
   rw [length_map] at hs; rw [hW]; have e2 : (pdq (ltOf cf) l.toArray 0 l.length (Lib.bitLen l.length) true true).map enc = ((N7 cf l).map enc).toArray := by
     apply Array.ext'
     simp [N7]
   rw [e2]; refine ⟨L, rfl, ?_, hs.2.2, fun _ _ _ _ => Iff.rfl, hs.1⟩; rw [C9.1]; exact hs.2.1
end Go.Vw
namespace Go.Vw
open Go.RowKit Go.ChangeShapes Go.WideShapes
inductive Sh where
 | bool
 | int (k : IntKind)
 | str
 | sl (s : Sh)
 | agg (l : List Sh)
mutual
def Sh.okB (P : Program) : Sh -> TypeId -> Bool
 | .bool, t => match P.underlying t with
   | some .bool => true
   | _ => false
 | .int k, t => match P.underlying t with
   | some (.int k') => decide (k' = k)
   | _ => false
 | .str, t => match P.underlying t with
   | some .string => true
   | _ => false
 | .sl s, t => match P.underlying t with
   | some (.slice e) => Sh.okB P s e
   | _ => false
 | .agg l, t => match P.underlying t with
   | some (.struct fs) => Sh.okBs P l fs.toList
   | _ => false
def Sh.okBs (P : Program) : List Sh -> List Field -> Bool
 | [], fs => fs.isEmpty
 | s :: l, fs => match fs with
   | f :: fs => Sh.okB P s f.type && Sh.okBs P l fs
   | [] => false
end
mutual
def Sh.Fits : Sh -> D -> Prop
 | .bool, d => ∃ b, d = .bool b
 | .int k, d => ∃ n, d = .int k n /\ (Lit.int k n).wf = true
 | .str, d => ∃ s : Str, d = .str s /\ List.length s <= maxLen
 | .sl s, d => ∃ ds, d = .sl ds /\ ds.length <= maxLen /\ ∀ x ∈ ds, Sh.Fits s x
 | .agg l, d => ∃ ds, d = .agg ds /\ Sh.FitsL l ds
def Sh.FitsL : List Sh -> List D -> Prop
 | [], ds => ds = []
 | s :: l, ds => ∃ x xs, ds = x :: xs /\ Sh.Fits s x /\ Sh.FitsL l xs
end
mutual
def toD {H : Type} : DataW H -> D
 | .lit (.bool b) => .bool b
 | .lit (.int k n) => .int k n
 | .lit (.string s) => .str s
 | .lit _ => .nilp
 | .nil => .sl []
 | .slice e _ => .sl (a6X e)
 | .agg p => .agg (a6X p)
 | .ptr d => .ref (toD d)
 | _ => .nilp
def a6X {H : Type} : List (DataW H) -> List D
 | [] => []
 | d :: l => toD d :: a6X l
end
theorem a4G {H : Type} : ∀ (l : List (DataW H)), a6X l = l.map toD
 | [] => by simp [a6X]
 | d :: l => by simp [a6X, a4G l]
mutual
def D.bulk : D -> Nat
 | .str s => List.length s + 1
 | .sl ds => D.bulks ds + 1
 | .agg ds => D.bulks ds + 1
 | .ref d => D.bulk d + 1
 | _ => 1
def D.bulks : List D -> Nat
 | [] => 0
 | d :: ds => D.bulk d + D.bulks ds
end
section
variable {H : Type} {u : DataW H -> Nat} {ua : List (DataW H) -> Nat}
mutual
theorem b6T (h1 : ∀ x : DataW H, 1 <= u x) (h2 : ∀ s, u (.lit (.string s)) = s.length + 1) (h3 : ∀ e r, u (.slice e r) = ua e + ua r + 1) (h4 : ∀ p, u (.agg p) = ua p + 1) (h5 : ∀ d, u (.ptr d) = u d + 1)
   (h6 : ua [] = 0) (h7 : ∀ d l, ua (d :: l) = u d + ua l) : ∀ d : DataW H, (toD d).bulk <= u d
 | .lit (.bool b) => by simpa [toD, D.bulk] using h1 _
 | .lit (.int k n) => by simpa [toD, D.bulk] using h1 _
 | .lit (.string s) => by simp [toD, D.bulk, h2]
 | .lit (.float _ _) => by simpa [toD, D.bulk] using h1 _
 | .lit .nil => by simpa [toD, D.bulk] using h1 _
 | .nil => by simpa [toD, D.bulk, D.bulks] using h1 _
 | .slice e r => by
   have := a9J h1 h2 h3 h4 h5 h6 h7 e; simp only [toD, D.bulk, h3]; omega
 | .agg p => by
   have := a9J h1 h2 h3 h4 h5 h6 h7 p; simp only [toD, D.bulk, h4]; omega
 | .ptr d => by
   have := b6T h1 h2 h3 h4 h5 h6 h7 d; simp only [toD, D.bulk, h5]; omega
 | .iface _ _ => by simpa [toD, D.bulk] using h1 _
 | .map _ => by simpa [toD, D.bulk] using h1 _
 | .held _ => by simpa [toD, D.bulk] using h1 _
theorem a9J (h1 : ∀ x : DataW H, 1 <= u x) (h2 : ∀ s, u (.lit (.string s)) = s.length + 1) (h3 : ∀ e r, u (.slice e r) = ua e + ua r + 1) (h4 : ∀ p, u (.agg p) = ua p + 1) (h5 : ∀ d, u (.ptr d) = u d + 1)
   (h6 : ua [] = 0) (h7 : ∀ d l, ua (d :: l) = u d + ua l) : ∀ l : List (DataW H), D.bulks (a6X l) <= ua l
 | [] => by simp [a6X, D.bulks]
 | d :: l => by
   have := b6T h1 h2 h3 h4 h5 h6 h7 d; have := a9J h1 h2 h3 h4 h5 h6 h7 l; simp only [a6X, D.bulks, h7]; omega
end
end
def old (w : World) : Nat -> Nat -> Prop := fun b _ => b < w.heap.size
theorem b4D {α β : Type} {f : α -> Option β} : ∀ {l : List α} {r : List β}, l.mapM f = some r -> r.length = l.length /\ ∀ (i : Nat) (x : α), l[i]? = some x -> ∃ y, r[i]? = some y /\ f x = some y
 | [], r, h => by simp at h; subst h; simp
 | a :: l, r, h => by
   simp only [mapM_cons, bind, Option.bind_eq_some_iff, pure, Option.some.injEq] at h; obtain ⟨y, hy, ys, hys, rfl⟩ := h; obtain ⟨h1, h2⟩ := b4D hys; refine ⟨by simp [h1], fun i x hi => ?_⟩; cases i with
   | zero => simp only [getElem?_cons_zero, Option.some.injEq] at hi; subst hi; exact ⟨y, rfl, hy⟩
   | succ i => simpa using h2 i x (by simpa using hi)
theorem a7Z {w : World} {base : Nat} {a : Addr} {n : Nat} {cs : List Value} (h : w.cells? base a n = some cs) (hn : 0 < n) : a = ⟨a.block, a.off, none⟩ /\ cs.length = n /\ At w (old w) a.block a.off cs := by
 have hlt := World.cells?_block h hn; unfold World.cells? at h; split at h
 case isFalse => cases h
 obtain ⟨h1, h2⟩ := b4D h; simp only [length_range] at h1; have hsp : a.spot = none := by
   obtain ⟨v, _, hv⟩ := h2 0 0 (by simp [hn]); have e : a.add 0 = a := (by simp [Addr.add]); rw [e] at hv; cases hs : a.spot with
   | none => rfl
   | some k =>
     simp only [World.cell?] at hv; split at hv
     . simp [hs] at hv
     . cases hv
 have ha : a = ⟨a.block, a.off, none⟩ := by cases a; simp_all
 refine ⟨ha, h1, fun k v hk => ?_⟩; have hkn : k < n := by have := (List.getElem?_eq_some_iff.1 hk).1; omega
 obtain ⟨y, hy, hv⟩ := h2 k k (by simp [hkn]); have : y = v := Option.some.inj (hy.symm.trans hk); subst this; have e : a.add k = ⟨a.block, a.off + k, none⟩ := by
   unfold Addr.add; split
   . rename_i h0; subst h0; exact ha
   . rfl
 rw [e] at hv; exact ⟨hv, hlt⟩
theorem At.append {w : World} {L : Nat -> Nat -> Prop} {b o : Nat} {x y : List Value} (h : At w L b o x) (k : At w L b (o + x.length) y) : At w L b o (x ++ y) := by
 intro j v hj; by_cases hlt : j < x.length
 . rw [getElem?_append_left hlt] at hj; exact h j v hj
 . rw [getElem?_append_right (by omega)] at hj; have := k _ v hj; rw [show o + x.length + (j - x.length) = o + j by omega] at this; exact this
theorem At.row {w : World} {L : Nat -> Nat -> Prop} {b c : Nat} : ∀ {css : List (List Value)} {o : Nat}, (∀ (i : Nat) (x : List Value), css[i]? = some x -> x.length = c /\ At w L b (o + i * c) x) -> At w L b o css.flatten
 | [], o, _ => by intro j v hj; simp at hj
 | x :: css, o, h => by
   have h0 := h 0 x rfl; simp only [Nat.zero_mul, Nat.add_zero] at h0; rw [flatten_cons]; refine h0.2.append (At.row (c := c) fun i y hy => ?_); have := h (i + 1) y (by simpa using hy); rw [h0.1]; rw [show o + (i + 1) * c = o + c + i * c by rw [Nat.add_mul]; omega] at this; exact this
theorem A8.of_get {w : World} {L : Nat -> Nat -> Prop} : ∀ {ds : List D} {css : List (List Value)}, css.length = ds.length -> (∀ (i : Nat) (c : List Value) (d : D), css[i]? = some c -> ds[i]? = some d -> Rep w L d c) -> A8 w L ds css
 | [], [], _, _ => by simp [A8]
 | d :: ds, c :: css, hl, h => by
   simp only [A8]; exact ⟨c, css, rfl, h 0 c d rfl rfl, A8.of_get (by simpa using hl) fun i c' d' h1 h2 => h (i + 1) c' d' (by simpa using h1) (by simpa using h2)⟩
theorem a9b (c : Field -> Nat) (cs : List Value) : ∀ (fs : List Field) (o : Nat), (∀ j f, fs[j]? = some f -> f.offset = o + ((fs.take j).map c).sum) -> o + (fs.map c).sum = cs.length ->
   (fs.map fun f => (cs.drop f.offset).take (c f)).flatten = cs.drop o
 | [], o, _, h => by
   simp only [map_nil, sum_nil, Nat.add_zero] at h; simp [drop_eq_nil_of_le (Nat.le_of_eq h.symm)]
 | f :: fs, o, h1, h2 => by
   have e := h1 0 f rfl; simp only [take_zero, map_nil, sum_nil, Nat.add_zero] at e; simp only [map_cons, sum_cons] at h2; rw [map_cons, flatten_cons, a9b c cs fs (o + c f) (fun j g hj => by
     have := h1 (j + 1) g (by simpa using hj); simp only [take_succ_cons, map_cons, sum_cons] at this; omega) (by omega), e]
   conv => rhs; rw [<- take_append_drop (c f) (cs.drop o)]
   rw [drop_drop]
section
variable {H : Type} {enc : TypeId × Value -> H} {P : Program} {w : World} {sp : Nat -> Bool} {held : Bool} {T : TypeId -> Prop}
mutual
theorem a6I (K : Kids P T) (hz : ∀ t e, T t -> P.underlying t = some (.slice e) -> 0 < P.cellsOf e) : ∀ (s : Sh) {n : Nat} {t : TypeId} {cs : List Value} {x : DataW H × List MemPlace}, T t -> Sh.okB P s t = true ->
   DataW.trod enc P w 0 sp held n t cs = some x -> Rep w (old w) (toD x.1) cs /\ Sh.Fits s (toD x.1)
 | .bool, n, t, cs, x, hT, hok, h => by
   simp only [Sh.okB] at hok; split at hok
   case h_2 => cases hok
   rename_i hu
   obtain ⟨b, rfl, rfl⟩ := DataW.trod_bool hu h; simp [toD, Rep, Sh.Fits]
 | .int k, n, t, cs, x, hT, hok, h => by
   simp only [Sh.okB] at hok; split at hok
   case h_2 => cases hok
   rename_i k' hu
   have hk : k' = k := (by simpa using hok); subst hk; obtain ⟨m, rfl, rfl, hw⟩ := DataW.trod_int hu h; simp [toD, Rep, Sh.Fits, hw]
 | .str, n, t, cs, x, hT, hok, h => by
   simp only [Sh.okB] at hok; split at hok
   case h_2 => cases hok
   rename_i hu
   obtain ⟨s, rfl, rfl, hw⟩ := DataW.trod_string hu h; refine ⟨by simp [toD, Rep], ?_⟩; simp only [toD, Sh.Fits]; exact ⟨_, rfl, by rw [Array.length_toList]; exact hw⟩
 | .sl s, n, t, cs, x, hT, hok, h => by
   simp only [Sh.okB] at hok; split at hok
   case h_2 => cases hok
   rename_i e hu
   have hTe := K.slice hT hu; have hpos := hz t e hT hu; rcases DataW.trod_slice hu h with ⟨rfl, rfl⟩ | ⟨a, len, cap, elems, rest, m, _, rfl, rfl, hb, hl, hm, hlen, hel, _, _⟩
   . refine ⟨?_, ?_⟩
     . simp only [toD, Rep]; exact ⟨none, 0, [], 0, rfl, rfl, by simp, by simp, fun h => absurd rfl h⟩
     . simp only [toD, Sh.Fits]; exact ⟨[], rfl, by simp, by simp⟩
   . have each : ∀ i (hi : i < elems.length), ∃ c, w.cells? 0 (a.add (i * P.cellsOf e)) (P.cellsOf e) = some c /\ DataW.trod enc P w 0 sp held m e c = some elems[i] := fun i hi => by
       have := hel i (by omega); rw [getElem?_eq_getElem hi, Option.bind_eq_some_iff] at this; exact this
     have fit : ∀ i (hi : i < elems.length), ∃ c, w.cells? 0 (a.add (i * P.cellsOf e)) (P.cellsOf e) = some c /\ Rep w (old w) (toD elems[i].1) c /\ Sh.Fits s (toD elems[i].1) := fun i hi => by
       obtain ⟨c, h1, h2⟩ := each i hi; exact ⟨c, h1, a6I K hz s hTe hok h2⟩
     have hD : toD (H := H) (.slice (elems.map (·.1)) (rest.map (·.1))) = .sl (elems.map fun y => toD y.1) := by
       simp [toD, a4G, Function.comp_def]
     rw [hD]; refine ⟨?_, ?_⟩
     . simp only [Rep]; refine ⟨some a, cap, (List.range elems.length).map (fun i => (w.cells? 0 (a.add (i * P.cellsOf e)) (P.cellsOf e)).getD []), P.cellsOf e, by simp [hlen], ?_, ?_, by simp; omega, ?_⟩
       . refine A8.of_get (by simp) fun i c d h1 h2 => ?_
         have hi : i < elems.length := by have := (List.getElem?_eq_some_iff.1 h1).1; simpa using this
         obtain ⟨c', g1, g2, _⟩ := fit i hi; simp only [getElem?_map, getElem?_range hi, Option.map_some, Option.some.injEq, g1, Option.getD_some] at h1; simp only [getElem?_map, getElem?_eq_getElem hi, Option.map_some, Option.some.injEq] at h2; rw [<- h1, <- h2]; exact g2
       . intro c hc; obtain ⟨i, hi, rfl⟩ := mem_map.1 hc; have hi : i < elems.length := (by simpa using hi); obtain ⟨c', g1, _⟩ := fit i hi; rw [g1]; exact (a7Z g1 hpos).2.1
       . intro hne; have h0 : 0 < elems.length := by
           cases elems with
           | nil => exact absurd rfl hne
           | cons _ _ => simp
         obtain ⟨c0, g0, _⟩ := fit 0 h0; have ha := (a7Z g0 hpos).1; have ha' : a.add (0 * P.cellsOf e) = a := (by simp [Addr.add]); rw [ha'] at ha; refine ⟨a.block, a.off, by rw [<- ha], At.row (c := P.cellsOf e) fun i x hx => ?_⟩; have hi : i < elems.length := by have := (List.getElem?_eq_some_iff.1 hx).1; simpa using this
         obtain ⟨c', g1, _⟩ := fit i hi; simp only [getElem?_map, getElem?_range hi, Option.map_some, Option.some.injEq, g1, Option.getD_some] at hx; obtain ⟨_, g2, g3⟩ := a7Z g1 hpos; rw [<- hx]; refine ⟨g2, ?_⟩; have e1 : (a.add (i * P.cellsOf e)).block = a.block := by unfold Addr.add; split <;> rfl
         have e2 : (a.add (i * P.cellsOf e)).off = a.off + i * P.cellsOf e := by
           unfold Addr.add; split
           . rename_i h; rw [h]; rfl
           . rfl
         rw [e1, e2] at g3; exact g3
     . simp only [Sh.Fits]; refine ⟨_, rfl, by simp; omega, fun d hd => ?_⟩; obtain ⟨y, hy, rfl⟩ := mem_map.1 hd; obtain ⟨i, hi, rfl⟩ := mem_iff_getElem.1 hy; obtain ⟨_, _, _, g⟩ := fit i hi; exact g
 | .agg l, n, t, cs, x, hT, hok, h => by
   simp only [Sh.okB] at hok; split at hok
   case h_2 => cases hok
   rename_i fs hu
   obtain ⟨k1, k2, k3⟩ := K.struct hT hu; obtain ⟨xs, m, _, rfl, hcs, hxs, hf⟩ := DataW.trod_struct hu h; have := b3s K hz l (fs := fs.toList) (xs := xs) (g := fun f => (cs.drop f.offset).take (P.cellsOf f.type)) k1 hok (by simpa using hxs) (fun i f hi => hf i f (by simpa using hi)); have hD : toD (H := H) (.agg (xs.map (·.1))) = .agg (xs.map fun y => toD y.1) := by simp [toD, a4G, Function.comp_def]
   rw [hD]; refine ⟨?_, ?_⟩
   . simp only [Rep]; refine ⟨_, this.1, ?_⟩; rw [a9b (fun f => P.cellsOf f.type) cs fs.toList 0 (fun j f hj => by rw [k3 j f hj]; omega) (by rw [hcs, k2]; omega)]; simp
   . simp only [Sh.Fits]; exact ⟨_, rfl, this.2⟩
theorem b3s (K : Kids P T) (hz : ∀ t e, T t -> P.underlying t = some (.slice e) -> 0 < P.cellsOf e) : ∀ (l : List Sh) {n : Nat} {fs : List Field} {xs : List (DataW H × List MemPlace)} {g : Field -> List Value},
   (∀ f ∈ fs, T f.type) -> Sh.okBs P l fs = true -> xs.length = fs.length -> (∀ (i : Nat) (f : Field), fs[i]? = some f -> DataW.trod enc P w 0 sp held n f.type (g f) = xs[i]?) ->
   A8 w (old w) (xs.map fun y => toD y.1) (fs.map g) /\ Sh.FitsL l (xs.map fun y => toD y.1)
 | [], n, fs, xs, g, hT, hok, hl, hf => by
   simp only [Sh.okBs, isEmpty_iff] at hok; subst hok; have : xs = [] := (by simpa using hl); subst this; simp [A8, Sh.FitsL]
 | s :: l, n, fs, xs, g, hT, hok, hl, hf => by
   cases fs with
   | nil => simp [Sh.okBs] at hok
   | cons f fs =>
     simp only [Sh.okBs, Bool.and_eq_true] at hok; cases xs with
     | nil => simp at hl
     | cons x xs =>
       have h0 := hf 0 f rfl; simp only [getElem?_cons_zero] at h0; have a := a6I K hz s (hT f (by simp)) hok.1 h0; have b := b3s K hz l (fun f' hf' => hT f' (by simp [hf'])) hok.2 (by simpa using hl) (fun i f' hi => by simpa using hf (i + 1) f' (by simpa using hi)); simp only [map_cons, A8, Sh.FitsL]; exact ⟨⟨_, _, rfl, a.1, b.1⟩, _, _, rfl, a.2, b.2⟩
end
theorem c2d {P : Program} : ∀ {s : Sh} {t : TypeId} {w : World} {base : Nat} {v : Value} {d : D}, Sh.okB P s t = true -> Sh.Fits s d -> Value.okWide P w .any base t v -> K7 v = d.isAgg
 | .bool, t, w, base, v, d, hok, hf, hv => by
   simp only [Sh.okB] at hok; split at hok
   case h_2 => cases hok
   rename_i hu
   obtain ⟨b, rfl⟩ := okWide_bool hu hv; simp only [Sh.Fits] at hf; obtain ⟨b, rfl⟩ := hf; rfl
 | .int k, t, w, base, v, d, hok, hf, hv => by
   simp only [Sh.okB] at hok; split at hok
   case h_2 => cases hok
   rename_i hu
   obtain ⟨b, rfl⟩ := okWide_int hu hv; simp only [Sh.Fits] at hf; obtain ⟨b, rfl, _⟩ := hf; rfl
 | .str, t, w, base, v, d, hok, hf, hv => by
   simp only [Sh.okB] at hok; split at hok
   case h_2 => cases hok
   rename_i hu
   obtain ⟨b, rfl⟩ := okWide_string hu hv; simp only [Sh.Fits] at hf; obtain ⟨b, rfl, _⟩ := hf; rfl
 | .sl s, t, w, base, v, d, hok, hf, hv => by
   simp only [Sh.okB] at hok; split at hok
   case h_2 => cases hok
   rename_i hu
   obtain ⟨a, b, c, rfl⟩ := okWide_slice hu hv; simp only [Sh.Fits] at hf; obtain ⟨b, rfl, _⟩ := hf; rfl
 | .agg l, t, w, base, v, d, hok, hf, hv => by
   simp only [Sh.okB] at hok; split at hok
   case h_2 => cases hok
   rename_i hu
   obtain ⟨a, rfl, _⟩ := okWide_struct hu hv; simp only [Sh.Fits] at hf; obtain ⟨b, rfl, _⟩ := hf; rfl
def a6g (P : Program) : List Sh -> List TypeId -> Bool
 | [], [] => true
 | s :: l, t :: ts => Sh.okB P s t && a6g P l ts
 | _, _ => false
theorem open_args (K : Kids P T) (hz : ∀ t e, T t -> P.underlying t = some (.slice e) -> 0 < P.cellsOf e) {base : Nat} : ∀ {l : List Sh} {ts : List TypeId} {vs : List Value} {ds : List (DataW H)} {p : List MemPlace},
   a6g P l ts = true -> (∀ t ∈ ts, T t) -> (∀ (j : Nat) t v, ts[j]? = some t -> vs[j]? = some v -> Value.okWide P w .any base t v) -> DataW.TrodAll enc P w 0 sp held ts vs ds p ->
   RCs P w (old w) none ((ds.map toD).map AV.d) vs /\ Sh.FitsL l (ds.map toD)
 | [], [], vs, ds, p, _, _, _, h => by
   obtain ⟨rfl, rfl, rfl⟩ := trodAll_nil h; simp [RCs, Sh.FitsL]
 | [], _ :: _, _, _, _, h, _, _, _ => by simp [a6g] at h
 | _ :: _, [], _, _, _, h, _, _, _ => by simp [a6g] at h
 | s :: l, t :: ts, vs, ds, p, hok, hT, hv, h => by
   simp only [a6g, Bool.and_eq_true] at hok; obtain ⟨v, vs1, d, ds1, a, b, rfl, rfl, rfl, ⟨n, h1⟩, h2⟩ := trodAll_cons h; have g1 := a6I K hz s (hT t (by simp)) hok.1 h1; have g2 := open_args K hz hok.2 (fun t' ht' => hT t' (by simp [ht'])) (fun j t' v' h1 h2 => hv (j + 1) t' v' (by simpa using h1) (by simpa using h2)) h2; have g3 := c2d hok.1 g1.2 (hv 0 t v rfl rfl); simp only [map_cons, RCs, Sh.FitsL]; exact ⟨⟨v, vs1, rfl, by simp only [RC]; exact ⟨g1.1, g3⟩, g2.1⟩, _, _, rfl, g1.2, g2.2⟩
end
theorem b4a {P : Program} {w : World} : ∀ {l : List (String × DataW Unit)} {ps : List MemPlace} {n : String} {d : DataW Unit}, DataW.LaidVars P w l ps -> (n, d) ∈ l ->
   ∃ g t cs fuel p, P.globalNamed n = some g /\ (P.globals[g]?).map (·.type) = some t /\ w.var? P n = some cs /\ DataW.trod (fun _ => ()) P w 0 (fun _ => true) false fuel t cs.toList = some (d, p)
 | [], _, _, _, _, hm => by simp at hm
 | (m, e) :: r, ps, n, d, h, hm => by
   obtain ⟨g, t, cs, fuel, p, q, h1, h2, h3, h4, h5, _⟩ := h; rcases mem_cons.1 hm with hm | hm
   . simp only [Prod.mk.injEq] at hm; obtain ⟨rfl, rfl⟩ := hm; exact ⟨g, t, cs, fuel, p, h1, h2, h3, h4⟩
   . exact b4a h5 hm
theorem gl_of_laid {P : Program} {w : World} {T : TypeId -> Prop} (K : Kids P T) (hz : ∀ t e, T t -> P.underlying t = some (.slice e) -> 0 < P.cellsOf e) {laid : List (String × DataW Unit)} (hm : laidMet P laid w) {dw : DataW Unit} {nm : String} {D0 : D} {sh : Sh}
   (hmem : (nm, dw) ∈ laid) (hd : toD dw = D0) {g t : Nat} (h1 : P.globalNamed nm = some g) (h2 : (P.globals[g]?).map (·.type) = some t) (hT : T t) (hok : Sh.okB P sh t = true) (hg : ∀ g' d, b1q P g' = some d -> g' = g /\ d = D0) : GL P w (old w) := by
 obtain ⟨ps, hv, _⟩ := hm; obtain ⟨g', t', cs, fuel, p, q1, q2, q3, q4⟩ := b4a hv hmem; rw [h1] at q1; obtain rfl : g = g' := Option.some.inj q1; rw [h2] at q2; obtain rfl : t = t' := Option.some.inj q2; intro g2 d hgd; obtain ⟨rfl, rfl⟩ := hg g2 d hgd; obtain ⟨hr, _⟩ := a6I (enc := fun _ => ()) K hz sh hT hok q4; rw [show toD (dw, p).1 = _ from hd] at hr; refine ⟨_, hr, fun k v hk => ?_⟩; simp only [World.var?, h1, Option.bind_some] at q3; have hh : ∃ ty fr, w.heap[g2]? = some (.cells cs ty fr) := by
   revert q3
   cases w.heap[g2]? with
   | none => simp
   | some o => cases o with
     | cells c ty fr => intro q; simp only [Option.some.injEq] at q; subst q; exact ⟨_, _, rfl⟩
     | _ => simp
 obtain ⟨ty, fr, hh⟩ := hh; refine ⟨?_, (Array.getElem?_eq_some_iff.1 hh).1⟩; simp only [World.cell?, hh]; simpa using hk
mutual
def D.lim (R : Nat) : D -> Prop
 | .str s => List.length s <= R
 | .sl ds => ds.length <= R /\ D.lims R ds
 | .agg ds => D.lims R ds
 | .ref d => D.lim R d
 | _ => True
def D.lims (R : Nat) : List D -> Prop
 | [] => True
 | d :: ds => D.lim R d /\ D.lims R ds
end
theorem D.lims_mem {R : Nat} : ∀ {l : List D}, D.lims R l ↔ ∀ d ∈ l, D.lim R d
 | [] => by simp [D.lims]
 | d :: l => by simp [D.lims, D.lims_mem (l := l)]
section
variable {H : Type} {enc : TypeId × Value -> H} {P : Program} {w : World} {sp : Nat -> Bool} {held : Bool} {T : TypeId -> Prop} {R : Nat}
theorem a5H {e : TypeId} : ∀ {l : List (DataW H)} {d : DataW H} {y : Nat}, d ∈ l -> y ∈ d.weights P e -> y ∈ DataW.weightsAll P e l
 | d' :: l, d, y, h, hy => by
   simp only [DataW.weightsAll, mem_append]; rcases mem_cons.1 h with rfl | h
   . exact .inl hy
   . exact .inr (a5H h hy)
mutual
theorem b1F (K : Kids P T) (hb : ∀ t e, T t -> P.underlying t = some (.slice e) -> 0 < P.bytesOf e) : ∀ (s : Sh) {n : Nat} {t : TypeId} {cs : List Value} {x : DataW H × List MemPlace}, T t -> Sh.okB P s t = true ->
   DataW.trod enc P w 0 sp held n t cs = some x -> (∀ y ∈ x.1.weights P t, y <= R) -> D.lim R (toD x.1)
 | .bool, n, t, cs, x, hT, hok, h, hw => by
   simp only [Sh.okB] at hok; split at hok
   case h_2 => cases hok
   rename_i hu
   obtain ⟨b, rfl, rfl⟩ := DataW.trod_bool hu h; simp [toD, D.lim]
 | .int k, n, t, cs, x, hT, hok, h, hw => by
   simp only [Sh.okB] at hok; split at hok
   case h_2 => cases hok
   rename_i k' hu
   obtain ⟨m, rfl, rfl, _⟩ := DataW.trod_int hu h; simp [toD, D.lim]
 | .str, n, t, cs, x, hT, hok, h, hw => by
   simp only [Sh.okB] at hok; split at hok
   case h_2 => cases hok
   rename_i hu
   obtain ⟨s, rfl, rfl, _⟩ := DataW.trod_string hu h; simp only [toD, D.lim]; exact hw _ (by simp [DataW.weights])
 | .sl s, n, t, cs, x, hT, hok, h, hw => by
   simp only [Sh.okB] at hok; split at hok
   case h_2 => cases hok
   rename_i e hu
   have hTe := K.slice hT hu; rcases DataW.trod_slice hu h with ⟨rfl, rfl⟩ | ⟨a, len, cap, elems, rest, m, _, rfl, rfl, _, hl, hm, hlen, hel, _, _⟩
   . simp [toD, D.lim, D.lims]
   . have hD : toD (H := H) (.slice (elems.map (·.1)) (rest.map (·.1))) = .sl (elems.map fun y => toD y.1) := by
       simp [toD, a4G, Function.comp_def]
     simp only [DataW.weights, hu, mem_cons, mem_append] at hw; rw [hD]; simp only [D.lim, D.lims_mem]; refine ⟨?_, fun d hd => ?_⟩
     . have h1 := hw _ (.inl rfl); have h2 := hb t e hT hu; have h3 : elems.length * 1 <= (elems.length + rest.length) * P.bytesOf e := Nat.mul_le_mul (by omega) h2; simp only [length_map] at h1 ⊢; omega
     . obtain ⟨y, hy, rfl⟩ := mem_map.1 hd; obtain ⟨i, hi, rfl⟩ := mem_iff_getElem.1 hy; have h1 := hel i (by omega); rw [getElem?_eq_getElem hi, Option.bind_eq_some_iff] at h1; obtain ⟨c, _, h2⟩ := h1; exact b1F K hb s hTe hok h2 fun z hz => hw z (.inr (.inl (a5H (mem_map.2 ⟨_, hy, rfl⟩) hz)))
 | .agg l, n, t, cs, x, hT, hok, h, hw => by
   simp only [Sh.okB] at hok; split at hok
   case h_2 => cases hok
   rename_i fs hu
   obtain ⟨k1, _, _⟩ := K.struct hT hu; obtain ⟨xs, m, _, rfl, _, hxs, hf⟩ := DataW.trod_struct hu h; have hD : toD (H := H) (.agg (xs.map (·.1))) = .agg (xs.map fun y => toD y.1) := by simp [toD, a4G, Function.comp_def]
   simp only [DataW.weights, hu] at hw; rw [hD]; simp only [D.lim]; exact b5r K hb l (fs := fs.toList) (xs := xs) (g := fun f => (cs.drop f.offset).take (P.cellsOf f.type)) k1 hok (by simpa using hxs) (fun i f hi => hf i f (by simpa using hi)) hw
theorem b5r (K : Kids P T) (hb : ∀ t e, T t -> P.underlying t = some (.slice e) -> 0 < P.bytesOf e) : ∀ (l : List Sh) {n : Nat} {fs : List Field} {xs : List (DataW H × List MemPlace)} {g : Field -> List Value},
   (∀ f ∈ fs, T f.type) -> Sh.okBs P l fs = true -> xs.length = fs.length -> (∀ (i : Nat) (f : Field), fs[i]? = some f -> DataW.trod enc P w 0 sp held n f.type (g f) = xs[i]?) ->
   (∀ y ∈ DataW.weightsEach P (fs.map (·.type)) (xs.map (·.1)), y <= R) -> D.lims R (xs.map fun y => toD y.1)
 | [], n, fs, xs, g, hT, hok, hl, hf, hw => by
   simp only [Sh.okBs, isEmpty_iff] at hok; subst hok; have : xs = [] := (by simpa using hl); subst this; simp [D.lims]
 | s :: l, n, fs, xs, g, hT, hok, hl, hf, hw => by
   cases fs with
   | nil => simp [Sh.okBs] at hok
   | cons f fs =>
     simp only [Sh.okBs, Bool.and_eq_true] at hok; cases xs with
     | nil => simp at hl
     | cons x xs =>
       have h0 := hf 0 f rfl; simp only [getElem?_cons_zero] at h0; simp only [map_cons, DataW.weightsEach, mem_append] at hw; simp only [map_cons, D.lims]; exact ⟨b1F K hb s (hT f (by simp)) hok.1 h0 fun y hy => hw y (.inl hy), b5r K hb l (fun f' hf' => hT f' (by simp [hf'])) hok.2 (by simpa using hl) (fun i f' hi => by simpa using hf (i + 1) f' (by simpa using hi)) fun y hy => hw y (.inr hy)⟩
end
theorem lim_args (K : Kids P T) (hb : ∀ t e, T t -> P.underlying t = some (.slice e) -> 0 < P.bytesOf e) : ∀ {l : List Sh} {ts : List TypeId} {vs : List Value} {ds : List (DataW H)} {p : List MemPlace},
   a6g P l ts = true -> (∀ t ∈ ts, T t) -> DataW.TrodAll enc P w 0 sp held ts vs ds p -> (∀ y ∈ DataW.weightsEach P ts ds, y <= R) -> D.lims R (ds.map toD)
 | [], [], vs, ds, p, _, _, h, _ => by
   obtain ⟨rfl, rfl, rfl⟩ := trodAll_nil h; simp [D.lims]
 | [], _ :: _, _, _, _, h, _, _, _ => by simp [a6g] at h
 | _ :: _, [], _, _, _, h, _, _, _ => by simp [a6g] at h
 | s :: l, t :: ts, vs, ds, p, hok, hT, h, hw => by
   simp only [a6g, Bool.and_eq_true] at hok; obtain ⟨v, vs1, d, ds1, a, b, rfl, rfl, rfl, ⟨n, h1⟩, h2⟩ := trodAll_cons h; simp only [DataW.weightsEach, mem_append] at hw; simp only [map_cons, D.lims]; exact ⟨b1F K hb s (hT t (by simp)) hok.1 h1 fun y hy => hw y (.inl hy), lim_args K hb hok.2 (fun t' ht' => hT t' (by simp [ht'])) h2 fun y hy => hw y (.inr hy)⟩
end
theorem bytes_full_of (P : Program) (h : ((List.range P.types.size).all fun t => match P.underlying t with | some (.slice e) => decide (0 < P.bytesOf e) | _ => true) = true) :
   ∀ t e, t < P.types.size -> P.underlying t = some (.slice e) -> 0 < P.bytesOf e := by
 intro t e hl ht; have := all_eq_true.1 h t (mem_range.2 hl); rw [ht] at this; simpa using this
theorem law_post {H : Type} {enc : TypeId × Value -> H} {P : Program} {fn : Func} {s : ChangeSpec} {apart fresh handsOn B8 : Bool} {W W' : World} {args : Array Value} {ds gs : List (DataW H)} {before : List MemPlace} {tb : TypeId}
   (K : Kids P (· < P.types.size)) (hz : ∀ t e, t < P.types.size -> P.underlying t = some (.slice e) -> 0 < P.cellsOf e) (hts : ∀ t ∈ fn.params.toList, t < P.types.size)
   (hvars : s.vars = []) (hs : ds.length = fn.params.size -> s.fn H ds = { results := [.lit (.bool true)], args := ds }) (hres : fn.resultTypes = #[tb]) (htb : P.underlying tb = some .bool)
   (hW : DataW.Whole enc P fn.params.toList s.vars apart W args.toList ds gs before) (hg : F7 W W' noB) :
   s.post enc P fn apart fresh handsOn B8 W args (.bool true) W' := by
 have hold : ∀ p ∈ before, (fun b => decide (b < W.heap.size)) p.block = true := fun p hp => by simpa using hW.lt p hp
 have hlt := hW.lt; obtain ⟨pa, pv, hA, hV, rfl, hz', hn⟩ := id hW; rw [hvars] at hV; obtain ⟨rfl, rfl⟩ := trodVars_none hV; simp only [append_nil] at *; have hlen : ds.length = fn.params.size := by
   have : ∀ {ts : List TypeId} {vs : List Value} {ds : List (DataW H)} {p : List MemPlace}, DataW.TrodAll enc P W 0 (fun _ => true) true ts vs ds p -> ds.length = ts.length := by
     intro ts
     induction ts with
     | nil => intro vs ds p h; obtain ⟨_, rfl, _⟩ := trodAll_nil h; rfl
     | cons t ts ih => intro vs ds p h; obtain ⟨v, vs1, d, ds1, a, b, rfl, rfl, rfl, _, h2⟩ := trodAll_cons h; simp [ih h2]
   simpa using this hA
 have hfn := hs hlen; have hcell : ∀ b o, b < W.heap.size -> W'.cell? ⟨b, o, none⟩ = W.cell? ⟨b, o, none⟩ := fun b o hb => by
   simp only [World.cell?, hg.block b hb (fun h => h)]
 have carry : ∀ {sp : Nat -> Bool} {ts : List TypeId} {vs : List Value} {ds : List (DataW H)} {p : List MemPlace}, (∀ x ∈ p, x.block < W.heap.size) -> DataW.TrodAll enc P W 0 sp true ts vs ds p -> DataW.TrodAll enc P W' 0 sp true ts vs ds p := by
   intro sp ts
   induction ts with
   | nil => intro vs ds p _ h; obtain ⟨rfl, rfl, rfl⟩ := trodAll_nil h; rfl
   | cons t ts ih =>
     intro vs ds p hp h; obtain ⟨v, vs1, d, ds1, a, b, rfl, rfl, rfl, ⟨n, h1⟩, h2⟩ := trodAll_cons h; refine ⟨a, b, ⟨n, DataW.trod_carry n _ _ _ h1 fun x hx => ?_⟩, ih (fun x hx => hp x (by simp [hx])) h2, rfl⟩; have hb := hp x (by simp [hx]); cases x with
     | cell b o => exact hcell b o hb
     | map b => exact hg.block b hb (fun h => h)
 have hres' : ∀ (b : Nat) (sp : Nat -> Bool) (hd : Bool), DataW.TrodAll enc P W' b sp hd fn.resultTypes.toList ((Value.bool true).resultList fn.resultTypes.size) (s.fn H ds).results [] := fun b sp hd => by
   rw [hfn, hres]; exact trodAll_mk1 (shut_bool htb true)
 have hargs : ∀ sp : Nat -> Bool, (∀ p ∈ pa, sp p.block = true) -> DataW.TrodAll enc P W' 0 sp true fn.params.toList args.toList (s.fn H ds).args pa := fun sp hsp => by
   rw [hfn]; exact carry hlt (hA.respare K hz hts hsp)
 have hvars' : ∀ sp : Nat -> Bool, DataW.TrodVars enc P W' sp s.vars (s.fn H ds).vars [] := fun sp => by
   rw [hfn, hvars]; rfl
 have hkept : W.keptBut W' (· ∈ pa) := by
   have h0 := World.keptBut_refl W (· ∈ pa); refine ⟨hg.os, hg.output, fun i hi => ?_⟩; have := h0.2.2 i hi; rw [hg.block i hi (fun h => h)]; exact this
 have hfz : ∀ b o, b < W.heap.size -> W'.frozen? ⟨b, o, none⟩ = W.frozen? ⟨b, o, none⟩ := fun b o hb => by
   simp only [World.frozen?, hg.block b hb (fun h => h)]
 refine ⟨ds, [], pa, [], pa, [], ?_, ?_, ?_, ?_, World.keptBut_mono (fun p hp => ⟨hp, ?_⟩) hkept, fun _ => ?_⟩
 . exact hW
 . simpa using hres' _ _ _
 . simpa using hargs _ hold
 . simpa using hvars' _
 . simpa using hp
 . refine ⟨?_, _, _, ([] ++ pa) ++ [], ⟨[] ++ pa, [], trodAll_append (by simpa using hargs _ (fun _ _ => rfl)) (by simpa using hres' _ _ _), by simpa using hvars' _, rfl, ?_, ?_⟩, ?_⟩
   . exact ok_one hres rfl (okWide_bool_mk htb true)
   . intro b off hp; have hp : MemPlace.cell b off ∈ pa := (by simpa using hp); rw [hfz b off (hlt _ hp)]; exact hz' b off hp
   . intro ha; simpa using hn ha
   . intro p hp _; simpa using hp
theorem witness_laid {H : Type} {enc : TypeId × Value -> H} {C : Checked} {os : Os} {f : FuncId} {fn : Func} {s : OpenSpec} {conds : List PathCond} {apart : Bool} {laid : List (String × DataW Unit)} (modest : Bool) (w0 : World) (args : Array Value) (hos : w0.os = os)
   (hsh : (w0.forCall (fun _ _ => 0) ⟨#[], args, []⟩).Shaped C.prog)
   (hok : Input.okWideB C.prog (w0.forCall (fun _ _ => 0) ⟨#[], args, []⟩) f ⟨#[], args, []⟩ = true)
   (hrow : s.preRow enc C.prog fn conds apart laid (w0.forCall (fun _ _ => 0) ⟨#[], args, []⟩).memory args) :
   ∃ (w : World) (tape : Tape) (i : Input), w.os = os /\ (w.forCall tape i).Shaped C.prog /\ i.vars = [] /\ Input.okWide C.prog (w.forCall tape i) .any w.heap.size f i /\
     s.preRow enc C.prog fn conds apart laid (w.forCall tape i).memory i.args /\ ({ modest := modest } : Assume).holds C.prog (lone (Frame.enter C.prog f i.args .normal) [] (w.forCall tape i)) :=
 ⟨w0, fun _ _ => 0, ⟨#[], args, []⟩, hos, hsh, (Input.okWide_of_okWideB (base := 0) hok).1, (Input.okWide_of_okWideB hok).2, hrow, by
   simp only [Assume.holds]; exact ⟨by simp, by simp, fun _ => Modest.zero, by simp, by simp⟩⟩
section
variable {H : Type} {enc : TypeId × Value -> H} {P : Program} {w : World} {sp : Nat -> Bool} {held : Bool} {T : TypeId -> Prop}
end
end Go.Vw