/-
  The abstract walk through a translated function, part 3 of 4: its data, its operations, and that it is sound, for every program. No conditions beyond those that each theorem states.
-/import Derived.Test.YtnknfnfinhagoaaGreatDoorWb
import Derived.Shelf.GgSortFunc.RowK
import Derived.Shelf.GgSortFunc.InsertionK
import Derived.Test.YtnknfnfinhagoaaGreatDoorWa
import Derived.StepT
import Derived.Calls
import Derived.CallsIn
import Derived.Shelf.SlIter.Sorted
import Derived.Shelf.SlSortCmp.WholeK
import Derived.Shelf.SlSortCmp.Whole1
import Derived.ChangeSame
import Derived.ReadAgain
import Derived.Deep.DeepHandedRow
import Derived.Lay
import Derived.OpenShut
import Derived.RowKit
open List
set_option linter.unusedSimpArgs false
set_option linter.unusedVariables false
namespace Go.Vw
open Go.RowKit Go.Proofs
variable {P : Program} {F : Nat → Bool} {w0 : World} {L0 : Nat → Nat → Prop} {row : Nat → Prop} {n : Nat} {K : St → Prop} {Q : Exit → Act → World → Prop}
 {w w' : World} {L L' : Nat → Nat → Prop} {O O' : Nat → Option Nat} {σ σ' : St} {a : Act} {o : Oper} {d : Nat} {v : Value} {tm : Nat → Value}
 {ops : Array Oper} {md : Region.Mode} {ds : List Nat}
def H8 (ds : List Nat) (x : AV) : Bool :=
 match H5 x with
 | some j => !ds.contains j
 | none => true
def INV (ds : List Nat) (σ : St) : Prop := (∀ t, H8 ds (σ t) = true) ∧ ∀ d ∈ ds, d < 1000000
theorem N0 {x : AV} {j : Nat} (h : H8 ds x = true) (hj : H5 x = some j) : j ∉ ds := by
 simp only [H8, hj] at h; simpa using h
theorem a0P {x : AV} (h : H5 x ≠ some d) : E0 d x = x := by
 cases x with
 | bor j m e l => have : j ≠ d := fun e => h (by simp [H5, e]); simp [E0, this]
 | adr j p => have : j ≠ d := fun e => h (by simp [H5, e]); simp [E0, this]
 | eadr j i p => have : j ≠ d := fun e => h (by simp [H5, e]); simp [E0, this]
 | sub j i => have : j ≠ d := fun e => h (by simp [H5, e]); simp [E0, this]
 | _ => rfl
theorem R5 {x : AV} (hi : INV ds σ) (hd : d ∈ ds) (hx : H8 ds x = true) : put σ d x = B0 σ d x := by
 funext i
 simp only [put, B0]; split
 · exact a0P fun e => N0 hx e hd
 · exact a0P fun e => N0 (hi.1 i) e hd
theorem INV.setv {x : AV} (hi : INV ds σ) (hx : H8 ds x = true) : INV ds (B0 σ d x) := by
 refine ⟨fun t => ?_, hi.2⟩; simp only [Vw.B0]; split
 · exact hx
 · exact hi.1 t
def O5 (ops : Array Oper) (o : Oper) (σ : St) : Option Bool :=
 match o.guard with
 | none => some true
 | some (j, want) => match (ops[j]?).bind (·.dst) with
   | some t => (match σ t with
     | .d (.bool b) => some (b == want)
     | .tup [] => some false
     | _ => none)
   | none => none
def YV (P : Program) (F : Nat → Bool) (ops : Array Oper) (ds : List Nat) (o : Oper) (d : Nat) (σ : St) (x : AV) : Prop :=
 o.dst = some d ∧ d ∈ ds ∧ H8 ds x = true ∧ ((O5 ops o σ = some true ∧ D3 P F o.op d σ (fun y => y = x)) ∨ (O5 ops o σ = some false ∧ x = .tup []))
def aOp (P : Program) (F : Nat → Bool) (ops : Array Oper) (ds : List Nat) (i : Nat) (K : St → Prop) (σ : St) : Prop :=
 match ops[i]? with
 | none => K σ
 | some o => ∃ d x, YV P F ops ds o d σ x ∧ K (B0 σ d x)
theorem c3z {i : Nat} {K K' : St → Prop} (h : ∀ σ, K σ → K' σ) (hh : aOp P F ops ds i K σ) : aOp P F ops ds i K' σ := by
 unfold aOp at *; split at hh
 · exact h _ hh
 · rename_i o hi
   obtain ⟨d, x, h1, h2⟩ := hh; exact ⟨d, x, h1, h _ h2⟩
theorem a3a {x : AV} (hk : d ∉ o.looksAt ops) : O5 ops o (B0 σ d x) = O5 ops o σ := by
 unfold O5; split
 · rfl
 · rename_i j want hg
   split
   · rename_i t ht
     have : t ≠ d := by
       rintro rfl; exact hk (by simp [Oper.looksAt, hg, ht])
     simp only [B0, if_neg this]
   · rfl
theorem a1b {x : AV} (hi : INV ds σ) (hd : d ∈ ds) (hk : d ∉ o.looksAt ops) : Agr o.op.operands.toList (B0 σ d x) σ := by
 refine ⟨fun y hy => ?_, fun j hj => ?_⟩
 rotate_left
 · have : j ≠ d := fun e => by have := hi.2 d hd; omega
   simp only [B0, if_neg this]
 have hne : ∀ t, y = .tmp t → t ≠ d := by
   rintro t rfl rfl; exact hk (by simp only [Oper.looksAt, mem_append, mem_filterMap]; exact .inl ⟨_, hy, rfl⟩)
 refine ⟨fun t ht => by simp only [B0, if_neg (hne t ht)], fun j hj => ?_⟩; have : j ≠ d := by
   rintro rfl; cases y with
   | tmp t =>
     have htd := hne t rfl; simp only [A0, B0, if_neg htd] at hj; have h1 := hi.1 t; cases hs : σ t <;> rw [hs] at hj h1 <;> simp only [rd, H5, Option.some.injEq] at hj
     case own => exact htd hj
     case box => exact htd hj
     case bor => subst hj; exact N0 h1 rfl hd
     case adr => subst hj; exact N0 h1 rfl hd
     case eadr => subst hj; exact N0 h1 rfl hd
     case sub => subst hj; exact N0 h1 rfl hd
     all_goals cases hj
   | const v =>
     simp only [A0] at hj; unfold a1G at hj; split at hj <;> simp [H5] at hj
   | func f => simp [A0, H5] at hj
   | global g => simp [A0, H5] at hj
 simp only [B0, if_neg this]
theorem YV.back {x y : AV} {e : Nat} (hi : INV ds σ) (hd : d ∈ ds) (hk : d ∉ o.looksAt ops) (h : YV P F ops ds o e (B0 σ d x) y) : YV P F ops ds o e σ y := by
 obtain ⟨h1, h2, h3, h4⟩ := h; rw [a3a hk] at h4; refine ⟨h1, h2, h3, ?_⟩; rcases h4 with ⟨h5, h6⟩ | h5
 · exact .inl ⟨h5, a8e (a1b hi hd hk) h6⟩
 · exact .inr h5
theorem Agr.symm {xs : List Operand} (h : Agr xs σ σ') : Agr xs σ' σ := by
 refine ⟨fun x hx => ⟨fun t ht => ((h.1 x hx).1 t ht).symm, fun j hj => ?_⟩, fun j hj => (h.2 j hj).symm⟩; rw [← h.aval hx] at hj; exact ((h.1 x hx).2 j hj).symm
theorem YV.forth {x y : AV} {e : Nat} (hi : INV ds σ) (hd : d ∈ ds) (hk : d ∉ o.looksAt ops) (h : YV P F ops ds o e σ y) : YV P F ops ds o e (B0 σ d x) y := by
 obtain ⟨h1, h2, h3, h4⟩ := h; refine ⟨h1, h2, h3, ?_⟩; rw [a3a hk]; rcases h4 with ⟨h5, h6⟩ | h5
 · exact .inl ⟨h5, a8e (a1b hi hd hk).symm h6⟩
 · exact .inr h5
theorem a0O {d e : Nat} {x y : AV} (h : d ≠ e) : B0 (B0 σ d x) e y = B0 (B0 σ e y) d x := by
 funext i
 simp only [B0]; by_cases h1 : i = d <;> by_cases h2 : i = e <;> simp_all
theorem c6z {j di : Nat} {oi oj : Oper} {x : AV} (hj : ops[j]? = some oj) (hap : oi.apart ops oj = true) (hi : INV ds σ) (hy : YV P F ops ds oi di σ x) {K : St → Prop} (h : aOp P F ops ds j K (B0 σ di x)) :
   aOp P F ops ds j (fun σ' => INV ds σ' ∧ YV P F ops ds oi di σ' x ∧ K (B0 σ' di x)) σ := by
 obtain ⟨h1, h2, h3⟩ := Oper.apart_spec hap; unfold aOp at *; simp only [hj] at *; obtain ⟨dj, u, hu, hK⟩ := h; refine ⟨dj, u, hu.back hi hy.2.1 (h1 di hy.1), hi.setv hu.2.2.1, hy.forth hi hu.2.1 (h3 dj hu.1), ?_⟩; rw [← a0O (fun e => h2 di hy.1 (by rw [hu.1, e]))]; exact hK
def b2J (P : Program) (F : Nat → Bool) (md : Region.Mode) (ops : Array Oper) (ds : List Nat) (n : Nat) (Lq : Array Bool → St → Prop) : Nat → Array Bool → St → Prop
 | 0, listed, σ => Lq listed σ
 | f + 1, listed, σ => Region.ready md ops listed ≠ [] ∧ ∀ i ∈ Region.ready md ops listed, i < n ∧ aOp P F ops ds i (b2J P F md ops ds n Lq f (listed.setIfInBounds i true)) σ
theorem b1L {n i di : Nat} {oi : Oper} {x : AV} {Lq : Array Bool → St → Prop} (Iv : Array Bool → Prop) (hset : ∀ listed j, Iv listed → j ∈ Region.ready md ops listed → j < n → Iv (listed.setIfInBounds j true)) (hi : ops[i]? = some oi) (hin : i < n)
   (hlt : ∀ listed, Iv listed → ∀ k, k < n → listed.getD k true = false → ∀ j ∈ Region.ready md ops listed, j < n) (hdone : ∀ listed σ, Lq listed σ → ∀ j ∈ Region.ready md ops listed, n ≤ j) :
   ∀ (f : Nat) (listed : Array Bool) (σ : St), Iv listed →
     (∀ j oj, ops[j]? = some oj → j ≠ i → listed.getD j true = false → (∀ e ∈ oj.after, Region.binds md e = true → e.on ≠ i) → oi.apart ops oj = true) →
     i ∈ Region.ready md ops listed → INV ds σ → YV P F ops ds oi di σ x →
     b2J P F md ops ds n Lq f (listed.setIfInBounds i true) (B0 σ di x) → b2J P F md ops ds n Lq (f + 1) listed σ := by
 intro f
 induction f with
 | zero =>
   intro listed σ inv _ hr hI hy H; have hun := (mem_ready.1 hr).1; refine ⟨fun h => (by rw [h] at hr; cases hr), fun j hj => ?_⟩; have hjn := hlt listed inv i hin hun j hj; refine ⟨hjn, ?_⟩; by_cases hji : j = i
   · subst hji; unfold aOp; simp only [hi]; exact ⟨di, x, hy, H⟩
   · have := hdone _ _ H j (ready_mono hj hji); omega
 | succ f ih =>
   intro listed σ inv hfree hr hI hy H; have hun := (mem_ready.1 hr).1; refine ⟨fun h => (by rw [h] at hr; cases hr), fun j hj => ?_⟩; have hjn := hlt listed inv i hin hun j hj; refine ⟨hjn, ?_⟩; by_cases hji : j = i
   · subst hji; unfold aOp; simp only [hi]; exact ⟨di, x, hy, H⟩
   · have h1 := (H.2 j (ready_mono hj hji)).2; obtain ⟨hjun, oj, hoj, hall⟩ := mem_ready.1 hj; have hnot : ∀ e ∈ oj.after, Region.binds md e = true → e.on ≠ i := fun e he hb heq => by
       have h1 := hall e he hb; rw [heq, getD_both hun] at h1; cases h1
     have h2 := c6z hoj (hfree j oj hoj hji hjun hnot) hI hy h1; have hfree' : ∀ k ok, ops[k]? = some ok → k ≠ i → (listed.setIfInBounds j true).getD k true = false →
         (∀ e ∈ ok.after, Region.binds md e = true → e.on ≠ i) → oi.apart ops ok = true := fun k ok hk hki hun hno => by
       refine hfree k ok hk hki ?_ hno; by_cases hjk : j = k
       · subst hjk; exact hjun
       · rw [getD_set_ne true hjk] at hun; exact hun
     refine c3z (fun a' h3 => ih (listed.setIfInBounds j true) a' (hset _ _ inv hj hjn) hfree' (ready_mono hr (Ne.symm hji)) h3.1 h3.2.1 ?_) h2; rw [Array.setIfInBounds_comm _ _ hji]; exact h3.2.2
def a3c (P : Program) (F : Nat → Bool) (ops : Array Oper) (ds : List Nat) : List Oper → (St → Prop) → St → Prop
 | [], K, σ => K σ
 | o :: rest, K, σ => A8 o.dst fun d => match o.guard with
   | none => D3 P F o.op d σ fun x => H8 ds x = true ∧ a3c P F ops ds rest K (B0 σ d x)
   | some (j, want) => A8 ((ops[j]?).bind (·.dst)) fun t => (match σ t with
     | .d (.bool b) => (b = want → D3 P F o.op d σ fun x => H8 ds x = true ∧ a3c P F ops ds rest K (B0 σ d x)) ∧ (b ≠ want → a3c P F ops ds rest K (B0 σ d (.tup [])))
     | .tup [] => a3c P F ops ds rest K (B0 σ d (.tup []))
     | _ => False)
theorem a5D {rest : List Oper} (hds : ∀ d, o.dst = some d → d ∈ ds) (h : a3c P F ops ds (o :: rest) K σ) : ∃ d x, YV P F ops ds o d σ x ∧ a3c P F ops ds rest K (B0 σ d x) := by
 simp only [a3c] at h; obtain ⟨d, hd, h⟩ := A4 h; refine ⟨d, ?_⟩; cases hg : o.guard with
 | none =>
   rw [hg] at h; obtain ⟨x, h1, h2, h3⟩ := a0N h; exact ⟨x, ⟨hd, hds d hd, h2, .inl ⟨by simp [O5, hg], h1⟩⟩, h3⟩
 | some g =>
   obtain ⟨j, want⟩ := g; rw [hg] at h; obtain ⟨t, ht, h⟩ := A4 h; split at h
   · rename_i b hb
     by_cases hbw : b = want
     · obtain ⟨x, h1, h2, h3⟩ := a0N (h.1 hbw); exact ⟨x, ⟨hd, hds d hd, h2, .inl ⟨by simp [O5, hg, ht, hb, hbw], h1⟩⟩, h3⟩
     · exact ⟨.tup [], ⟨hd, hds d hd, rfl, .inr ⟨by simp [O5, hg, ht, hb, hbw], rfl⟩⟩, h.2 hbw⟩
   · rename_i hb
     exact ⟨.tup [], ⟨hd, hds d hd, rfl, .inr ⟨by simp [O5, hg, ht, hb], rfl⟩⟩, h⟩
   · exact h.elim
theorem b6I {n g : Nat} {K : St → Prop} (Iv : Array Bool → Prop) (hset : ∀ listed j, Iv listed → j ∈ Region.ready md ops listed → j < n → Iv (listed.setIfInBounds j true)) (hlt : ∀ listed, Iv listed → ∀ k, k < n → listed.getD k true = false → ∀ j ∈ Region.ready md ops listed, j < n) :
   ∀ (l : List Oper) (k : Nat) (listed : Array Bool) (σ : St), (∀ o ∈ l, ∀ d, o.dst = some d → d ∈ ds) → (∀ j, j < l.length → l[j]? = ops[k + j]?) → k + l.length = n → Iv listed →
   Region.lexHead md ops g l.length k listed = true → INV ds σ → a3c P F ops ds l K σ →
   b2J P F md ops ds n (fun listed' σ' => Region.seqB md ops g n listed' = true ∧ INV ds σ' ∧ K σ') l.length listed σ
 | [], k, listed, σ, _, _, hk, _, hB, hI, h => by
   have : k = n := (by simpa using hk); subst this; exact ⟨by simpa [Region.lexHead] using hB, hI, h⟩
 | o :: l, k, listed, σ, hds, hl, hk, inv, hB, hI, h => by
   have h0 : ops[k]? = some o := by simpa using (hl 0 (by simp)).symm
   simp only [length_cons, Region.lexHead, Bool.and_eq_true] at hB; obtain ⟨⟨hr, hf⟩, hB'⟩ := hB; have hkn : k < n := by simp only [length_cons] at hk; omega
   have hr' : k ∈ Region.ready md ops listed := (by simpa using hr); obtain ⟨d, x, hy, hK⟩ := a5D (fun d hd => hds o (by simp) d hd) h; exact b1L Iv hset h0 hkn hlt (fun listed' a' hL => seqB_ready hL.1) l.length listed σ inv (Region.free_spec h0 hf) hr' hI hy
     (b6I Iv hset hlt l (k + 1) _ _ (fun o ho => hds o (by simp [ho])) (fun j hj => by have := hl (j + 1) (by simp; omega); simpa [Nat.add_assoc, Nat.add_comm 1 j] using this) (by simp only [length_cons] at hk; omega) (hset _ _ inv hr' hkn) hB' (hI.setv hy.2.2.1) hK)
theorem a3Y (hR : Rel P w0 L0 row w L O σ (B4 a)) {b : Bool} (h : O5 ops o σ = some b) : Region.wanted o (yielded ops a.tmps) = b := by
 unfold O5 at h; cases hg : o.guard with
 | none => rw [hg] at h; simp only [Option.some.injEq] at h; subst h; simp [Region.wanted, hg]
 | some g =>
   obtain ⟨j, want⟩ := g; rw [hg] at h; simp only at h; cases ht : (ops[j]?).bind (·.dst) with
   | none => rw [ht] at h; cases h
   | some t =>
     rw [ht] at h; simp only at h; split at h
     · rename_i c hc
       simp only [Option.some.injEq] at h; have := a6H hR ht hc; simp only [Region.wanted, hg, this, ← h]; cases c <;> cases want <;> rfl
     · rename_i hc
       simp only [Option.some.injEq] at h; have := a5O hR ht hc; simp only [Region.wanted, hg, this, ← h]; rfl
     · cases h
theorem a5k {n g : Nat} {k : Nat} {Lq : Array Bool → St → Prop} (hdst : ∀ o ∈ ops.toList, ∀ d, o.dst = some d → d < k)
   (hL : ∀ listed a w, B6 P w0 L0 row k (fun σ => INV ds σ ∧ Lq listed σ) a w → wpAny P md ops Q g listed a w) :
   ∀ (f : Nat) (listed : Array Bool) (a : Act) (w : World), B6 P w0 L0 row k (fun σ => INV ds σ ∧ b2J P F md ops ds n Lq f listed σ) a w → wpAny P md ops Q (f + g) listed a w
 | 0, listed, a, w, h => by rw [Nat.zero_add]; exact hL _ _ _ h
 | f + 1, listed, a, w, h => by
   obtain ⟨L, O, σ, hR, hdef, hsz, hI, hne, hall⟩ := h; rw [show f + 1 + g = (f + g) + 1 by omega]; refine ⟨fun h0 => absurd h0 hne, fun i hi => ?_⟩; have hop := (hall i hi).2; unfold aOp at hop; unfold wpOp; split at hop
   · rename_i hoi
     simp only [hoi]; exact a5k hdst hL f _ a w ⟨L, O, σ, hR, hdef, hsz, hI, hop⟩
   · rename_i o hoi
     simp only [hoi]; obtain ⟨d, x, ⟨h1, h2, h3, h4⟩, hK⟩ := hop; have hmem : o ∈ ops.toList := by rw [Array.mem_toList_iff]; exact Array.mem_of_getElem? hoi
     have hlt := hdst o hmem; rcases h4 with ⟨hw, hp⟩ | ⟨hw, rfl⟩
     · rw [if_pos (a3Y hR hw)]; refine .inl (Oper.wp_mono ?_ (a3n (K := fun τ => τ = put σ d x) h1 (hlt d h1) hsz hdef hR (a0h hp fun y hy => by rw [hy]))); rintro a' w' ⟨L1, O1, σ1, hR1, hd1, hs1, rfl⟩; rw [R5 hI h2 h3] at hR1; exact a5k hdst hL f _ a' w' ⟨L1, O1, _, hR1, hd1, hs1, hI.setv h3, hK⟩
     · rw [if_neg (by rw [a3Y hR hw]; simp)]; have hg := a3p (K := fun τ => τ = put σ d (.tup [])) hR hlt hsz hdef (by rw [h1]; rfl); obtain ⟨L1, O1, σ1, hR1, hd1, hs1, rfl⟩ := hg; rw [R5 hI h2 h3] at hR1; exact a5k hdst hL f _ _ w ⟨L1, O1, _, hR1, hd1, hs1, hI.setv h3, hK⟩
def F3 (ds : List Nat) (x : AV) : AV :=
 match x with
 | .bor j m e l => if ds.contains j then (if m then .undef else .d (.sl l)) else .bor j m e l
 | .adr j p => if ds.contains j then .undef else .adr j p
 | .eadr j i p => if ds.contains j then .undef else .eadr j i p
 | .sub j i => if ds.contains j then .undef else .sub j i
 | y => y
def I3 (ds : List Nat) (σ : St) : St := fun t => F3 ds (σ t)
theorem a3Q (hb : ∀ d ∈ ds, d < 1000000) : INV ds (I3 ds σ) := by
 refine ⟨fun t => ?_, hb⟩; simp only [I3]; cases σ t with
 | bor j m e l =>
   simp only [F3]; by_cases h : ds.contains j = true
   · rw [if_pos h]; cases m <;> rfl
   · rw [if_neg h]; simpa [H8, H5] using h
 | adr j p =>
   simp only [F3]; by_cases h : ds.contains j = true
   · rw [if_pos h]; rfl
   · rw [if_neg h]; simpa [H8, H5] using h
 | eadr j i p =>
   simp only [F3]; by_cases h : ds.contains j = true
   · rw [if_pos h]; rfl
   · rw [if_neg h]; simpa [H8, H5] using h
 | sub j i =>
   simp only [F3]; by_cases h : ds.contains j = true
   · rw [if_pos h]; rfl
   · rw [if_neg h]; simpa [H8, H5] using h
 | _ => rfl
theorem Rel.clean (h : Rel P w0 L0 row w L O σ tm) (ds : List Nat) : Rel P w0 L0 row w L O (Vw.I3 ds σ) tm := by
 refine ⟨h.grown, h.lok, h.gl, h.old, fun i => ?_, h.inj, h.olt⟩; have h1 := h.slots i; have hown : ∀ {j m e l}, σ j = AV.own m e l → Vw.I3 ds σ j = .own m e l := fun hj => by simp only [Vw.I3, hj, F3]
 have hbox : ∀ {j b}, Q6 (σ j) = some b → Q6 (Vw.I3 ds σ j) = some b := fun {j b} hj => by
   simp only [Vw.I3]; cases hx : σ j <;> rw [hx] at hj <;> simp [Q6] at hj <;> simpa [F3, Q6] using hj
 have hown2 : ∀ {j y}, K1 (σ j) = some y → Vw.I3 ds σ j = σ j := fun {j y} hj => by
   simp only [Vw.I3]; cases hx : σ j <;> rw [hx] at hj <;> simp [K1] at hj <;> rfl
 show RA P w L O (Vw.I3 ds σ) tm (O i) (F3 ds (σ i)) (tm i)
 cases hx : σ i <;> rw [hx] at h1 <;> simp only [F3]
 case bor j m e l =>
   split
   · cases m with
     | true => simp [RA, RC]
     | false => exact RA.asD h.slots h1 rfl
   · exact ⟨hown h1.1, h1.2⟩
 case adr j p =>
   split
   · simp [RA, RC]
   · obtain ⟨b, g, off, e1, e2⟩ := h1; exact ⟨b, g, off, hbox e1, e2⟩
 case eadr j k p =>
   split
   · simp [RA, RC]
   · obtain ⟨e, l, g, sz, m, c, b, off, e1, e2⟩ := h1; exact ⟨e, l, g, sz, m, c, b, off, by rw [hown2 e1]; exact e1, by rw [hown2 e1]; exact e2⟩
 case sub j k =>
   split
   · simp [RA, RC]
   · obtain ⟨e, l, sz, e1, e2⟩ := h1; exact ⟨e, l, sz, by rw [hown2 e1]; exact e1, by rw [hown2 e1]; exact e2⟩
 all_goals exact h1
def a4g (F : Nat → Bool) (d : Option Nat) : Op → Bool
 | .store _ _ _ => true
 | .call { callee := .builtin .append, .. } => true
 | .call { callee := .builtin .clear, .. } => true
 | .call { callee := .builtin .delete, .. } => true
 | .mapUpdate _ _ _ _ => true
 | .insert _ _ _ _ => true
 | .makeMap _ _ => true
 | .call { callee := .value _, .. } => match d with
   | some d => F (d + 3000000) || F (d + 4000000) || F (d + 5000000) || F (d + 17000000)
   | none => true
 | _ => false
def S4 (F : Nat → Bool) : List Oper → Nat
 | [] => 0
 | o :: l => if a4g F o.dst o.op then 0 else S4 F l + 1
def M5 (l : List Oper) : List Nat := l.filterMap (·.dst)
def M0 (F : Nat → Bool) : List Oper → List Nat
 | [] => []
 | o :: l => if a4g F o.dst o.op then [] else (match o.dst with
   | some d => d :: M0 F l
   | none => M0 F l)
theorem a5f : ∀ l : List Oper, M0 F l = M5 (l.take (S4 F l))
 | [] => rfl
 | o :: l => by
   simp only [M0, S4]; by_cases he : a4g F o.dst o.op = true
   · rw [if_pos he, if_pos he]; rfl
   · rw [if_neg he, if_neg he, take_succ_cons, a5f l]; cases ho : o.dst <;> simp [M5, ho]
def P3 (P : Program) (F : Nat → Bool) (ops : Array Oper) (ds : List Nat) : List Oper → (St → Prop) → St → Prop
 | [], K, σ => K σ
 | o :: rest, K, σ => if a4g F o.dst o.op then J5 P F ops (o :: rest) K σ else A8 o.dst fun d => match o.guard with
   | none => D3 P F o.op d σ fun x => H8 ds x = true ∧ P3 P F ops ds rest K (B0 σ d x)
   | some (j, want) => A8 ((ops[j]?).bind (·.dst)) fun t => (match σ t with
     | .d (.bool b) => (b = want → D3 P F o.op d σ fun x => H8 ds x = true ∧ P3 P F ops ds rest K (B0 σ d x)) ∧ (b ≠ want → P3 P F ops ds rest K (B0 σ d (.tup [])))
     | .tup [] => P3 P F ops ds rest K (B0 σ d (.tup []))
     | _ => False)
theorem a1l : ∀ (l : List Oper) (σ : St), P3 P F ops ds l K σ → a3c P F ops ds (l.take (S4 F l)) (fun σ' => J5 P F ops (l.drop (S4 F l)) K σ') σ
 | [], σ, h => h
 | o :: l, σ, h => by
   simp only [P3] at h; by_cases he : a4g F o.dst o.op = true
   · rw [if_pos he] at h; simp only [S4, if_pos he, take_zero, drop_zero, a3c]; exact h
   · rw [if_neg he] at h; simp only [S4, if_neg he, take_succ_cons, drop_succ_cons, a3c]; refine F7 h fun d h => ?_
     cases hg : o.guard with
     | none =>
       rw [hg] at h; exact a0h h fun x hx => ⟨hx.1, a1l l _ hx.2⟩
     | some g =>
       obtain ⟨j, want⟩ := g; rw [hg] at h; refine F7 h fun t h => ?_
       split at h
       · exact ⟨fun e => a0h (h.1 e) fun x hx => ⟨hx.1, a1l l _ hx.2⟩, fun e => a1l l _ (h.2 e)⟩
       · exact a1l l _ h
       · exact h.elim
def a0K (ops : Array Oper) (i : Nat) : Bool :=
 match ops[i]? with
 | some { dst := some d, op := .move (.tmp t), after, guard := none, .. } => after.isEmpty && Region.noSelect ops && (List.range ops.size).all fun j => j == i || (match ops[j]? with
   | some o => o.dst != some d && o.dst != some t && (!(o.looksAt ops).contains d || Region.waitsFor .any ops j i)
   | none => true)
 | _ => false
theorem a5l {i : Nat} (h : a0K ops i = true) : ∃ d t oi, ops[i]? = some oi ∧ oi.dst = some d ∧ oi.op = .move (.tmp t) ∧ oi.after = #[] ∧ oi.guard = none ∧ Region.noSelect ops = true ∧
   ∀ j o, ops[j]? = some o → j ≠ i → o.dst ≠ some d ∧ o.dst ≠ some t ∧ (d ∈ o.looksAt ops → Region.waitsFor .any ops j i = true) := by
 unfold a0K at h; split at h
 · rename_i d t ty pos after heq
   simp only [Bool.and_eq_true, Array.isEmpty_iff] at h; refine ⟨d, t, _, heq, rfl, rfl, h.1.1, rfl, h.1.2, fun j o ho hne => ?_⟩; have hj : j < ops.size := (Array.getElem?_eq_some_iff.1 ho).1; have := all_eq_true.1 h.2 j (mem_range.2 hj); simp only [ho, Bool.or_eq_true, beq_iff_eq, hne, false_or, Bool.and_eq_true, bne_iff_ne, ne_eq, Bool.not_eq_true', contains_eq_mem, decide_eq_false_iff_not] at this; exact ⟨this.1.1, this.1.2, fun hd => (this.2.resolve_left (fun h => h hd))⟩
 · cases h
theorem c5E {o : Oper} {a : Act} {K K' : Act → World → Prop} {Q' : Exit → Act → World → Prop} (hQ : ∀ ch a w, ¬ Q' (.panic ch) a w) (hL : ¬ LetsOut Q') (d : Nat) (v : Value) (he : execOp (a.put (some d) v).eval o = execOp a.eval o)
   (hK : ∀ (x : List Deferred) u w', K' (({ a with defers := x } : Act).put (some d) v |>.put o.dst u) w' → K (({ a with defers := x } : Act).put o.dst u) w') (h : o.wp P (a.put (some d) v) w K' Q') : o.wp P a w K Q' := by
 unfold Oper.wp at h ⊢; rw [he] at h; generalize (execOp a.eval o).run P w = res at h ⊢; unfold Oper.upon at h ⊢; split <;> simp only at h ⊢
 · exact hK a.defers _ _ h
 · exact hK a.defers _ _ h
 · exact hK _ _ _ h
 · refine h.mono ?_; intro e' w'' hh; cases e' with
   | returned u => exact hK a.defers _ _ hh
   | panicked ch => exact absurd hh (hQ _ _ _)
   | outgrown => exact absurd hh hL
 · exact h.mono fun u w'' hh => hK a.defers _ _ hh
 · exact absurd h (hQ _ _ _)
theorem b4H (h : Region.noSelect ops = true) {j : Nat} {o : Oper} (hj : ops[j]? = some o) : ∀ cs b, o.op ≠ .select cs b := by
 intro cs b e; unfold Region.noSelect at h; have := Array.all_eq_true'.1 h o (Array.mem_of_getElem? hj); rw [e] at this; simp at this
theorem b1T {i : Nat} {Q' : Exit → Act → World → Prop} (hQ : ∀ ch a w, ¬ Q' (.panic ch) a w) (hL : ¬ LetsOut Q') {d t : Nat} {oi : Oper} (hi : ops[i]? = some oi) (h1 : oi.dst = some d) (h2 : oi.op = .move (.tmp t)) (h3 : oi.after = #[]) (h4 : oi.guard = none) (h5 : Region.noSelect ops = true)
   (h6 : ∀ j o, ops[j]? = some o → j ≠ i → o.dst ≠ some d ∧ o.dst ≠ some t ∧ (d ∈ o.looksAt ops → Region.waitsFor .any ops j i = true)) :
   ∀ (f : Nat) (listed : Array Bool) (a : Act) (w : World), listed.getD i true = false →
     wpAny P .any ops Q' f (listed.setIfInBounds i true) (a.put (some d) (a.eval (.tmp t))) w → wpAny P .any ops Q' (f + 1) listed a w := by
 intro f
 induction f with
 | zero =>
   intro listed a w hun H; have hr : i ∈ Region.ready .any ops listed := mem_ready.2 ⟨hun, oi, hi, fun e he => by rw [h3] at he; simp at he⟩; refine ⟨fun h => (by rw [h] at hr; cases hr), fun j hj => ?_⟩; by_cases hji : j = i
   · subst hji; unfold wpOp; simp only [hi, Region.wanted, h4, if_true]; refine .inl ?_; have : (execOp a.eval oi).run P w = .ok (.value (a.eval (.tmp t))) w := (by simp [execOp, h2]); unfold Oper.wp; rw [this]; simp only [Oper.upon, h1]; exact H
   · have := ready_mono hj hji; rw [H.1] at this; cases this
 | succ f ih =>
   intro listed a w hun H; have hr : i ∈ Region.ready .any ops listed := mem_ready.2 ⟨hun, oi, hi, fun e he => by rw [h3] at he; simp at he⟩; refine ⟨fun h => (by rw [h] at hr; cases hr), fun j hj => ?_⟩; by_cases hji : j = i
   · subst hji; unfold wpOp; simp only [hi, Region.wanted, h4, if_true]; refine .inl ?_; have : (execOp a.eval oi).run P w = .ok (.value (a.eval (.tmp t))) w := (by simp [execOp, h2]); unfold Oper.wp; rw [this]; simp only [Oper.upon, h1]; exact H
   · have hstep := H.2 j (ready_mono hj hji); obtain ⟨hjun, oj, hoj, hall⟩ := mem_ready.1 hj; obtain ⟨g1, g2, g3⟩ := h6 j oj hoj hji; have hnl : d ∉ oj.looksAt ops := fun hd => by
       obtain ⟨o', ho', e, he, hb, hon⟩ := Region.waitsFor_spec (g3 hd); obtain rfl : oj = o' := Option.some.inj (hoj.symm.trans ho'); have := hall e he hb; rw [hon, getD_both hun] at this; cases this
     have hne : ∀ (x : List Deferred) (u : Value), (({ a with defers := x } : Act).put (some d) (a.eval (.tmp t))).put oj.dst u = (({ a with defers := x } : Act).put oj.dst u).put (some d) ((({ a with defers := x } : Act).put oj.dst u).eval (.tmp t)) := by
       intro x u; rw [Act.put_comm _ _ _ (fun d' hd' => by obtain rfl : d = d' := (by simpa using hd'); exact g1)]; congr 1
       rw [Act.eval_put (fun d' hd' e => by
         simp only [Operand.tmp.injEq] at e; subst e; exact g2 hd')]
       rfl
     have next : ∀ (x : List Deferred) (u : Value) (w' : World), wpAny P .any ops Q' f ((listed.setIfInBounds i true).setIfInBounds j true) ((({ a with defers := x } : Act).put (some d) (a.eval (.tmp t))).put oj.dst u) w' →
         wpAny P .any ops Q' (f + 1) (listed.setIfInBounds j true) (({ a with defers := x } : Act).put oj.dst u) w' := by
       intro x u w' hx; rw [hne x u, Array.setIfInBounds_comm _ _ (Ne.symm hji)] at hx; exact ih _ _ _ (by rw [getD_set_ne true hji]; exact hun) hx
     unfold wpOp at hstep ⊢; simp only [hoj] at hstep ⊢; have hy : Region.wanted oj (yielded ops (a.put (some d) (a.eval (.tmp t))).tmps) = Region.wanted oj (yielded ops a.tmps) := by
       unfold Region.wanted; cases hg : oj.guard with
       | none => rfl
       | some g =>
         obtain ⟨k, want⟩ := g; have : yielded ops (a.put (some d) (a.eval (.tmp t))).tmps k = yielded ops a.tmps k := by
           unfold yielded; cases hk : (ops[k]?).bind (·.dst) with
           | none => rfl
           | some s =>
             have hsd : d ≠ s := by
               rintro rfl; exact hnl (by simp [Oper.looksAt, hg, hk])
             simp [Act.put, Array.getElem?_setIfInBounds_ne hsd]
         simp only [this]
     rw [hy] at hstep; split
     · rename_i hw
       rw [if_pos hw] at hstep; rcases hstep with hstep | ⟨_, hstep⟩
       · exact .inl (c5E hQ hL d _ (execOp_put (ops := ops) oj (b4H h5 hoj) a (some d) _ (fun d' hd' => by obtain rfl : d = d' := (by simpa using hd'); exact hnl)) next hstep)
       · exact absurd hstep hL
     · rename_i hw
       rw [if_neg hw] at hstep; exact next a.defers undef w hstep
def a9D (ops : Array Oper) : Nat := ((List.range ops.size).takeWhile (a0K ops)).length
theorem b1Q {i : Nat} (h : i < a9D ops) : a0K ops i = true := by
 have hmem : ((List.range ops.size).takeWhile (a0K ops))[i]? = some i := by
   have h1 : (List.range ops.size).takeWhile (a0K ops) <+: List.range ops.size := takeWhile_prefix _; obtain ⟨r, hr⟩ := h1; have h2 : (List.range ops.size)[i]? = ((List.range ops.size).takeWhile (a0K ops))[i]? := by
     conv => lhs; rw [← hr]
     exact getElem?_append_left h
   rw [← h2]; have h3 : i < (List.range ops.size).length := by rw [← hr]; simp only [length_append]; unfold a9D at h; omega
   rw [getElem?_range (by simpa using h3)]
 exact all_takeWhile (p := a0K ops) (l := List.range ops.size) |> fun h => all_eq_true.1 h i (mem_of_getElem? hmem)
def J1 : Nat → Array Bool → Array Bool
 | 0, l => l
 | k + 1, l => (J1 k l).setIfInBounds k true
def a2h (ops : Array Oper) (k n : Nat) : Bool := (List.range n).all fun i => decide (i < k) || (List.range (n + 1)).any fun j => decide (i < j) && Region.waitsFor .any ops j i
theorem a6d {k n : Nat} {listed : Array Bool} (hs : a2h ops k n = true) (hc : Region.chainB .any ops n = true) (hn : n < ops.size) (inv : HeadInv .any ops n listed) (hk : ∀ i, i < k → listed.getD i false = true) :
   ∀ (d i : Nat), n - i = d → i < n → listed.getD i true = false → ∀ t, n ≤ t → t ∉ Region.ready .any ops listed := by
 intro d
 induction d using Nat.strongRecOn with
 | _ d ih =>
   intro i hd hi hun t ht hr; obtain ⟨_, ot, hot, hall⟩ := mem_ready.1 hr; have htlt : t < ops.size := (Array.getElem?_eq_some_iff.1 hot).1; by_cases htn : t = n
   · subst htn; have h1 := all_eq_true.1 hs i (mem_range.2 hi); simp only [Bool.or_eq_true, decide_eq_true_eq] at h1; rcases h1 with h1 | h1
     · have := hk i h1; rw [getD_both hun] at this; cases this
     obtain ⟨j, hj, hj2⟩ := any_eq_true.1 h1; simp only [Bool.and_eq_true, decide_eq_true_eq] at hj2; obtain ⟨oj, hoj, e, he, hb, hon⟩ := Region.waitsFor_spec hj2.2; have hjle : j ≤ t := by have := mem_range.1 hj; omega
     by_cases hjt : j = t
     · subst hjt; have : oj = ot := Option.some.inj (hoj.symm.trans hot); subst this; have h2 := hall e he hb; rw [hon, getD_both hun] at h2; cases h2
     · cases hl : listed.getD j false with
       | true =>
         have h2 := inv.closed j oj hoj hl e he hb; rw [hon, getD_both hun] at h2; cases h2
       | false =>
         have hjs : j < listed.size := by rw [inv.size]; omega
         exact ih (t - j) (by omega) j rfl (by omega) (getD_in hjs hl) t (Nat.le_refl _) hr
   · have h1 := all_eq_true.1 hc t (mem_range.2 htlt); simp only [Bool.or_eq_true, decide_eq_true_eq] at h1; rcases h1 with h1 | h1
     · omega
     · obtain ⟨o', ho', e, he, hb, hon⟩ := Region.waitsFor_spec h1; have : o' = ot := Option.some.inj (ho'.symm.trans hot); subst this; have h2 := hall e he hb; rw [hon, getD_both (inv.tail (t - 1) (by omega) (by omega))] at h2; cases h2
def b4V (F : Nat → Bool) (ops : Array Oper) : Bool :=
 let n := S4 F ops.toList
 let k := min n (a9D ops)
 (decide (n = ops.size) || (decide (n < ops.size) && a2h ops k n && Region.chainB .any ops n)) &&
 Region.lexHead .any ops (ops.size - n) (n - k) k (J1 k (Array.replicate ops.size false)) && (ops.toList.all fun o => match o.dst with
   | some d => decide (d < 1000000)
   | none => true)
theorem b0v : ∀ (l : List Oper), S4 F l ≤ l.length
 | [] => Nat.le_refl _
 | o :: l => by simp only [S4]; split <;> simp; have := b0v l; omega
theorem b1C (s : Nat) : ∀ m, (J1 m (Array.replicate s false)).size = s
 | 0 => by simp [J1]
 | m + 1 => by simp [J1, b1C s m]
theorem a0Q {s : Nat} : ∀ (m i : Nat), m ≤ i → i < s → (J1 m (Array.replicate s false)).getD i true = false
 | 0, i, _, hi => getD_in (by simpa [J1] using hi) (getD_replicate_false _ _)
 | m + 1, i, h, hi => by
   simp only [J1]; rw [getD_set_ne true (by omega)]; exact a0Q m i (by omega) hi
theorem a2z {s : Nat} : ∀ (m i : Nat), i < m → i < s → (J1 m (Array.replicate s false)).getD i false = true
 | 0, i, h, _ => by omega
 | m + 1, i, h, hi => by
   simp only [J1]; by_cases him : m = i
   · subst him; have := b1C s m; simp [this, hi]
   · rw [getD_set_ne false him]; exact a2z m i (by omega) hi
theorem a8v {nn : Nat} (hn : nn ≤ ops.size) : ∀ (m : Nat), m ≤ nn → (∀ i, i < m → a0K ops i = true) → HeadInv .any ops nn (J1 m (Array.replicate ops.size false))
 | 0, _, _ => ⟨by simp [J1], fun j oj _ hl => (by simp only [J1] at hl; rw [getD_replicate_false] at hl; cases hl), fun t _ ht => a0Q 0 t (Nat.zero_le _) ht⟩
 | m + 1, hm, hl => by
   have ih := a8v hn m (by omega) (fun i hi => hl i (by omega)); obtain ⟨d, t, oi, g1, g2, g3, g4, g5, g6, g7⟩ := a5l (hl m (by omega)); refine ih.set (mem_ready.2 ⟨a0Q m m (Nat.le_refl _) (by omega), oi, g1, fun e he => ?_⟩) (by omega); rw [g4] at he; simp at he
theorem c5K {id kk : Nat} {K : St → Prop} (hm : P.follows .mixedOrders = true) (hB : b4V F ops = true) (hdst : ∀ o ∈ ops.toList, ∀ d, o.dst = some d → d < kk)
   (h : B6 P w0 L0 row kk (fun σ => P3 P F ops (M0 F ops.toList) ops.toList K (I3 (M0 F ops.toList) σ)) a w) (hQ : ∀ a w, B6 P w0 L0 row kk K a w → Q .normal a w) : (Code.region id ops true).wp P Q a w := by
 obtain ⟨L, O, σ, hR, hdef, hsz, h⟩ := h; simp only [b4V] at hB; generalize hnn : S4 F ops.toList = nn at hB; generalize hkk : min nn (a9D ops) = k at hB; simp only [Bool.and_eq_true, Bool.or_eq_true, decide_eq_true_eq] at hB; obtain ⟨⟨hcase, hlex⟩, hlt6⟩ := hB; have hle := b0v (F := F) ops.toList; rw [Array.length_toList, hnn] at hle; have hkn : k ≤ nn := (by omega); have hlate : ∀ i, i < k → a0K ops i = true := fun i hi => b1Q (by omega)
 have hds6 : ∀ d ∈ M0 F ops.toList, d < 1000000 := by
   intro d hd; rw [a5f] at hd; simp only [M5, mem_filterMap] at hd; obtain ⟨o, ho, hod⟩ := hd; have := all_eq_true.1 hlt6 o (mem_of_mem_take ho); simpa [hod] using this
 have hds : ∀ o ∈ ops.toList.take nn, ∀ d, o.dst = some d → d ∈ M0 F ops.toList := fun o ho d hd => by rw [a5f, hnn]; simp only [M5, mem_filterMap]; exact ⟨o, ho, hd⟩
 let Q0 : Exit → Act → World → Prop := fun e a w => e = .normal ∧ B6 P w0 L0 row kk K a w
 have hQp : ∀ ch a w, ¬ Q0 (.panic ch) a w := fun ch a w h => by cases h.1
 have hQl : ¬ LetsOut Q0 := fun ⟨a, w, h⟩ => by cases h.1
 refine wp_mono (Q := Q0) (wp_region_any hm ?_) (fun e a w ⟨he, hg⟩ => by subst he; exact hQ a w hg); generalize hw1 : ({ w with drawn := w.drawn + 1 } : World) = w1; have hR1 : Rel P w0 L0 row w1 L O (I3 (M0 F ops.toList) σ) (B4 a) := by rw [← hw1]; exact (hR.drew).clean _
 have h0 := a1l (F := F) _ _ h; rw [hnn] at h0; have htl : (ops.toList.take nn).length = nn := by simp; omega
 have hdl : (ops.toList.drop nn).length = ops.size - nn := (by simp); have main : ∀ j, j ≤ k → ∀ a, B6 P w0 L0 row kk (fun σ => INV (M0 F ops.toList) σ ∧ a3c P F ops (M0 F ops.toList) ((ops.toList.take nn).drop (k - j)) (fun σ' => J5 P F ops (ops.toList.drop nn) K σ') σ) a w1 →
     wpAny P .any ops Q0 (ops.size - (k - j)) (J1 (k - j) (Array.replicate ops.size false)) a w1 := by
   intro j
   induction j with
   | zero =>
     intro _ a hg; simp only [Nat.sub_zero] at hg ⊢; obtain ⟨L1, O1, a0, hR2, hd2, hs2, hI, hv⟩ := hg; have inv0 := a8v hle k hkn hlate; have hk0 : ∀ i, i < k → (J1 k (Array.replicate ops.size false)).getD i false = true := fun i hi => a2z k i hi (by omega)
     have hlt : ∀ listed, HeadInv .any ops nn listed ∧ (∀ i, i < k → listed.getD i false = true) → ∀ i, i < nn → listed.getD i true = false → ∀ j ∈ Region.ready .any ops listed, j < nn := by
       intro listed ⟨inv, hk⟩ i hi hun j hj; rcases hcase with h1 | ⟨⟨h1, h2⟩, h3⟩
       · obtain ⟨_, o, ho, _⟩ := mem_ready.1 hj; rw [h1]; exact (Array.getElem?_eq_some_iff.1 ho).1
       · rcases Nat.lt_or_ge j nn with h4 | h4
         · exact h4
         · exact absurd hj (a6d h2 h3 h1 inv hk _ i rfl hi hun j h4)
     have H := b6I (md := .any) (g := ops.size - nn) (P := P) (F := F) (ds := M0 F ops.toList) (K := fun σ' => J5 P F ops (ops.toList.drop nn) K σ') (fun listed => HeadInv .any ops nn listed ∧ ∀ i, i < k → listed.getD i false = true)
       (fun listed j ⟨h1, h2⟩ hj hjn => ⟨h1.set hj hjn, fun i hi => getD_set_true (h2 i hi)⟩) hlt ((ops.toList.take nn).drop k) k _ a0 (fun o ho => hds o (mem_of_mem_drop ho)) (fun j hj => by
         have hj' : k + j < nn := by simp at hj; omega
         simp [getElem?_drop, getElem?_take, hj']) (by simp; omega) ⟨inv0, hk0⟩ (by rw [length_drop, htl]; exact hlex) hI hv
     have := a5k (md := .any) (Q := Q0) (g := ops.size - nn) (k := kk) (w0 := w0) (L0 := L0) (row := row) hdst (fun listed a' w' hg => by
       obtain ⟨L1, O1, σ1, hR1, hd1, hs1, _, hseq, _, hv⟩ := hg; have := wpAny_of_seq (md := .any) (Q' := Q0) (P := P) (ops.toList.drop nn) nn listed a' w' (fun j => by simp [getElem?_drop]) (by rw [hdl]; exact hseq)
         (a6p (ops.toList.drop nn) a' w' (fun o ho d hd => hdst o (mem_of_mem_drop ho) d hd) ⟨L1, O1, σ1, hR1, hd1, hs1, hv⟩ (fun a w hg => ⟨rfl, hg⟩))
       rwa [hdl] at this) _ _ a w1 ⟨L1, O1, a0, hR2, hd2, hs2, hI, H⟩
     rw [length_drop, htl, show nn - k + (ops.size - nn) = ops.size - k by omega] at this; exact this
   | succ j ih =>
     intro hj a hg; have hik : k - (j + 1) < k := (by omega); obtain ⟨d, t, oi, g1, g2, g3, g4, g5, g6, g7⟩ := a5l (hlate _ hik); have hsucc : k - j = k - (j + 1) + 1 := (by omega); have hstep : ops.size - (k - (j + 1)) = (ops.size - (k - j)) + 1 := (by omega); rw [hstep]; refine b1T hQp hQl g1 g2 g3 g4 g5 g6 g7 _ _ _ _ (a0Q _ _ (Nat.le_refl _) (by omega)) ?_; have hmk : (J1 (k - (j + 1)) (Array.replicate ops.size false)).setIfInBounds (k - (j + 1)) true = J1 (k - j) (Array.replicate ops.size false) := by rw [hsucc]; rfl
     rw [hmk]; refine ih (by omega) _ ?_; obtain ⟨L1, O1, σ1, hR2, hd2, hs2, hI, hv⟩ := hg; have hcons : (ops.toList.take nn).drop (k - (j + 1)) = oi :: (ops.toList.take nn).drop (k - j) := by
       rw [drop_eq_getElem_cons (by rw [htl]; omega), hsucc]; congr 1
       have : (ops.toList.take nn)[k - (j + 1)]? = some oi := by rw [getElem?_take, if_pos (by omega)]; simpa using g1
       exact (List.getElem?_eq_some_iff.1 this).2
     rw [hcons] at hv; have hmem : oi ∈ ops.toList := by rw [Array.mem_toList_iff]; exact Array.mem_of_getElem? g1
     have hmemt : oi ∈ ops.toList.take nn := mem_of_mem_drop (i := k - (j + 1)) (by rw [hcons]; simp); obtain ⟨d', x, ⟨y1, y2, y3, y4⟩, hK⟩ := a5D (hds oi hmemt) hv; obtain rfl : d = d' := by rw [g2] at y1; simpa using y1
     have hp : D3 P F oi.op d σ1 (fun y => y = x) := by
       rcases y4 with ⟨_, hp⟩ | ⟨hw, _⟩
       · exact hp
       · simp [O5, g5] at hw
     have hwp := a3n (K := fun τ => τ = put σ1 d x) (Q := fun _ _ _ => False) g2 (hdst oi hmem d g2) hs2 hd2 hR2 (a0h hp fun y hy => by rw [hy]); have hrun : (execOp a.eval oi).run P w1 = .ok (.value (a.eval (.tmp t))) w1 := (by simp [execOp, g3]); unfold Oper.wp at hwp; rw [hrun] at hwp; simp only [Oper.upon, g2] at hwp; obtain ⟨L2, O2, σ2, hR3, hd3, hs3, rfl⟩ := hwp; rw [R5 hI y2 y3] at hR3; exact ⟨L2, O2, _, hR3, hd3, hs3, hI.setv y3, hK⟩
 have := main k (Nat.le_refl _) a ⟨L, O, _, hR1, hdef, hsz, a3Q hds6, by rw [Nat.sub_self, drop_zero]; exact h0⟩; rw [Nat.sub_self] at this; exact this
end Go.Vw
namespace Go.Vw
open Go.RowKit Go.Proofs
variable {P : Program} {F : Nat → Bool} {w0 : World} {L0 : Nat → Nat → Prop} {row : Nat → Prop} {n : Nat} {K : St → Prop} {Q : Exit → Act → World → Prop}
 {w : World} {a : Act} {ops : Array Oper}
inductive OT where
 | leaf
 | stuck
 | node (l : List (Nat × OT))
mutual
def aT (P : Program) (F : Nat → Bool) (ops : Array Oper) (K : St → Prop) : OT → St → Prop
 | .leaf, σ => K σ
 | .stuck, _ => False
 | .node l, σ => aTL P F ops K l σ
def aTL (P : Program) (F : Nat → Bool) (ops : Array Oper) (K : St → Prop) : List (Nat × OT) → St → Prop
 | [], _ => True
 | (i, t) :: l, σ => (match ops[i]? with
   | none => aT P F ops K t σ
   | some o => J5 P F ops [o] (aT P F ops K t) σ) ∧ aTL P F ops K l σ
end
def a2J (ops : Array Oper) : Nat → Array Bool → OT
 | 0, listed => if Region.ready .any ops listed = [] then .leaf else .stuck
 | g + 1, listed => if Region.ready .any ops listed = [] then .leaf else .node ((Region.ready .any ops listed).map fun i => (i, a2J ops g (listed.setIfInBounds i true)))
theorem c5B {o : Oper} {K' : Act → World → Prop} (hdst : ∀ d, o.dst = some d → d < n) (h : B6 P w0 L0 row n (J5 P F ops [o] K) a w) (hQ : ∀ a w, B6 P w0 L0 row n K a w → K' a w) :
   if Region.wanted o (yielded ops a.tmps) then o.wp P a w K' Q ∨ (o.asks P a w ∧ LetsOut Q) else K' (a.put o.dst undef) w := by
 have hrest : ∀ a w, B6 P w0 L0 row n (J5 P F ops [] K) a w → K' a w := fun a w hg => hQ a w hg
 obtain ⟨L, O, σ, hR, hdef, hsz, hv⟩ := h; simp only [J5] at hv; have run : vop P F o K σ → o.wp P a w K' Q := fun hv => by
   have h1 : o.wp P a w (B6 P w0 L0 row n K) Q := a4N hdst hsz hdef hR hv; exact Oper.wp_mono hQ h1
 cases hg : o.guard with
 | none =>
   rw [hg] at hv; simp only [Region.wanted, hg, if_true]; exact .inl (run hv)
 | some g =>
   obtain ⟨j, want⟩ := g; rw [hg] at hv; obtain ⟨t, ht, hv⟩ := A4 hv; split at hv
   · rename_i b hb
     have hy := a6H hR ht hb; by_cases hbw : b = want
     · have : Region.wanted o (yielded ops a.tmps) = true := (by simp [Region.wanted, hg, hy, hbw]); rw [if_pos this]; exact .inl (run (hv.1 hbw))
     · have : ¬ Region.wanted o (yielded ops a.tmps) = true := (by simp [Region.wanted, hg, hy, hbw]); rw [if_neg this]; exact hQ _ _ (a3p hR hdst hsz hdef (hv.2 hbw))
   · rename_i hb
     have hy := a5O hR ht hb; have : ¬ Region.wanted o (yielded ops a.tmps) = true := (by simp [Region.wanted, hg, hy]); rw [if_neg this]; exact hQ _ _ (a3p hR hdst hsz hdef hv)
   · exact hv.elim
theorem b8i : ∀ {l : List (Nat × OT)} {σ : St}, aTL P F ops K l σ → ∀ {i : Nat} {t : OT}, (i, t) ∈ l → (match ops[i]? with
   | none => aT P F ops K t σ
   | some o => J5 P F ops [o] (aT P F ops K t) σ)
 | [], _, _, _, _, hm => by simp at hm
 | x :: l, σ, h, i, t, hm => by
   simp only [aTL] at h; rcases mem_cons.1 hm with rfl | hm
   · exact h.1
   · exact b8i h.2 hm
theorem c2i (hdst : ∀ o ∈ ops.toList, ∀ d, o.dst = some d → d < n) (hQ : ∀ a w, B6 P w0 L0 row n K a w → Q .normal a w) :
   ∀ (g : Nat) (listed : Array Bool) (a : Act) (w : World), B6 P w0 L0 row n (aT P F ops K (a2J ops g listed)) a w → wpAny P .any ops Q g listed a w := by
 intro g
 induction g with
 | zero =>
   intro listed a w h; rw [a2J] at h; split at h
   · rename_i hr
     simp only [aT] at h; exact ⟨hr, hQ a w h⟩
   · simp only [aT] at h; obtain ⟨_, _, _, _, _, _, hf⟩ := h; exact hf.elim
 | succ g ih =>
   intro listed a w h; rw [a2J] at h; split at h
   · rename_i hr
     simp only [aT] at h; refine ⟨fun _ => hQ a w h, fun i hi => ?_⟩; rw [hr] at hi; cases hi
   · rename_i hr
     refine ⟨fun h0 => absurd h0 hr, fun i hi => ?_⟩; simp only [aT] at h; obtain ⟨L, O, σ, hR, hdef, hsz, hv⟩ := h; have h1 := b8i hv (i := i) (t := a2J ops g (listed.setIfInBounds i true)) (mem_map.2 ⟨i, hi, rfl⟩); unfold wpOp; split at h1
     · rename_i ho
       rw [ho]; exact ih _ _ _ ⟨L, O, σ, hR, hdef, hsz, h1⟩
     · rename_i o ho
       rw [ho]; simp only; exact c5B (hdst o (Array.mem_toList_iff.2 (Array.mem_of_getElem? ho))) ⟨L, O, σ, hR, hdef, hsz, h1⟩ (fun a w hg => ih _ _ _ hg)
end Go.Vw
namespace Go.Vw
open Go.RowKit Go.Proofs
variable {P : Program} {F : Nat → Bool} {w0 : World} {L0 : Nat → Nat → Prop} {row : Nat → Prop} {n : Nat} {K : St → Prop} {Q : Exit → Act → World → Prop}
 {w w' : World} {L L' : Nat → Nat → Prop} {O O' : Nat → Option Nat} {σ σ' : St} {a : Act} {o : Oper} {d : Nat} {v : Value} {tm : Nat → Value}
 {ops : Array Oper} {ds : List Nat}
def wrO (o : Oper) : Option Nat :=
 match o.dst with
 | some d => some d
 | none => (match o.op with
   | .store _ (.tmp s) _ => some s
   | _ => none)
def U3 (F : Nat → Bool) (o : Oper) : Option Nat :=
 match o.dst with
 | none => none
 | some d => (match o.op with
   | .call { callee := .builtin .append, args, argTypes := _ } => (match args.toList with
     | .tmp s :: _ => some s
     | _ => none)
   | .call { callee := .value (.func _), args, argTypes := _ } => if F (19000000 + d) = true then (match args.toList with
     | [.tmp s] => some s
     | _ => none) else none
   | .assign (.tmp t) => some t
   | .move (.tmp t) => if F (18000000 + d) = true then some t else none
   | _ => none)
def wrS (F : Nat → Bool) (o : Oper) : List Nat := (wrO o).toList ++ (U3 F o).toList
def kl (s : Option Nat) (σ : St) : St := match s with
 | some s => B0 σ s .undef
 | none => σ
def W3 (F : Nat → Bool) (o : Oper) (d : Nat) (x : AV) (σ : St) : St := B0 (kl (U3 F o) σ) d x
def a4X (F : Nat → Bool) (ops : Array Oper) (x y : Oper) : Bool :=
 (wrO x).isSome && (wrO y).isSome && ((wrS F x).all fun d => !(y.looksAt ops).contains d && !(wrS F y).contains d) && ((wrS F y).all fun e => !(x.looksAt ops).contains e)
def b4N (F : Nat → Bool) (ops : Array Oper) (n : Nat) : Bool := (List.range n).all fun k => match ops[k]? with
 | some o => o.guard.isNone && (match wrO o with
   | some d => decide (d < 1000000) && (match U3 F o with
     | some s => decide (s < 1000000) && decide (s ≠ d)
     | none => true)
   | none => false) && (o.after.all fun e => !Region.binds .any e || decide (e.on < k)) && ((List.range k).all fun j => Region.waitsFor .any ops k j || (match ops[j]? with
   | some oj => a4X F ops oj o
   | none => false))
 | none => false
def c7g (F : Nat → Bool) (o : Oper) : Bool := match o.dst with
 | some d => !F (15000000 + d)
 | none => false
def a5Q (F : Nat → Bool) : List Oper → List Oper
 | [] => []
 | o :: l => if c7g F o = true then o :: a5Q F l else []
def a4s (F : Nat → Bool) : List Oper → List Oper
 | [] => []
 | o :: l => if c7g F o = true then a4s F l else o :: l
theorem b5F (F : Nat → Bool) : ∀ l : List Oper, a5Q F l ++ a4s F l = l
 | [] => rfl
 | o :: l => by
   simp only [a5Q, a4s]; split
   · rw [cons_append, b5F F l]
   · rfl
def a2L (F : Nat → Bool) (b : Bool) (l : List Oper) : List Oper := if b = true then a5Q F l else l
def a9q (F : Nat → Bool) (b : Bool) (l : List Oper) : List Oper := if b = true then a4s F l else []
theorem c6t (F : Nat → Bool) (b : Bool) (l : List Oper) : a2L F b l ++ a9q F b l = l := by
 cases b
 · simp [a2L, a9q]
 · simpa [a2L, a9q] using b5F F l
def c5a (F : Nat → Bool) (ops : Array Oper) (n : Nat) : Bool := b4N F ops n && (decide (n = ops.size) || (decide (n < ops.size) && a2h ops 0 n && Region.chainB .any ops n)) && Region.seqB .any ops (ops.size - n) n (J1 n (Array.replicate ops.size false))
def b9K (F : Nat → Bool) (b : Bool) (ops : Array Oper) : Bool := c5a F ops (a2L F b ops.toList).length
def wrs (F : Nat → Bool) (l : List Oper) : List Nat := l.flatMap (wrS F)
def a8P : Op → Option TypeId
 | .alloc e => some e
 | _ => none
def b5o (P : Program) (F : Nat → Bool) (op : Op) (d : Nat) (σ : St) (C : AV → Prop) : Prop :=
 match op with
 | .call { callee := .builtin .append, args, argTypes } => (match args.toList, argTypes.toList with
   | [.tmp s, y], [t, t'] => t' = t ∧ A8 (H1 P t) fun e => (match σ s with
     | .own true e' l => e' = e ∧ A8 (esz P e) fun z => A8 (Q4 (A0 σ y)) fun ds => (∀ u ∈ ds, A9 u = z.1) ∧ (l.length + ds.length) * z.2 ≤ 140737488355328 ∧ l.length + ds.length ≤ 140737488355328 ∧ C (.own (F d) e (l ++ ds))
     | _ => False)
   | _, _ => False)
 | .assign (.tmp t) => (match σ t with
   | .own m e l => C (.own m e l)
   | _ => D3 P F (.assign (.tmp t)) d σ C)
 | .move (.tmp t) => if F (18000000 + d) = true then (match σ t with
   | .own true e l => C (.own true e l)
   | _ => False) else D3 P F (.move (.tmp t)) d σ C
 | .call { callee := .value (.func g), args, argTypes } => if F (19000000 + d) = true then (match args.toList with
   | [.tmp s] => (match σ s with
     | .own true e l => ∃ r, Ctr P g [.own true e l] r ∧ C (O8 (F d) r)
     | _ => False)
   | _ => False) else D3 P F (.call { callee := .value (.func g), args, argTypes }) d σ C
 | op => D3 P F op d σ C
def F2 (P : Program) (F : Nat → Bool) (ds : List Nat) : List Oper → (St → Prop) → St → Prop
 | [], K, σ => K σ
 | o :: rest, K, σ => match o.dst with
   | some d => (match a8P o.op with
     | some e => if F (d + 1000000) = true then False else A8 (D4 P e) fun z => F2 P F ds rest K (B0 σ d (.box z))
     | none => b5o P F o.op d σ fun x => H8 ds x = true ∧ F2 P F ds rest K (W3 F o d x σ))
   | none => (match o.op with
     | .store t (.tmp s) y => (match σ s with
       | .box b => A8 (asD (A0 σ y)) fun u => A9 u = A9 b ∧ D2 P t = some (A9 u) ∧ F2 P F ds rest K (B0 σ s (.box u))
       | _ => False)
     | _ => False)
def b9k (P : Program) (F : Nat → Bool) (o : Oper) (d : Nat) (σ : St) (x : AV) : Prop :=
 (o.dst = some d ∧ D3 P F o.op d σ (fun y => y = x)) ∨
 (o.dst = some d ∧ ∃ e z, o.op = .alloc e ∧ F (d + 1000000) = false ∧ D4 P e = some z ∧ x = .box z) ∨
 (o.dst = none ∧ ∃ t y b u, o.op = .store t (.tmp d) y ∧ σ d = .box b ∧ asD (A0 σ y) = some u ∧ A9 u = A9 b ∧ D2 P t = some (A9 u) ∧ x = .box u) ∨
 (o.dst = some d ∧ ∃ args ts s y t e l z ds, o.op = .call { callee := .builtin .append, args, argTypes := ts } ∧ args.toList = [.tmp s, y] ∧ ts.toList = [t, t] ∧ H1 P t = some e ∧ σ s = .own true e l ∧ esz P e = some z ∧ Q4 (A0 σ y) = some ds ∧ (∀ u ∈ ds, A9 u = z.1) ∧ (l.length + ds.length) * z.2 ≤ 140737488355328 ∧ l.length + ds.length ≤ 140737488355328 ∧ x = .own (F d) e (l ++ ds)) ∨
 (o.dst = some d ∧ ∃ t m e l, (o.op = .assign (.tmp t) ∨ (o.op = .move (.tmp t) ∧ F (18000000 + d) = true)) ∧ σ t = .own m e l ∧ x = .own m e l) ∨
 (o.dst = some d ∧ ∃ g args ts s e l r, o.op = .call { callee := .value (.func g), args, argTypes := ts } ∧ F (19000000 + d) = true ∧ args.toList = [.tmp s] ∧ σ s = .own true e l ∧ Ctr P g [.own true e l] r ∧ x = O8 (F d) r)
def XV (P : Program) (F : Nat → Bool) (ds : List Nat) (o : Oper) (d : Nat) (σ : St) (x : AV) : Prop := wrO o = some d ∧ (∀ s ∈ wrS F o, s ∈ ds) ∧ H8 ds x = true ∧ b9k P F o d σ x
theorem a1O {o : Oper} {d : Nat} (h : wrO o = some d) : d ∈ wrS F o := by simp [wrS, h]
theorem a0V {o : Oper} {d : Nat} (h : U3 F o = some d) : d ∈ wrS F o := by simp [wrS, h]
theorem c3l {op : Op} {C : AV → Prop} (h : b5o P F op d σ C) : (∃ x, D3 P F op d σ (fun y => y = x) ∧ C x) ∨
   (∃ args ts s y t e l z ds, op = .call { callee := .builtin .append, args, argTypes := ts } ∧ args.toList = [.tmp s, y] ∧ ts.toList = [t, t] ∧ H1 P t = some e ∧ σ s = .own true e l ∧ esz P e = some z ∧ Q4 (A0 σ y) = some ds ∧ (∀ u ∈ ds, A9 u = z.1) ∧ (l.length + ds.length) * z.2 ≤ 140737488355328 ∧ l.length + ds.length ≤ 140737488355328 ∧ C (.own (F d) e (l ++ ds))) ∨
   (∃ t m e l, (op = .assign (.tmp t) ∨ (op = .move (.tmp t) ∧ F (18000000 + d) = true)) ∧ σ t = .own m e l ∧ C (.own m e l)) ∨
   (∃ g args ts s e l r, op = .call { callee := .value (.func g), args, argTypes := ts } ∧ F (19000000 + d) = true ∧ args.toList = [.tmp s] ∧ σ s = .own true e l ∧ Ctr P g [.own true e l] r ∧ C (O8 (F d) r)) := by
 unfold b5o at h; split at h
 · rename_i args ts
   split at h
   · rename_i s y t t' ha ht
     obtain ⟨rfl, h⟩ := h; obtain ⟨e, he, h⟩ := A4 h; split at h
     · rename_i e' l hs
       obtain ⟨rfl, h⟩ := h; obtain ⟨z, hz, h⟩ := A4 h; obtain ⟨ds, hds, h1, h2, h3, h4⟩ := A4 h; exact .inr (.inl ⟨args, ts, s, y, _, _, l, z, ds, rfl, ha, ht, he, hs, hz, hds, h1, h2, h3, h4⟩)
     · exact h.elim
   · exact h.elim
 · rename_i t
   split at h
   · rename_i m e l ht
     exact .inr (.inr (.inl ⟨t, m, e, l, .inl rfl, ht, h⟩))
   · exact .inl (a0N h)
 · rename_i t
   split at h
   · rename_i hF
     split at h
     · rename_i e l ht
       exact .inr (.inr (.inl ⟨t, true, e, l, .inr ⟨rfl, hF⟩, ht, h⟩))
     · exact h.elim
   · exact .inl (a0N h)
 · rename_i g args ts
   split at h
   · rename_i hF
     split at h
     · rename_i s ha
       split at h
       · rename_i e l hs
         obtain ⟨r, hr, h⟩ := h; exact .inr (.inr (.inr ⟨g, args, ts, s, e, l, r, rfl, hF, ha, hs, hr, h⟩))
       · exact h.elim
     · exact h.elim
   · exact .inl (a0N h)
 · exact .inl (a0N h)
theorem c0w {rest : List Oper} (hds : ∀ s ∈ wrS F o, s ∈ ds) (h : F2 P F ds (o :: rest) K σ) : ∃ d x, XV P F ds o d σ x ∧ F2 P F ds rest K (W3 F o d x σ) := by
 simp only [F2] at h; cases hd : o.dst with
 | some d =>
   rw [hd] at h; simp only at h; have hw : wrO o = some d := (by simp [wrO, hd]); cases ha : a8P o.op with
   | some e =>
     rw [ha] at h; simp only at h; split at h
     · exact h.elim
     · rename_i hF
       obtain ⟨z, hz, h⟩ := A4 h; have he : o.op = .alloc e := by
         unfold a8P at ha; split at ha
         · rename_i e' ho; simp only [Option.some.injEq] at ha; rw [ho, ha]
         · cases ha
       have hk : U3 F o = none := (by simp [U3, hd, he]); exact ⟨d, .box z, ⟨hw, hds, rfl, .inr (.inl ⟨hd, e, z, he, by simpa using hF, hz, rfl⟩)⟩, by simpa [W3, hk, kl] using h⟩
   | none =>
     rw [ha] at h; rcases c3l h with ⟨x, h1, h2, h3⟩ | ⟨args, ts, s, y, t, e, l, z, ds', h1, h2, h3, h4, h5, h6, h7, h8, h9, h10, h11, h12⟩ | ⟨t, m, e, l, h1, h2, h3, h4⟩ | ⟨g, args, ts, s, e, l, r, h1, h2, h3, h4, h5, h6, h7⟩
     · exact ⟨d, x, ⟨hw, hds, h2, .inl ⟨hd, h1⟩⟩, h3⟩
     · exact ⟨d, _, ⟨hw, hds, h11, .inr (.inr (.inr (.inl ⟨hd, args, ts, s, y, t, e, l, z, ds', h1, h2, h3, h4, h5, h6, h7, h8, h9, h10, rfl⟩)))⟩, h12⟩
     · exact ⟨d, _, ⟨hw, hds, h3, .inr (.inr (.inr (.inr (.inl ⟨hd, t, m, e, l, h1, h2, rfl⟩))))⟩, h4⟩
     · exact ⟨d, _, ⟨hw, hds, h6, .inr (.inr (.inr (.inr (.inr ⟨hd, g, args, ts, s, e, l, r, h1, h2, h3, h4, h5, rfl⟩))))⟩, h7⟩
 | none =>
   rw [hd] at h; simp only at h; split at h
   · rename_i t s y ho
     split at h
     · rename_i b hb
       obtain ⟨u, hu, h1, h2, h3⟩ := A4 h; have hw : wrO o = some s := (by simp [wrO, hd, ho]); have hk : U3 F o = none := (by simp [U3, hd]); exact ⟨s, .box u, ⟨hw, hds, rfl, .inr (.inr (.inl ⟨hd, t, y, b, u, ho, hb, hu, h1, h2, rfl⟩))⟩, by simpa [W3, hk, kl] using h3⟩
     · exact h.elim
   · exact h.elim
theorem b9k.agr {e : Nat} {y : AV} (hA : Agr o.op.operands.toList σ σ') (h : b9k P F o e σ y) : b9k P F o e σ' y := by
 rcases h with ⟨h1, h2⟩ | h | ⟨h1, t, z, b, u, h2, h3, h4, h5, h6, h7⟩ | ⟨h1, args, ts, s, z, t, e', l, q, ds', h2, h3, h4, h5, h6, h7, h8, h9⟩ | ⟨h1, t, m, e', l, h2, h3, h4⟩ | ⟨h1, g, args, ts, s, e', l, r, h2, h3, h4, h5, h6, h7⟩
 · exact .inl ⟨h1, a8e hA h2⟩
 · exact .inr (.inl h)
 · refine .inr (.inr (.inl ⟨h1, t, z, b, u, h2, ?_, ?_, h5, h6, h7⟩))
   · rw [← (hA.1 (.tmp e) (by rw [h2]; simp [Op.operands])).1 e rfl]; exact h3
   · rw [← hA.aval (x := z) (by rw [h2]; simp [Op.operands])]; exact h4
 · refine .inr (.inr (.inr (.inl ⟨h1, args, ts, s, z, t, e', l, q, ds', h2, h3, h4, h5, ?_, h7, ?_, h9⟩)))
   · rw [← (hA.1 (.tmp s) (by rw [h2]; simp [Op.operands, Call.operands, h3])).1 s rfl]; exact h6
   · rw [← hA.aval (x := z) (by rw [h2]; simp [Op.operands, Call.operands, h3])]; exact h8
 · refine .inr (.inr (.inr (.inr (.inl ⟨h1, t, m, e', l, h2, ?_, h4⟩)))); rw [← (hA.1 (.tmp t) (by rcases h2 with h2 | ⟨h2, _⟩ <;> rw [h2] <;> simp [Op.operands])).1 t rfl]; exact h3
 · refine .inr (.inr (.inr (.inr (.inr ⟨h1, g, args, ts, s, e', l, r, h2, h3, h4, ?_, h6, h7⟩)))); rw [← (hA.1 (.tmp s) (by rw [h2]; simp [Op.operands, Call.operands, h4])).1 s rfl]; exact h5
theorem Agr.trans {xs : List Operand} {σ1 σ2 σ3 : St} (h : Agr xs σ1 σ2) (h' : Agr xs σ2 σ3) : Agr xs σ1 σ3 :=
 ⟨fun x hx => ⟨fun t ht => ((h.1 x hx).1 t ht).trans ((h'.1 x hx).1 t ht), fun j hj => ((h.1 x hx).2 j hj).trans ((h'.1 x hx).2 j (by rw [← h.aval hx]; exact hj))⟩, fun j hj => (h.2 j hj).trans (h'.2 j hj)⟩
theorem INV.xset {oi : Oper} {x : AV} (hi : INV ds σ) (hx : H8 ds x = true) : INV ds (W3 F oi d x σ) := by
 unfold Vw.W3 kl; split
 · exact (hi.setv rfl).setv hx
 · exact hi.setv hx
theorem b6G {oi : Oper} {x : AV} (hi : INV ds σ) (hw : wrO oi = some d) (hds : ∀ s ∈ wrS F oi, s ∈ ds) (hk : ∀ s ∈ wrS F oi, s ∉ o.looksAt ops) : Agr o.op.operands.toList (W3 F oi d x σ) σ := by
 unfold W3 kl; split
 · rename_i s hs
   exact (a1b (hi.setv rfl) (hds d (a1O hw)) (hk d (a1O hw))).trans (a1b hi (hds s (a0V hs)) (hk s (a0V hs)))
 · exact a1b hi (hds d (a1O hw)) (hk d (a1O hw))
theorem XV.back {x y : AV} {e : Nat} {oi : Oper} (hi : INV ds σ) (hw : wrO oi = some d) (hds : ∀ s ∈ wrS F oi, s ∈ ds) (hk : ∀ s ∈ wrS F oi, s ∉ o.looksAt ops) (h : XV P F ds o e (W3 F oi d x σ) y) : XV P F ds o e σ y := ⟨h.1, h.2.1, h.2.2.1, h.2.2.2.agr (b6G hi hw hds hk)⟩
theorem XV.forth {x y : AV} {e : Nat} {oi : Oper} (hi : INV ds σ) (hw : wrO oi = some d) (hds : ∀ s ∈ wrS F oi, s ∈ ds) (hk : ∀ s ∈ wrS F oi, s ∉ o.looksAt ops) (h : XV P F ds o e σ y) : XV P F ds o e (W3 F oi d x σ) y := ⟨h.1, h.2.1, h.2.2.1, h.2.2.2.agr (by
 have h2 := b6G (x := x) hi hw hds hk; exact ⟨fun z hz => ⟨fun t ht => ((h2.1 z hz).1 t ht).symm, fun j hj => ((h2.1 z hz).2 j (by rw [h2.aval hz]; exact hj)).symm⟩, fun j hj => (h2.2 j hj).symm⟩)⟩
def xOp (P : Program) (F : Nat → Bool) (ops : Array Oper) (ds : List Nat) (i : Nat) (K : St → Prop) (σ : St) : Prop :=
 match ops[i]? with
 | none => K σ
 | some o => ∃ d x, XV P F ds o d σ x ∧ K (W3 F o d x σ)
theorem c2R {i : Nat} {K K' : St → Prop} (h : ∀ σ, K σ → K' σ) (hh : xOp P F ops ds i K σ) : xOp P F ops ds i K' σ := by
 unfold xOp at *; split at hh
 · exact h _ hh
 · obtain ⟨d, x, h1, h2⟩ := hh; exact ⟨d, x, h1, h _ h2⟩
theorem b7f {x y : Oper} (h : a4X F ops x y = true) : (∀ s ∈ wrS F x, s ∉ y.looksAt ops ∧ s ∉ wrS F y) ∧ ∀ s ∈ wrS F y, s ∉ x.looksAt ops := by
 unfold a4X at h; simp only [Bool.and_eq_true, all_eq_true, Bool.not_eq_true', contains_eq_mem, decide_eq_false_iff_not] at h; exact ⟨h.1.2, h.2⟩
theorem c6c {a b : Option Nat} (h : ∀ s t, a = some s → b = some t → s ≠ t) : kl a (kl b σ) = kl b (kl a σ) := by
 cases a with
 | none => rfl
 | some s => cases b with
   | none => rfl
   | some t => exact a0O fun e => h s t rfl rfl e.symm
theorem b7M {a : Option Nat} {x : AV} (h : ∀ s, a = some s → s ≠ d) : kl a (B0 σ d x) = B0 (kl a σ) d x := by
 cases a with
 | none => rfl
 | some s => exact a0O fun e => h s rfl e.symm
theorem c1P {oi oj : Oper} {di dj : Nat} {x u : AV} (hi : wrO oi = some di) (hj : wrO oj = some dj) (h : ∀ s ∈ wrS F oi, s ∉ wrS F oj) : W3 F oi di x (W3 F oj dj u σ) = W3 F oj dj u (W3 F oi di x σ) := by
 unfold W3; rw [b7M (fun s hs e => h s (a0V hs) (by rw [e]; exact a1O hj)), b7M (fun s hs e => h di (a1O hi) (by rw [← e]; exact a0V hs)), c6c (fun s t hs ht e => h s (a0V hs) (by rw [e]; exact a0V ht))]; exact a0O fun e => h di (a1O hi) (by rw [← e]; exact a1O hj)
theorem c5m {j di : Nat} {oi oj : Oper} {x : AV} (hj : ops[j]? = some oj) (hap : a4X F ops oi oj = true) (hi : INV ds σ) (hy : XV P F ds oi di σ x) {K : St → Prop} (h : xOp P F ops ds j K (W3 F oi di x σ)) :
   xOp P F ops ds j (fun σ' => INV ds σ' ∧ XV P F ds oi di σ' x ∧ K (W3 F oi di x σ')) σ := by
 obtain ⟨h1, h2⟩ := b7f hap; unfold xOp at *; simp only [hj] at *; obtain ⟨dj, u, hu, hK⟩ := h; refine ⟨dj, u, hu.back hi hy.1 hy.2.1 (fun s hs => (h1 s hs).1), hi.xset hu.2.2.1, hy.forth hi hu.1 hu.2.1 h2, ?_⟩; rw [c1P hy.1 hu.1 (fun s hs => (h1 s hs).2)]; exact hK
def b2R (P : Program) (F : Nat → Bool) (ops : Array Oper) (ds : List Nat) (nn : Nat) (Lq : Array Bool → St → Prop) : Nat → Array Bool → St → Prop
 | 0, listed, σ => Lq listed σ
 | f + 1, listed, σ => Region.ready .any ops listed ≠ [] ∧ ∀ i ∈ Region.ready .any ops listed, i < nn ∧ xOp P F ops ds i (b2R P F ops ds nn Lq f (listed.setIfInBounds i true)) σ
theorem b8F {nn i di : Nat} {oi : Oper} {x : AV} {Lq : Array Bool → St → Prop} (Iv : Array Bool → Prop) (hset : ∀ listed j, Iv listed → j ∈ Region.ready .any ops listed → j < nn → Iv (listed.setIfInBounds j true)) (hi : ops[i]? = some oi) (hin : i < nn)
   (hlt : ∀ listed, Iv listed → ∀ k, k < nn → listed.getD k true = false → ∀ j ∈ Region.ready .any ops listed, j < nn) (hdone : ∀ listed σ, Lq listed σ → ∀ j ∈ Region.ready .any ops listed, nn ≤ j) :
   ∀ (f : Nat) (listed : Array Bool) (σ : St), Iv listed →
     (∀ j oj, ops[j]? = some oj → j < nn → j ≠ i → listed.getD j true = false → (∀ e ∈ oj.after, Region.binds .any e = true → e.on ≠ i) → a4X F ops oi oj = true) →
     i ∈ Region.ready .any ops listed → INV ds σ → XV P F ds oi di σ x →
     b2R P F ops ds nn Lq f (listed.setIfInBounds i true) (W3 F oi di x σ) → b2R P F ops ds nn Lq (f + 1) listed σ := by
 intro f
 induction f with
 | zero =>
   intro listed σ inv _ hr hI hy H; have hun := (mem_ready.1 hr).1; refine ⟨fun h => (by rw [h] at hr; cases hr), fun j hj => ?_⟩; have hjn := hlt listed inv i hin hun j hj; refine ⟨hjn, ?_⟩; by_cases hji : j = i
   · subst hji; unfold xOp; simp only [hi]; exact ⟨di, x, hy, H⟩
   · have := hdone _ _ H j (ready_mono hj hji); omega
 | succ f ih =>
   intro listed σ inv hfree hr hI hy H; have hun := (mem_ready.1 hr).1; refine ⟨fun h => (by rw [h] at hr; cases hr), fun j hj => ?_⟩; have hjn := hlt listed inv i hin hun j hj; refine ⟨hjn, ?_⟩; by_cases hji : j = i
   · subst hji; unfold xOp; simp only [hi]; exact ⟨di, x, hy, H⟩
   · have h1 := (H.2 j (ready_mono hj hji)).2; obtain ⟨hjun, oj, hoj, hall⟩ := mem_ready.1 hj; have hnot : ∀ e ∈ oj.after, Region.binds .any e = true → e.on ≠ i := fun e he hb heq => by
       have h1 := hall e he hb; rw [heq, getD_both hun] at h1; cases h1
     have h2 := c5m hoj (hfree j oj hoj hjn hji hjun hnot) hI hy h1; have hfree' : ∀ k ok, ops[k]? = some ok → k < nn → k ≠ i → (listed.setIfInBounds j true).getD k true = false →
         (∀ e ∈ ok.after, Region.binds .any e = true → e.on ≠ i) → a4X F ops oi ok = true := fun k ok hk hkn hki hun hno => by
       refine hfree k ok hk hkn hki ?_ hno; by_cases hjk : j = k
       · subst hjk; exact hjun
       · rw [getD_set_ne true hjk] at hun; exact hun
     refine c2R (fun a' h3 => ih (listed.setIfInBounds j true) a' (hset _ _ inv hj hjn) hfree' (ready_mono hr (Ne.symm hji)) h3.1 h3.2.1 ?_) h2; rw [Array.setIfInBounds_comm _ _ hji]; exact h3.2.2
theorem a4l {nn : Nat} (h : b4N F ops nn = true) {k : Nat} (hk : k < nn) : ∃ o d, ops[k]? = some o ∧ o.guard = none ∧ wrO o = some d ∧ (∀ s ∈ wrS F o, s < 1000000) ∧ (∀ s, U3 F o = some s → s ≠ d) ∧ (∀ e ∈ o.after, Region.binds .any e = true → e.on < k) ∧
   ∀ j, j < k → Region.waitsFor .any ops k j = true ∨ ∃ oj, ops[j]? = some oj ∧ a4X F ops oj o = true := by
 have h1 := all_eq_true.1 h k (mem_range.2 hk); split at h1
 · rename_i o ho
   simp only [Bool.and_eq_true, Option.isNone_iff_eq_none] at h1; obtain ⟨⟨⟨g1, g2⟩, g3⟩, g4⟩ := h1; split at g2
   · rename_i d hd
     simp only [Bool.and_eq_true, decide_eq_true_eq] at g2; refine ⟨o, d, ho, g1, hd, fun s hs => ?_, fun s hs => ?_, fun e he hb => ?_, fun j hj => ?_⟩
     · simp only [wrS, hd, Option.toList, cons_append, nil_append, mem_cons] at hs; rcases hs with rfl | hs
       · exact g2.1
       · cases hk2 : U3 F o with
         | none => rw [hk2] at hs; simp at hs
         | some t =>
           rw [hk2] at hs g2; simp only [mem_singleton] at hs; subst hs; have := g2.2; simp only [Bool.and_eq_true, decide_eq_true_eq] at this; exact this.1
     · rw [hs] at g2; have := g2.2; simp only [Bool.and_eq_true, decide_eq_true_eq] at this; exact this.2
     · have := Array.all_eq_true'.1 g3 e he; simpa [hb] using this
     · have := all_eq_true.1 g4 j (mem_range.2 hj); simp only [Bool.or_eq_true] at this; rcases this with h | h
       · exact .inl h
       · split at h
         · rename_i oj hoj; exact .inr ⟨oj, hoj, h⟩
         · cases h
   · cases g2
 · cases h1
theorem b5t {nn : Nat} (hs : b4N F ops nn = true) (hn : nn ≤ ops.size) (hcase : nn = ops.size ∨ (nn < ops.size ∧ a2h ops 0 nn = true ∧ Region.chainB .any ops nn = true)) (hds : ∀ o ∈ ops.toList.take nn, ∀ s ∈ wrS F o, s ∈ ds) :
   ∀ (m k : Nat) (σ : St), k + m = nn → HeadInv .any ops nn (J1 k (Array.replicate ops.size false)) → INV ds σ → F2 P F ds ((ops.toList.take nn).drop k) K σ →
     b2R P F ops ds nn (fun listed' σ' => listed' = J1 nn (Array.replicate ops.size false) ∧ INV ds σ' ∧ K σ') m (J1 k (Array.replicate ops.size false)) σ
 | 0, k, σ, hk, inv, hI, h => by
   have : k = nn := (by omega); subst this; rw [drop_eq_nil_of_le (by simp; omega)] at h; exact ⟨rfl, hI, h⟩
 | m + 1, k, σ, hk, inv, hI, h => by
   have hkn : k < nn := (by omega); have hlt : k < ops.size := (by omega); obtain ⟨o, d0, ho, hg, hw, hd6, _, hedge, _⟩ := a4l hs hkn; have htl : (ops.toList.take nn).length = nn := by simp; omega
   have hcons : (ops.toList.take nn).drop k = o :: (ops.toList.take nn).drop (k + 1) := by
     rw [drop_eq_getElem_cons (by rw [htl]; exact hkn)]; congr 1
     have : (ops.toList.take nn)[k]? = some o := by rw [getElem?_take, if_pos hkn]; simpa using ho
     exact (List.getElem?_eq_some_iff.1 this).2
   rw [hcons] at h; have hmem : o ∈ ops.toList.take nn := mem_of_mem_drop (i := k) (by rw [hcons]; simp); obtain ⟨d, x, hy, hK⟩ := c0w (hds o hmem) h; have hr : k ∈ Region.ready .any ops (J1 k (Array.replicate ops.size false)) := mem_ready.2 ⟨a0Q k k (Nat.le_refl _) hlt, o, ho, fun e he hb => a2z k _ (hedge e he hb) (by have := hedge e he hb; omega)⟩; refine b8F (HeadInv .any ops nn) (fun listed j h1 hj hjn => h1.set hj hjn) ho hkn (fun listed inv k' hk' hun' j hj => ?_) (fun listed σ hL j hj => ?_) m _ σ inv (fun j oj hoj hjn hjk hun hno => ?_) hr hI hy ?_
   · rcases hcase with h1 | ⟨h1, h2, h3⟩
     · obtain ⟨_, o', ho', _⟩ := mem_ready.1 hj; rw [h1]; exact (Array.getElem?_eq_some_iff.1 ho').1
     · rcases Nat.lt_or_ge j nn with h4 | h4
       · exact h4
       · exact absurd hj (a6d h2 h3 h1 inv (fun i hi => absurd hi (Nat.not_lt_zero i)) _ k' rfl hk' hun' j h4)
   · obtain ⟨rfl, _⟩ := hL; rcases Nat.lt_or_ge j nn with h4 | h4
     · have h5 := a2z (s := ops.size) nn j h4 (by omega); rw [getD_both (mem_ready.1 hj).1] at h5; cases h5
     · exact h4
   · have hkj : k < j := by
       rcases Nat.lt_or_ge j k with h1 | h1
       · have := a2z (s := ops.size) k j h1 (by omega); rw [getD_both hun] at this; cases this
       · omega
     obtain ⟨oj', _, hoj', _, _, _, _, _, hpair⟩ := a4l hs hjn; obtain rfl : oj = oj' := Option.some.inj (hoj.symm.trans hoj'); rcases hpair k hkj with h1 | ⟨ok, hok, h1⟩
     · obtain ⟨o', ho', e, he, hb, hon⟩ := Region.waitsFor_spec h1; obtain rfl : oj = o' := Option.some.inj (hoj.symm.trans ho'); exact absurd hon (hno e he hb)
     · obtain rfl : o = ok := Option.some.inj (ho.symm.trans hok); exact h1
   · exact b5t hs hn hcase hds m (k + 1) _ (by omega) (inv.set hr hkn) (hI.xset hy.2.2.1) hK
theorem b0y {nn g : Nat} {Lq : Array Bool → St → Prop} (hs : b4N F ops nn = true) (hdst : ∀ o ∈ ops.toList, ∀ d, o.dst = some d → d < n) 
   (hL : ∀ listed a w, B6 P w0 L0 row n (fun σ => INV ds σ ∧ Lq listed σ) a w → wpAny P .any ops Q g listed a w) :
   ∀ (f : Nat) (listed : Array Bool) (a : Act) (w : World), B6 P w0 L0 row n (fun σ => INV ds σ ∧ b2R P F ops ds nn Lq f listed σ) a w → wpAny P .any ops Q (f + g) listed a w
 | 0, listed, a, w, h => by rw [Nat.zero_add]; exact hL _ _ _ h
 | f + 1, listed, a, w, h => by
   obtain ⟨L, O, σ, hR, hdef, hsz, hI, hne, hall⟩ := h; rw [show f + 1 + g = (f + g) + 1 by omega]; refine ⟨fun h0 => absurd h0 hne, fun i hi => ?_⟩; have hin := (hall i hi).1; have hop := (hall i hi).2; unfold xOp at hop; unfold wpOp; split at hop
   · rename_i hoi
     simp only [hoi]; exact b0y hs hdst hL f _ a w ⟨L, O, σ, hR, hdef, hsz, hI, hop⟩
   · rename_i o hoi
     simp only [hoi]; obtain ⟨d, x, ⟨h1, h2, h3, h4⟩, hK⟩ := hop; have hlt := hdst o (by rw [Array.mem_toList_iff]; exact Array.mem_of_getElem? hoi); obtain ⟨o', d', ho', hg, hw', _, hkd, _⟩ := a4l hs hin; obtain rfl : o = o' := Option.some.inj (hoi.symm.trans ho'); obtain rfl : d = d' := Option.some.inj (h1.symm.trans hw'); have hdd := h2 d (a1O h1); rw [if_pos (by simp [Region.wanted, hg])]; refine .inl (Oper.wp_mono (K := B6 P w0 L0 row n (fun τ => τ = put σ d x ∨ ∃ s, U3 F o = some s ∧ (τ = put (put σ s .undef) d x ∨ ∃ b e l, x = .own b e l ∧ τ = put (put σ s .undef) d (.own true e l)))) ?_ ?_)
     · rintro a' w' ⟨L1, O1, σ1, hR1, hd1, hs1, hσ⟩; have key : ∃ L2 O2, Rel P w0 L0 row w' L2 O2 (W3 F o d x σ) (B4 a') := by
         rcases hσ with rfl | ⟨s, hs', rfl | ⟨b, e, l, rfl, rfl⟩⟩
         · rw [R5 hI hdd h3] at hR1; cases hk : U3 F o with
           | none => exact ⟨L1, O1, by simpa [W3, hk, kl] using hR1⟩
           | some s =>
             have h5 := hR1.forget s; rw [R5 (hI.setv h3) (h2 s (a0V hk)) rfl, a0O (fun e => hkd s hk e.symm)] at h5; exact ⟨L1, _, by simpa [W3, hk, kl] using h5⟩
         · rw [R5 hI (h2 s (a0V hs')) rfl, R5 (hI.setv rfl) hdd h3] at hR1; exact ⟨L1, O1, by simpa [W3, hs', kl] using hR1⟩
         · rw [R5 hI (h2 s (a0V hs')) rfl, R5 (hI.setv rfl) hdd rfl] at hR1; obtain ⟨L2, h6⟩ := hR1.demote (t := d) (e := e) (l := l) (by simp [B0]) b; rw [R5 ((hI.setv rfl).setv rfl) hdd rfl] at h6; have h7 : B0 (B0 (B0 σ s .undef) d (.own true e l)) d (.own b e l) = B0 (B0 σ s .undef) d (.own b e l) := by
             funext i; simp only [B0]; split <;> rfl
           rw [h7] at h6; exact ⟨L2, O1, by simpa [W3, hs', kl] using h6⟩
       obtain ⟨L2, O2, hR2⟩ := key; exact b0y hs hdst hL f _ a' w' ⟨L2, O2, _, hR2, hd1, hs1, hI.xset h3, hK⟩
     · rcases h4 with ⟨e1, hp⟩ | ⟨e1, e, z, e2, e3, e4, rfl⟩ | ⟨e1, t, y, b, u, e2, e3, e4, e5, e6, rfl⟩ | ⟨e1, args, ts, s, y, t, e, l, z, ds', e2, e3, e4, e5, e6, e7, e8, e9, e10, e11, rfl⟩ | ⟨e1, t, m, e, l, e2, e3, rfl⟩ | ⟨e1, g, args, ts, s, e, l, r, e2, e3, e4, e5, e6, rfl⟩
       · exact a3n (K := fun τ => τ = put σ d x ∨ ∃ s, U3 F o = some s ∧ (τ = put (put σ s .undef) d x ∨ ∃ b e l, x = .own b e l ∧ τ = put (put σ s .undef) d (.own true e l))) e1 (hlt d e1) hsz hdef hR (a0h hp fun y hy => by rw [hy]; exact .inl rfl)
       · refine a4N (F := F) hlt hsz hdef hR ?_; simp only [vop, e1, M2, e2, e3, e4, A8]; simp
       · refine a4N (F := F) hlt hsz hdef hR ?_; have ex : A0 σ (.tmp d) = .adr d [] := (by simp only [A0, e3, rd]); simp only [vop, e1, e2, a4K, ex, e3, D.get, D.upd, e4, A8]; exact ⟨e5, e6, by simp⟩
       · refine a4N (F := F) hlt hsz hdef hR ?_; have ex : A0 σ (.tmp s) = .bor s true e l := (by simp only [A0, e6, rd]); have hk : U3 F o = some s := (by simp [U3, e1, e2, e3]); simp only [vop, e1, M2, e2, a4w, e3, e4, ex, e5, e7, c6p e8, A8, if_true, left]; exact ⟨trivial, e9, e10, e11, .inr ⟨s, hk, .inr ⟨_, _, _, rfl, rfl⟩⟩⟩
       · have hk : U3 F o = some t := by rcases e2 with e2 | ⟨e2, e4⟩ <;> simp [U3, e1, e2, *]
         exact a9b e1 (hlt d e1) hsz hdef hR (e2.imp id (·.1)) e3 (.inr ⟨t, hk, .inl rfl⟩)
       · have hk : U3 F o = some s := (by simp [U3, e1, e2, e3, e4]); have ex : A0 σ (.tmp s) = .bor s true e l := (by simp only [A0, e5, rd]); have hel : N4 σ args.toList = [s] := (by simp only [e4, N4, ex]); refine b6z e1 (hlt d e1) hsz hdef hR e2 (caps := []) rfl (by simp) (xa := [.own true e l]) (by simp only [e4, Y3, b2S, ex]) (by rw [hel]; simp) (by simpa using e6) (F d) ?_; rw [hel]; exact .inr ⟨s, hk, .inl rfl⟩
theorem c5y {id : Nat} {b : Bool} (hm : P.follows .mixedOrders = true) (hs : b9K F b ops = true) (hdst : ∀ o ∈ ops.toList, ∀ d, o.dst = some d → d < n)
   (h : B6 P w0 L0 row n (fun σ => F2 P F (wrs F (a2L F b ops.toList)) (a2L F b ops.toList) (fun σ' => J5 P F ops (a9q F b ops.toList) K σ') (I3 (wrs F (a2L F b ops.toList)) σ)) a w) (hQ : ∀ a w, B6 P w0 L0 row n K a w → Q .normal a w) : (Code.region id ops true).wp P Q a w := by
 obtain ⟨L, O, σ, hR, hdef, hsz, hv⟩ := h; have happ := c6t F b ops.toList; unfold b9K c5a at hs; generalize hl : (a2L F b ops.toList).length = nn at hs; simp only [Bool.and_eq_true, Bool.or_eq_true, decide_eq_true_eq] at hs; obtain ⟨⟨hp, hcase⟩, hseq⟩ := hs; have hn : nn ≤ ops.size := by
   have := congrArg length happ; simp only [length_append, Array.length_toList] at this; omega
 have htake : ops.toList.take nn = a2L F b ops.toList := by
   conv => lhs; rw [← happ]
   rw [← hl]; exact take_left
 have hdrop : ops.toList.drop nn = a9q F b ops.toList := by
   conv => lhs; rw [← happ]
   rw [← hl]; exact drop_left
 rw [← htake, ← hdrop] at hv; have hds6 : ∀ d ∈ wrs F (ops.toList.take nn), d < 1000000 := fun d hd => by
   simp only [wrs, mem_flatMap] at hd; obtain ⟨o, ho, hd⟩ := hd; obtain ⟨k, hk⟩ := mem_iff_getElem?.1 ho; rw [getElem?_take] at hk; split at hk
   · rename_i hkn
     have hk' : ops[k]? = some o := (by simpa using hk); obtain ⟨o', d', ho', _, hw, hlt, _⟩ := a4l hp hkn; obtain rfl : o = o' := Option.some.inj (hk'.symm.trans ho'); exact hlt d hd
   · cases hk
 have hcase' : nn = ops.size ∨ (nn < ops.size ∧ a2h ops 0 nn = true ∧ Region.chainB .any ops nn = true) := by
   rcases hcase with h1 | ⟨⟨h1, h2⟩, h3⟩
   · exact .inl h1
   · exact .inr ⟨h1, h2, h3⟩
 have hdl : (ops.toList.drop nn).length = ops.size - nn := (by simp); have hI := a3Q (σ := σ) hds6; have H := b5t (P := P) (F := F) (ds := wrs F (ops.toList.take nn)) (K := fun σ' => J5 P F ops (ops.toList.drop nn) K σ') hp hn hcase' (fun o ho d hd => mem_flatMap.2 ⟨o, ho, hd⟩) nn 0 _ (by omega)
   ⟨by simp [J1], fun j oj _ hl => (by simp only [J1] at hl; rw [getD_replicate_false] at hl; cases hl), fun t _ ht => a0Q 0 t (Nat.zero_le _) ht⟩ hI (by rw [drop_zero]; exact hv)
 let Q0 : Exit → Act → World → Prop := fun e a w => e = .normal ∧ B6 P w0 L0 row n K a w
 refine wp_mono (Q := Q0) (wp_region_any hm ?_) (fun e a w ⟨he, hg⟩ => by subst he; exact hQ a w hg); have := b0y (Q := Q0) (g := ops.size - nn) (w0 := w0) (L0 := L0) (row := row) hp hdst (fun listed a' w' hg => by
   obtain ⟨L1, O1, σ1, hR1, hd1, hs1, _, rfl, _, hv1⟩ := hg; have := wpAny_of_seq (md := .any) (Q' := Q0) (P := P) (ops.toList.drop nn) nn (J1 nn (Array.replicate ops.size false)) a' w' (fun j => by simp [getElem?_drop]) (by rw [hdl]; exact hseq)
     (a6p (ops.toList.drop nn) a' w' (fun o ho d hd => hdst o (mem_of_mem_drop ho) d hd) ⟨L1, O1, σ1, hR1, hd1, hs1, hv1⟩ (fun a w hg => ⟨rfl, hg⟩))
   rwa [hdl] at this) _ _ a _ ⟨L, O, I3 (wrs F (ops.toList.take nn)) σ, hR.drew.clean _, hdef, hsz, hI, H⟩
 rw [show nn + (ops.size - nn) = ops.size by omega] at this; exact this
end Go.Vw
namespace Go.Vw
open Go.RowKit Go.Proofs
def a3L (body : (Exit → St → Prop) → St → Prop) (Q : Exit → St → Prop) (σ : St) : Prop :=
 ∃ (I : Nat → St → Prop) (k : Nat), I k σ ∧ ∀ m τ, I m τ → body (a2q (fun τ' => ∃ m', m' < m ∧ I m' τ') Q) τ
def b5v (b : Bool) (N : St → Prop) (σ : St) : Prop := if b = true then ∃ t e l, σ t = .own true e l ∧ N (put σ t (.own false e l)) else N σ
def b5R (b : Bool) (P : Program) (F : Nat → Bool) (ops : Array Oper) (K N : St → Prop) (σ : St) : Prop := if b = true then ∃ K', aT P F ops K' (a2J ops ops.size (Array.replicate ops.size false)) σ ∧ ∀ σ', K' σ' → K σ' else N σ
def a7Y (b bT : Bool) (P : Program) (F : Nat → Bool) (ops : Array Oper) (K N : St → Prop) (σ : St) : Prop := if b = true then F2 P F (wrs F (a2L F bT ops.toList)) (a2L F bT ops.toList) (fun σ' => J5 P F ops (a9q F bT ops.toList) K σ') (I3 (wrs F (a2L F bT ops.toList)) σ) else N σ
def vwp (P : Program) (F : Nat → Bool) : Code → (Exit → St → Prop) → St → Prop
 | .skip, Q, σ => Q .normal σ
 | .region _ ops false, Q, σ => J5 P F ops ops.toList (Q .normal) σ
 | .region id ops true, Q, σ => a7Y (F (9000000 + id)) (F (14000000 + id)) P F ops (Q .normal) (b5R (F (8000000 + id)) P F ops (Q .normal) (b5v (F (7000000 + id)) (fun σ => P3 P F ops (M0 F ops.toList) ops.toList (Q .normal) (I3 (M0 F ops.toList) σ)))) σ
 | .seq x y, Q, σ => vwp P F x (a2q (vwp P F y Q) Q) σ
 | .cond c x y, Q, σ => (match A0 σ c with
   | .d (.bool b) => (b = true → vwp P F x Q σ) ∧ (b = false → vwp P F y Q σ)
   | _ => False)
 | .block id c, Q, σ => vwp P F c (a1d id Q) σ
 | .loop c, Q, σ => a3L (vwp P F c) Q σ
 | .exit id, Q, σ => Q (.exit id) σ
 | .ret, Q, σ => Q .ret σ
 | _, _, _ => False
def a0j (F : Nat → Bool) (n : Nat) : Code → Bool
 | .region id ops dr => (ops.toList.all fun o => match o.dst with
   | some d => decide (d < n)
   | none => true) && (!dr || (if F (9000000 + id) = true then b9K F (F (14000000 + id)) ops else F (8000000 + id) || b4V F ops))
 | .seq x y | .cond _ x y => a0j F n x && a0j F n y
 | .block _ c | .loop c => a0j F n c
 | _ => true
variable {P : Program} {F : Nat → Bool} {w0 : World} {L0 : Nat → Nat → Prop} {row : Nat → Prop} {n : Nat} {K : St → Prop} {Q : Exit → Act → World → Prop}
 {w w' : World} {L L' : Nat → Nat → Prop} {O O' : Nat → Option Nat} {σ σ' : St} {a : Act} {o : Oper} {d : Nat} {v : Value} {tm : Nat → Value}
def post (P : Program) (w0 : World) (L0 : Nat → Nat → Prop) (row : Nat → Prop) (n : Nat) (Q : Exit → St → Prop) : Exit → Act → World → Prop := fun e a w => B6 P w0 L0 row n (Q e) a w
theorem K3 (hm : P.follows .mixedOrders = true) : ∀ (c : Code) (Q : Exit → St → Prop) (a : Act) (w : World), a0j F n c = true → B6 P w0 L0 row n (vwp P F c Q) a w → c.wp P (post P w0 L0 row n Q) a w
 | .skip, Q, a, w, _, h => wp_skip h
 | .region _ ops false, Q, a, w, hok, h => by
   simp only [a0j, Bool.and_eq_true] at hok; refine wp_region_list (a6p ops.toList a w (fun o ho d hd => ?_) h (fun a w h => h)); have := all_eq_true.1 hok.1 o ho; simpa [hd] using this
 | .region id ops true, Q, a, w, hok, h => by
   simp only [a0j, Bool.and_eq_true, Bool.not_true, Bool.false_or] at hok; have hdst : ∀ o ∈ ops.toList, ∀ d, o.dst = some d → d < n := fun o ho d hd => by
     have := all_eq_true.1 hok.1 o ho; simpa [hd] using this
   by_cases h9 : F (9000000 + id) = true
   · rw [if_pos h9] at hok; obtain ⟨L, O, σ, hR, hdef, hsz, hv⟩ := h; simp only [vwp, a7Y, h9, if_true] at hv; exact c5y hm hok.2 hdst ⟨L, O, σ, hR, hdef, hsz, hv⟩ (fun a w h => h)
   rw [if_neg h9] at hok; simp only [Bool.or_eq_true] at hok; by_cases h8 : F (8000000 + id) = true
   · obtain ⟨L, O, σ, hR, hdef, hsz, hv⟩ := h; simp only [vwp, a7Y, if_neg h9, b5R, h8, if_true] at hv; obtain ⟨K', hv, hk⟩ := hv; exact wp_region_any hm (c2i (K := K') hdst (fun a w ⟨L, O, σ, hR, hdef, hsz, h⟩ => ⟨L, O, σ, hR, hdef, hsz, hk σ h⟩) _ _ _ _ ⟨L, O, σ, hR.drew, hdef, hsz, hv⟩)
   have hB : b4V F ops = true := by
     rcases hok.2 with h | h
     · exact absurd h h8
     · exact h
   have h : B6 P w0 L0 row n (fun σ => P3 P F ops (M0 F ops.toList) ops.toList (Q .normal) (I3 (M0 F ops.toList) σ)) a w := by
     obtain ⟨L, O, σ, hR, hdef, hsz, hv⟩ := h; simp only [vwp, a7Y, if_neg h9, b5R, if_neg h8, b5v] at hv; split at hv
     · obtain ⟨t, e, l, ht, hv⟩ := hv; obtain ⟨L', hR'⟩ := hR.demote ht false; exact ⟨L', O, _, hR', hdef, hsz, hv⟩
     · exact ⟨L, O, σ, hR, hdef, hsz, hv⟩
   exact c5K hm hB hdst h (fun a w h => h)
 | .seq x y, Q, a, w, hok, h => by
   simp only [a0j, Bool.and_eq_true] at hok; refine wp_seq (wp_mono (K3 hm x _ a w hok.1 h) ?_); intro e a' w' hg; cases e with
   | normal => exact K3 hm y Q a' w' hok.2 hg
   | exit id => exact hg
   | goto l => exact hg
   | ret => exact hg
   | panic ch => exact hg
   | outgrown => exact hg
 | .cond c x y, Q, a, w, hok, h => by
   simp only [a0j, Bool.and_eq_true] at hok; obtain ⟨L, O, σ, hR, hdef, hsz, hv⟩ := h; simp only [vwp] at hv; split at hv
   · rename_i b hc
     have hcv := (E6 hR hc).bool_inv; exact wp_cond_split hcv (fun hb => K3 hm x Q a w hok.1 ⟨L, O, σ, hR, hdef, hsz, hv.1 hb⟩) (fun hb => K3 hm y Q a w hok.2 ⟨L, O, σ, hR, hdef, hsz, hv.2 hb⟩)
   · exact hv.elim
 | .block id c, Q, a, w, hok, h => by
   refine wp_block (wp_mono (K3 hm c _ a w hok h) ?_); intro e a' w' hg; cases e with
   | exit id' =>
     show if id' = id then post P w0 L0 row n Q .normal a' w' else post P w0 L0 row n Q (.exit id') a' w'
     have hg' : B6 P w0 L0 row n (fun σ => if id' = id then Q .normal σ else Q (.exit id') σ) a' w' := hg; split
     · exact hg'.mono fun σ h => by rwa [if_pos (by assumption)] at h
     · exact hg'.mono fun σ h => by rwa [if_neg (by assumption)] at h
   | normal => exact hg
   | goto l => exact hg
   | ret => exact hg
   | panic ch => exact hg
   | outgrown => exact hg
 | .loop c, Q, a, w, hok, h => by
   obtain ⟨L, O, σ, hR, hdef, hsz, I, k, h0, hI⟩ := h; refine wp_loop_ghost (fun m a w => B6 P w0 L0 row n (I m) a w) k ⟨L, O, σ, hR, hdef, hsz, h0⟩ ?_; intro m a' w' hg; refine wp_mono (K3 hm c _ a' w' hok (hg.mono fun τ hτ => hI m τ hτ)) ?_; intro e a2 w2 hg2; cases e with
   | normal =>
     obtain ⟨L2, O2, σ2, hR2, hd2, hs2, m', hm, hI2⟩ := hg2; exact ⟨m', hm, L2, O2, σ2, hR2, hd2, hs2, hI2⟩
   | exit id => exact hg2
   | goto l => exact hg2
   | ret => exact hg2
   | panic ch => exact hg2
   | outgrown => exact hg2
 | .exit id, Q, a, w, _, h => wp_exit h
 | .ret, Q, a, w, _, h => wp_ret h
 | .rangeFunc .., Q, a, w, _, h => by obtain ⟨_, _, _, _, _, _, h⟩ := h; simp only [vwp] at h
 | .scope _, Q, a, w, _, h => by obtain ⟨_, _, _, _, _, _, h⟩ := h; simp only [vwp] at h
 | .label _, Q, a, w, _, h => by obtain ⟨_, _, _, _, _, _, h⟩ := h; simp only [vwp] at h
 | .goto _, Q, a, w, _, h => by obtain ⟨_, _, _, _, _, _, h⟩ := h; simp only [vwp] at h
 | .refuse _, Q, a, w, _, h => by obtain ⟨_, _, _, _, _, _, h⟩ := h; simp only [vwp] at h
def a0c (x r : AV) : Prop :=
 match r with
 | .d y => (match x with
   | .own true _ l => y = .sl l
   | .bor _ true _ l => y = .sl l
   | _ => asD x = some y)
 | .own m e l => (match x with
   | .own m' e' l' => m' = m ∧ e' = e ∧ l' = l
   | .bor _ m' e' l' => m' = m ∧ e' = e ∧ l' = l
   | _ => False)
 | .undef => True
 | _ => False
theorem D9.seen {og : Option Nat} {e : TypeId} {l : List D} {v : Value} (hlok : ∀ b q, L b q → b < w.heap.size) (hog : ∀ g, og = some g → g < w.heap.size) (h : D9 P w L og true e l v) :
   ∃ L', RepV w L' (.sl l) v ∧ (∀ c q, L' c q → c < w.heap.size) ∧ (∀ c q, some c ≠ og → (L' c q ↔ L c q)) ∧ Ext w L w L' := by
 have h' : RC P w L og (.own true e l) v := h; obtain ⟨L', h1, h2, h3, h4⟩ := h'.demote false hlok hog; have h1' : D9 P w L' og false e l v := h1; exact ⟨L', h1'.at_, h2, h3, h4⟩
theorem a9L (hR : Rel P w0 L0 row w L O σ tm) {t : Nat} {r : AV} (h : a0c (σ t) r) :
   ∃ L' og', (∀ b q, L' b q → b < w.heap.size) ∧ (∀ b q, b < w0.heap.size → ¬ row b → (L' b q ↔ L0 b q)) ∧ (∀ g, og' = some g → g < w.heap.size ∧ (w0.heap.size ≤ g ∨ row g)) ∧ Ext w L w L' ∧ RC P w L' og' r (tm t) := by
 have h1 := hR.slots t; have keep : ∀ og', (∀ g, og' = some g → g < w.heap.size ∧ (w0.heap.size ≤ g ∨ row g)) → RC P w L og' r (tm t) →
     ∃ L' og', (∀ b q, L' b q → b < w.heap.size) ∧ (∀ b q, b < w0.heap.size → ¬ row b → (L' b q ↔ L0 b q)) ∧ (∀ g, og' = some g → g < w.heap.size ∧ (w0.heap.size ≤ g ∨ row g)) ∧ Ext w L w L' ∧ RC P w L' og' r (tm t) :=
   fun og' hg hr => ⟨L, og', hR.lok, hR.old, hg, fun _ _ h => ⟨h, fun _ hv => hv⟩, hr⟩
 have seen : ∀ (j : Nat) (e : TypeId) (l : List D), D9 P w L (O j) true e l (tm t) → r = .d (.sl l) →
     ∃ L' og', (∀ b q, L' b q → b < w.heap.size) ∧ (∀ b q, b < w0.heap.size → ¬ row b → (L' b q ↔ L0 b q)) ∧ (∀ g, og' = some g → g < w.heap.size ∧ (w0.heap.size ≤ g ∨ row g)) ∧ Ext w L w L' ∧ RC P w L' og' r (tm t) := by
   rintro j e l ho rfl; obtain ⟨L', g1, g2, g3, g4⟩ := ho.seen hR.lok (fun g hg => (hR.olt j g hg).1); refine ⟨L', none, g2, fun b q hb hr => ?_, by simp, g4, by simpa only [RC] using g1⟩; refine (g3 b q (fun e => ?_)).trans (hR.old b q hb hr); rcases (hR.olt j b e.symm).2 with h2 | h2
   · omega
   · exact hr h2
 cases r with
 | d y =>
   have other : asD (σ t) = some y → RepV w L y (tm t) := fun h => RA.asD hR.slots h1 h
   simp only [a0c] at h; split at h
   · rename_i e l hx
     subst h; rw [hx] at h1; exact seen t e l h1 rfl
   · rename_i j e l hx
     subst h; rw [hx] at h1; obtain ⟨h2, h3⟩ := h1; have h4 := hR.slots j; rw [h2] at h4; exact seen j e l (by rw [h3]; exact h4) rfl
   · exact keep none (by simp) (by simpa only [RC] using other h)
 | own m e l =>
   simp only [a0c] at h; split at h
   · rename_i m' e' l' hx
     obtain ⟨rfl, rfl, rfl⟩ := h; rw [hx] at h1; exact keep (O t) (fun g hg => hR.olt t g hg) h1
   · rename_i j m' e' l' hx
     obtain ⟨rfl, rfl, rfl⟩ := h; rw [hx] at h1; obtain ⟨h2, h3⟩ := h1; have h4 := hR.slots j; rw [h2] at h4; exact keep (O j) (fun g hg => hR.olt j g hg) (by rw [h3]; exact h4)
   · exact h.elim
 | undef => exact keep none (by simp) (by simp [RC])
 | _ => exact h.elim
def a1N (args : List AV) : St := fun i => match args[i]? with
 | some x => x
 | none => .undef
def a7g : AV → Bool
 | .own _ _ _ => true
 | _ => false
def a6X : AV → Bool
 | .d _ => true
 | .own true _ _ => true
 | _ => false
theorem RCs.length {og : Option Nat} : ∀ {xs : List AV} {vs : List Value}, RCs P w L og xs vs → vs.length = xs.length
 | [], _, h => by simp only [RCs] at h; subst h; rfl
 | x :: xs, _, h => by
   simp only [RCs] at h; obtain ⟨v, us, rfl, h1, h2⟩ := h; simp [RCs.length h2]
def a2K : List AV → Bool
 | [] => true
 | x :: xs => if a7g x then xs.all (fun y => !a7g y) else a2K xs
theorem b3G : ∀ {args : List AV} {i j : Nat} {x y : AV}, a2K args = true → args[i]? = some x → args[j]? = some y → a7g x = true → a7g y = true → i = j
 | [], i, _, _, _, _, h, _, _, _ => by simp at h
 | z :: zs, i, j, x, y, h, hx, hy, h1, h2 => by
   simp only [a2K] at h; split at h
   · have hz : ∀ (k : Nat) (u : AV), zs[k]? = some u → a7g u = false := fun k u hk => by
       have := all_eq_true.1 h u (mem_of_getElem? hk); simpa using this
     cases i <;> cases j
     · rfl
     · simp only [getElem?_cons_succ] at hy; rw [hz _ _ hy] at h2; cases h2
     · simp only [getElem?_cons_succ] at hx; rw [hz _ _ hx] at h1; cases h1
     · simp only [getElem?_cons_succ] at hx; rw [hz _ _ hx] at h1; cases h1
   · rename_i hz
     cases i with
     | zero => simp only [getElem?_cons_zero, Option.some.injEq] at hx; subst hx; exact absurd h1 hz
     | succ i =>
       cases j with
       | zero => simp only [getElem?_cons_zero, Option.some.injEq] at hy; subst hy; exact absurd h2 hz
       | succ j =>
         simp only [getElem?_cons_succ] at hx hy; rw [b3G h hx hy h1 h2]
def b4J (args : List AV) (og : Option Nat) : Nat → Option Nat := fun i => match args[i]? with
 | some x => if a7g x then og else none
 | none => none
theorem a6W {og : Option Nat} {args : List AV} {vals : List Value} {k : Nat} (hlok : ∀ b q, L b q → b < w.heap.size) (hgl : GL P w L) (hog : ∀ g, og = some g → g < w.heap.size ∧ ∀ q, ¬ L g q) (h : RCs P w L og args vals)
   (harg : (args.all a6X) = true) (hone : a2K args = true) :
   Rel P w L (E9 og) w L (b4J args og) (a1N args) (B4 { tmps := vals.toArray ++ Array.replicate k undef, defers := [] }) := by
 refine ⟨E8.refl w _, hlok, hgl, fun _ _ _ _ => Iff.rfl, fun i => ?_, fun i j g hi hj => ?_, fun i g hi => ?_⟩
 · simp only [b4J, a1N]; cases hx : args[i]? with
   | none => simp [RA, RC]
   | some x =>
     obtain ⟨v, hv, hr⟩ := h.get hx; have htm : B4 { tmps := vals.toArray ++ Array.replicate k undef, defers := [] } i = v := by
       have hl : i < vals.length := (List.getElem?_eq_some_iff.1 hv).1; simp only [B4, Array.getD_eq_getD_getElem?]; rw [Array.getElem?_append_left (by simpa using hl)]; simp [hv]
     rw [htm]; have ha := all_eq_true.1 harg x (mem_of_getElem? hx); cases x <;> simp [a6X] at ha <;> simp only [a7g, Bool.false_eq_true, if_false, if_true]
     case d y => exact hr
     case own m e l => exact hr
 · simp only [b4J] at hi hj; split at hi
   · rename_i x hx
     split at hi
     · rename_i h1
       split at hj
       · rename_i y hy
         split at hj
         · rename_i h2
           exact b3G hone hx hy h1 h2
         · cases hj
       · cases hj
     · cases hi
   · cases hi
 · simp only [b4J] at hi; split at hi
   · split at hi
     · exact ⟨(hog g hi).1, .inr hi⟩
     · cases hi
   · cases hi
def a8n (t : Nat) (r : AV) : Exit → St → Prop := fun e σ => (e = .ret ∨ e = .normal) ∧ a0c (σ t) r
def b4R (t u : Nat) (r : AV) (y : D) : Exit → St → Prop := fun e σ => (e = .ret ∨ e = .normal) ∧ a0c (σ t) r ∧ asD (σ u) = some y
theorem c1q {f : FuncId} {fn : Func} {c : Code} {args : List AV} {t : Nat} {r : AV} (F : Nat → Bool) (hm : P.follows .mixedOrders = true) (hf : P.funcs[f]? = some fn) (hname : (fn.name == "runtime.NumGoroutine") = false) (hb : fn.body = some c) (hres : fn.results = #[.tmp t])
   (hargs : args.length ≤ fn.ntmps) (hok : a0j F fn.ntmps c = true) (harg : (args.all a6X) = true) (hone : a2K args = true)
   (h : vwp P F c (a8n t r) (a1N args)) : Ctr P f args r := by
 refine ⟨enters_of hf hname hb, fun w L og vals hlok hgl hog hrc => ?_⟩; have hl := hrc.length; refine calls_of_wp hf hb (wp_mono (K3 (n := fn.ntmps) hm c _ _ w hok ⟨L, _, a1N args, a6W hlok hgl hog hrc harg hone, rfl, ?_, h⟩) ?_)
 · simp; omega
 · rintro e a' w' ⟨L', O', σ', hR, hdef, hsz, he, hr⟩; obtain ⟨L2, og2, h1, h2, h3, _, h4⟩ := a9L hR hr; have hfin : a'.defers = [] ∧ ∃ v, (results fn a'.tmps).run P w' = .ok v w' ∧ (∃ v' L' og', Ending.returned v = .returned v' ∧ E8 w w' (E9 og) ∧ (∀ b q, L' b q → b < w'.heap.size) ∧ (∀ b q, b < w.heap.size → ¬ E9 og b → (L' b q ↔ L b q)) ∧
       (∀ g, og' = some g → g < w'.heap.size ∧ (w.heap.size ≤ g ∨ og = some g)) ∧ RC P w' L' og' r v') :=
     ⟨hdef, _, results_tmp hres _ _ _, _, L2, og2, rfl, hR.grown, h1, h2, h3, h4⟩
   rcases he with rfl | rfl
   · exact hfin
   · exact hfin
def A5 (args hs : List AV) : St := fun i => if 1000000 ≤ i then (match hs[i - 1000000]? with
   | some x => x
   | none => .undef) else (match args[i]? with
   | some x => x
   | none => .undef)
def b5i : AV → Bool
 | .d _ => true
 | _ => false
def a1u (σ : St) (t : Nat) (r : AV) : Prop :=
 match σ t with
 | .d y => r = .d y
 | .nils => r = .d (.sl [])
 | .own m e l => r = .own m e l
 | .bor _ m e l => r = .own m e l
 | .tup [] => r = .tup []
 | _ => False
def b3j (t : Nat) (Post : AV → List AV → Prop) : Exit → St → Prop := fun e σ => (e = .ret ∨ e = .normal) ∧ ∃ (r : AV) (ks : List Nat), ks.Nodup ∧ (∀ k ∈ ks, isH (σ k) = true) ∧ a1u σ t r ∧ Post r (ks.map σ)
theorem a9r {args hs : List AV} {vals : List Value} {k : Nat} (hlok : ∀ b q, L b q → b < w.heap.size) (hgl : GL P w L) (h : RCs P w L none args vals) (harg : (args.all b5i) = true) (hh : ∀ x ∈ hs, RH P w L x) (hap : J7 (hs.map B7)) (hblt : ∀ x ∈ hs, ∀ g, B7 x = some g → g < w.heap.size) :
   Rel P w L (fun b => some b ∈ hs.map B7) w L (fun i => if 1000000 ≤ i then (hs[i - 1000000]?).bind B7 else none) (A5 args hs) (B4 { tmps := vals.toArray ++ Array.replicate k undef, defers := [] }) := by
 refine ⟨E8.refl w _, hlok, hgl, fun _ _ _ _ => Iff.rfl, fun i => ?_, fun i j g hi hj => ?_, fun i g hi => ?_⟩
 · simp only [A5]; by_cases hi : 1000000 ≤ i
   · simp only [hi, if_true]; cases hx : hs[i - 1000000]? with
     | none => simp [RA, RC]
     | some x =>
       obtain ⟨h1, h2⟩ := hh x (mem_of_getElem? hx); simp only [Option.bind_some]; cases x <;> simp [isH] at h1 <;> exact h2
   · simp only [hi, if_false]; cases hx : args[i]? with
     | none => simp [RA, RC]
     | some x =>
       obtain ⟨v, hv, hr⟩ := h.get hx; have htm : B4 { tmps := vals.toArray ++ Array.replicate k undef, defers := [] } i = v := by
         have hl : i < vals.length := (List.getElem?_eq_some_iff.1 hv).1; simp only [B4, Array.getD_eq_getD_getElem?]; rw [Array.getElem?_append_left (by simpa using hl)]; simp [hv]
       rw [htm]; have ha := all_eq_true.1 harg x (mem_of_getElem? hx); cases x <;> simp [b5i] at ha
       exact hr
 · have key : ∀ (l : List (Option Nat)), J7 l → ∀ (i j g : Nat), l[i]? = some (some g) → l[j]? = some (some g) → i = j := by
     intro l
     induction l with
     | nil => intro _ i j g h; simp at h
     | cons x xs ih =>
       intro ha i j g h1 h2; cases i <;> cases j
       · rfl
       · simp only [getElem?_cons_zero, getElem?_cons_succ, Option.some.injEq] at h1 h2; exact absurd (mem_of_getElem? h2) (ha.1 g h1)
       · simp only [getElem?_cons_zero, getElem?_cons_succ, Option.some.injEq] at h1 h2; exact absurd (mem_of_getElem? h1) (ha.1 g h2)
       · simp only [getElem?_cons_succ] at h1 h2; rw [ih ha.2 _ _ g h1 h2]
   split at hi
   · split at hj
     · have conv : ∀ i, (hs[i - 1000000]?).bind B7 = some g → (hs.map B7)[i - 1000000]? = some (some g) := by
         intro i h; rw [getElem?_map]; cases hx : hs[i - 1000000]? with
         | none => rw [hx] at h; cases h
         | some x => rw [hx] at h; simpa using h
       have := key _ hap _ _ g (conv i hi) (conv j hj); omega
     · cases hj
   · cases hi
 · split at hi
   · cases hx : hs[i - 1000000]? with
     | none => rw [hx] at hi; cases hi
     | some x =>
       rw [hx] at hi; simp only [Option.bind_some] at hi; have hm := mem_of_getElem? hx; exact ⟨hblt x hm g hi, .inr (mem_map.2 ⟨x, hm, hi⟩)⟩
   · cases hi
theorem RH.lt {x : AV} (h : RH P w L x) {g : Nat} (hg : B7 x = some g) : g < w.heap.size := by
 obtain ⟨h1, h2⟩ := h; cases x <;> simp [isH] at h1
 case hs u e l =>
   obtain ⟨css, sz, f1, f2, f3, f4, f5⟩ : D9 P w L (B7 (.hs u e l)) true e l u := h2; rcases f4.2 with ⟨hv, _⟩ | ⟨g', cap, cur, hv, hh, _⟩
   · subst hv; simp [B7, Value.ownBlock] at hg
   · subst hv; obtain rfl : g' = g := by simpa [B7, Value.ownBlock] using hg
     exact (Array.getElem?_eq_some_iff.1 hh).1
 case hb u e y =>
   obtain ⟨g', C, e1, e2, e3, _⟩ : Y4 w L (B7 (.hb u e y)) e y u := h2; rw [hg] at e1; obtain rfl : g = g' := by simpa using e1
   exact (Array.getElem?_eq_some_iff.1 e3).1
 case hm u kt m E =>
   obtain ⟨g', m', es, clk, e1, e2, e3, _⟩ : a0d P w L (B7 (.hm u kt m E)) kt m E u := h2; rw [hg] at e1; obtain rfl : g = g' := by simpa using e1
   exact (Array.getElem?_eq_some_iff.1 e3).1
theorem a1a {f : FuncId} {fn : Func} {c : Code} {args hs : List AV} {t : Nat} {Post : AV → List AV → Prop} (F : Nat → Bool) (hm : P.follows .mixedOrders = true) (hf : P.funcs[f]? = some fn) (hname : (fn.name == "runtime.NumGoroutine") = false) (hb : fn.body = some c) (hres : fn.results = #[.tmp t])
   (hargs : args.length ≤ fn.ntmps) (hok : a0j F fn.ntmps c = true) (harg : (args.all b5i) = true)
   (h : vwp P F c (b3j t Post) (A5 args hs)) : F5 P f args hs Post := by
 refine ⟨enters_of hf hname hb, fun w L vals hlok hgl hrc hh hap => ?_⟩; have hl := hrc.length; refine calls_of_wp hf hb (wp_mono (K3 (n := fn.ntmps) hm c _ _ w hok ⟨L, _, A5 args hs, a9r hlok hgl hrc harg hh hap (fun x hx g hg => (hh x hx).lt hg), rfl, ?_, h⟩) ?_)
 · simp; omega
 · rintro e a' w' ⟨L', O', σ', hR, hdef, hsz, he, r, ks, hnd, hks, hr, hpost⟩; have hks' : ∀ k ∈ ks, RH P w' L' (σ' k) ∧ ∀ g, B7 (σ' k) = some g → O' k = some g := by
     intro k hk; have hs := hR.slots k; have hH := hks k hk; have hrc : RC P w' L' (O' k) (σ' k) (B4 a' k) := by
       cases hx : σ' k <;> rw [hx] at hs hH <;> simp [isH] at hH <;> exact hs
     exact hrc.self hH
   obtain ⟨og, o1, o2, o3⟩ : ∃ og, RC P w' L' og r (B4 a' t) ∧ (∀ g, og = some g → ∃ j, O' j = some g ∧ isH (σ' j) = false) ∧ True := by
     have hs := hR.slots t; unfold a1u at hr; cases hx : σ' t <;> rw [hx] at hr hs
     case d y => subst hr; exact ⟨none, hs, by simp, trivial⟩
     case nils => subst hr; refine ⟨none, ?_, by simp, trivial⟩; simp only [RC]; rw [show B4 a' t = .slice none 0 0 from hs]; exact a4F
     case own m e l => subst hr; exact ⟨O' t, hs, fun g hg => ⟨t, hg, by rw [hx]; rfl⟩, trivial⟩
     case bor j m e l =>
       subst hr; obtain ⟨h2, h3⟩ := hs; have h4 := hR.slots j; rw [h2] at h4; exact ⟨O' j, by rw [h3]; exact h4, fun g hg => ⟨j, hg, by rw [h2]; rfl⟩, trivial⟩
     case tup l =>
       cases l with
       | nil => subst hr; obtain ⟨vs, h1, h2⟩ := hs; exact ⟨none, by simp only [RC]; exact ⟨vs, h1, by simp only [RCs] at h2 ⊢; exact h2⟩, by simp, trivial⟩
       | cons x l => exact hr.elim
     all_goals exact hr.elim
   have hmap : ∀ g, some g ∈ (ks.map σ').map B7 → ∃ k ∈ ks, O' k = some g := by
     intro g hg; simp only [map_map, mem_map, Function.comp_apply] at hg; obtain ⟨k, hk, hg⟩ := hg; exact ⟨k, hk, (hks' k hk).2 g hg⟩
   have hapart : ∀ (l : List Nat), l.Nodup → (∀ k ∈ l, ∀ g, B7 (σ' k) = some g → O' k = some g) → J7 ((l.map σ').map B7) := by
     intro l
     induction l with
     | nil => intro _ _; trivial
     | cons k l ih =>
       intro hn ho; rw [nodup_cons] at hn; refine ⟨fun g hg hm => ?_, ih hn.2 (fun k hk => ho k (by simp [hk]))⟩; simp only [map_map, mem_map, Function.comp_apply] at hm; obtain ⟨k', hk', hg'⟩ := hm; have e1 := ho k (by simp) g hg; have e2 := ho k' (by simp [hk']) g hg'; exact hn.1 (by rw [hR.inj k k' g e1 e2]; exact hk')
   have hfin : a'.defers = [] ∧ ∃ v, (results fn a'.tmps).run P w' = .ok v w' ∧ (∃ v' L' og r hs', Ending.returned v = .returned v' ∧ E8 w w' (fun b => some b ∈ hs.map B7) ∧ (∀ b q, L' b q → b < w'.heap.size) ∧ (∀ b q, b < w.heap.size → some b ∉ hs.map B7 → (L' b q ↔ L b q)) ∧
     (∀ g, some g ∈ og :: hs'.map B7 → g < w'.heap.size ∧ (w.heap.size ≤ g ∨ some g ∈ hs.map B7)) ∧ J7 (og :: hs'.map B7) ∧ RC P w' L' og r v' ∧ (∀ x ∈ hs', RH P w' L' x) ∧ Post r hs') := by
     refine ⟨hdef, _, results_tmp hres _ _ _, _, L', og, r, ks.map σ', rfl, hR.grown, hR.lok, hR.old, fun g hg => ?_, ⟨fun g hg hm => ?_, hapart ks hnd (fun k hk => (hks' k hk).2)⟩, o1, fun x hx => ?_, hpost⟩
     · rcases mem_cons.1 hg with hg | hg
       · obtain ⟨j, hj, _⟩ := o2 g hg.symm; exact hR.olt j g hj
       · obtain ⟨k, _, hk⟩ := hmap g hg; exact hR.olt k g hk
     · obtain ⟨j, hj, hjH⟩ := o2 g hg; obtain ⟨k, hkm, hk⟩ := hmap g hm; have := hks k hkm; rw [hR.inj k j g hk hj] at this; rw [hjH] at this; cases this
     · obtain ⟨k, hk, rfl⟩ := mem_map.1 hx; exact (hks' k hk).1
   rcases he with rfl | rfl
   · exact hfin
   · exact hfin
end Go.Vw
namespace Go.Vw
def mkd {α : Sort _} (x : α) : α := x
theorem c5D {α : Sort _} (x y : α) (h : x = y) : mkd x = y := by unfold mkd; exact h
@[simp] theorem B5 {α : Sort _} (x : α) : mkd x = x := c5D x x (Eq.symm (Eq.symm rfl))
@[simp] theorem d6p (σ : St) (d : Nat) (x : AV) (i : Nat) : put σ d x i = if i = d then E0 d x else E0 d (σ i) := rfl
@[simp] theorem d3K (l : List AV) (i : Nat) : a1N l i = match l[i]? with
 | some x => x
 | none => .undef := rfl
def a9N (P : Program) (F : Nat → Bool) (ops : Array Oper) (l : List Oper) (ds : List Nat) (K : St → Prop) (σ : St) : Prop := P3 P F ops ds l K (I3 ds σ)
def b1o (b b' : Bool) (P : Program) (F : Nat → Bool) (ops : Array Oper) (l : List Oper) (ds : List Nat) (K : St → Prop) (σ : St) : Prop := b5R b P F ops K (b5v b' (a9N P F ops l ds K)) σ
def b2O (b : Bool) (P : Program) (F : Nat → Bool) (ops : Array Oper) (l : List Oper) (ds : List Nat) (K : St → Prop) (σ : St) : Prop := b5v b (a9N P F ops l ds K) σ
def a9e (P : Program) (F : Nat → Bool) (l : List Oper) (ds : List Nat) (K : St → Prop) (σ : St) : Prop := F2 P F ds l K (I3 ds σ)
def a6f (b9 bT b b' : Bool) (P : Program) (F : Nat → Bool) (l : List Oper) (ds : List Nat) (K : St → Prop) (σ : St) : Prop := a7Y b9 bT P F l.toArray K (b1o b b' P F l.toArray l ds K) σ
def a7V (P : Program) (F : Nat → Bool) (ops : Array Oper) (l r : List Oper) (ds : List Nat) (K : St → Prop) (σ : St) : Prop := F2 P F ds l (J5 P F ops r K) (I3 ds σ)
section
variable {P : Program} {F : Nat → Bool} {Q : Exit → St → Prop} {K : St → Prop} {σ : St}
@[simp] theorem c9s (ops : Array Oper) (l : List Oper) (ds : List Nat) : b2O false P F ops l ds K σ = a9N P F ops l ds K σ := by simp [b2O, b5v]
@[simp] theorem d1m : vwp P F .skip Q σ = Q .normal σ := by simp only [vwp]
@[simp] theorem c8H (id : Nat) (ops : List Oper) : vwp P F (.region id ops.toArray false) Q σ = J5 P F ops.toArray ops (Q .normal) σ := by simp only [vwp]
@[simp] theorem d0C (b : Bool) (ops : Array Oper) (l : List Oper) (ds : List Nat) : b1o false b P F ops l ds K σ = b2O b P F ops l ds K σ := by simp [b1o, b2O, b5R]
@[simp] theorem d0I (bT b b' : Bool) (l : List Oper) (ds : List Nat) : a6f false bT b b' P F l ds K σ = b1o b b' P F l.toArray l ds K σ := by simp [a6f, a7Y]
@[simp] theorem d1j (b b' : Bool) (l : List Oper) (ds : List Nat) : a6f true false b b' P F l ds K σ = a9e P F l (wrs F l) K σ := by simp only [a6f, a7Y, a9e, a2L, a9q, if_true, Bool.false_eq_true, if_false]; rfl
@[simp] theorem d1Y (b b' : Bool) (l : List Oper) (ds : List Nat) : a6f true true b b' P F l ds K σ = a7V P F l.toArray (a5Q F l) (a4s F l) (wrs F (a5Q F l)) K σ := by simp only [a6f, a7Y, a7V, a2L, a9q, if_true]
@[simp] theorem d2G (ops : Array Oper) (l r : List Oper) (ds : List Nat) : a7V P F ops l r ds K σ = F2 P F ds l (J5 P F ops r K) (I3 ds σ) := rfl
@[simp] theorem d4J : a5Q F [] = [] := rfl
@[simp] theorem d2d (d : Nat) (op : Op) (ty : TypeId) (pos : String) (after : Array Edge) (g : Option (Nat × Bool)) (rest : List Oper) : a5Q F ({ dst := some d, op, type := ty, pos, after, guard := g } :: rest) = if (!F (15000000 + d)) = true then { dst := some d, op, type := ty, pos, after, guard := g } :: a5Q F rest else [] := rfl
@[simp] theorem d1M (op : Op) (ty : TypeId) (pos : String) (after : Array Edge) (g : Option (Nat × Bool)) (rest : List Oper) : a5Q F ({ dst := none, op, type := ty, pos, after, guard := g } :: rest) = [] := rfl
@[simp] theorem d1R : a4s F [] = [] := rfl
@[simp] theorem c8O (d : Nat) (op : Op) (ty : TypeId) (pos : String) (after : Array Edge) (g : Option (Nat × Bool)) (rest : List Oper) : a4s F ({ dst := some d, op, type := ty, pos, after, guard := g } :: rest) = if (!F (15000000 + d)) = true then a4s F rest else { dst := some d, op, type := ty, pos, after, guard := g } :: rest := rfl
@[simp] theorem c9i (op : Op) (ty : TypeId) (pos : String) (after : Array Edge) (g : Option (Nat × Bool)) (rest : List Oper) : a4s F ({ dst := none, op, type := ty, pos, after, guard := g } :: rest) = { dst := none, op, type := ty, pos, after, guard := g } :: rest := rfl
@[simp] theorem d1I (l : List Oper) (ds : List Nat) : a9e P F l ds K σ = F2 P F ds l K (I3 ds σ) := rfl
@[simp] theorem d5S : wrs F [] = [] := rfl
@[simp] theorem d3d (o : Oper) (rest : List Oper) : wrs F (o :: rest) = wrS F o ++ wrs F rest := rfl
attribute [simp] wrS wrO U3
@[simp] theorem d2y (id : Nat) (ops : List Oper) : vwp P F (.region id ops.toArray true) Q σ = a6f (F (9000000 + id)) (F (14000000 + id)) (F (8000000 + id)) (F (7000000 + id)) P F ops (M0 F ops) (Q .normal) σ := by simp only [vwp, a6f, b1o]; rfl
@[simp] theorem d2v : M0 F [] = [] := rfl
@[simp] theorem c9e (d : Nat) (op : Op) (ty : TypeId) (pos : String) (after : Array Edge) (g : Option (Nat × Bool)) (rest : List Oper) :
   M0 F ({ dst := some d, op, type := ty, pos, after, guard := g } :: rest) = if a4g F (some d) op then [] else d :: M0 F rest := rfl
@[simp] theorem d0p (op : Op) (ty : TypeId) (pos : String) (after : Array Edge) (g : Option (Nat × Bool)) (rest : List Oper) :
   M0 F ({ dst := none, op, type := ty, pos, after, guard := g } :: rest) = if a4g F none op then [] else M0 F rest := rfl
@[simp] theorem d3i (ops : Array Oper) (l : List Oper) (ds : List Nat) : a9N P F ops l ds K σ = P3 P F ops ds l K (I3 ds σ) := rfl
@[simp] theorem d4c (x y : Code) : vwp P F (.seq x y) Q σ = vwp P F x (a2q (vwp P F y Q) Q) σ := by simp only [vwp]
@[simp] theorem d2b (c : Operand) (x y : Code) : vwp P F (.cond c x y) Q σ = (match A0 σ c with
   | .d (.bool b) => if b = true then vwp P F x Q σ else vwp P F y Q σ
   | _ => False) := by
 simp only [vwp]; cases A0 σ c with
 | d x => cases x with
   | bool b => cases b <;> simp
   | _ => rfl
 | _ => rfl
@[simp] theorem c9c (id : Nat) (c : Code) : vwp P F (.block id c) Q σ = vwp P F c (a1d id Q) σ := by simp only [vwp]
@[simp] theorem d2D (c : Code) : vwp P F (.loop c) Q σ = a3L (vwp P F c) Q σ := by simp only [vwp]
@[simp] theorem d2x (id : Nat) : vwp P F (.exit id) Q σ = Q (.exit id) σ := by simp only [vwp]
@[simp] theorem d4z : vwp P F .ret Q σ = Q .ret σ := by simp only [vwp]
@[simp] theorem d5j (N : St → Prop) : a2q N Q .normal σ = N σ := rfl
@[simp] theorem d5d (N : St → Prop) : a2q N Q .ret σ = Q .ret σ := rfl
@[simp] theorem d4X (N : St → Prop) (id : Nat) : a2q N Q (.exit id) σ = Q (.exit id) σ := rfl
@[simp] theorem c8S (id : Nat) : a1d id Q .normal σ = Q .normal σ := rfl
@[simp] theorem c9T (id : Nat) : a1d id Q .ret σ = Q .ret σ := rfl
@[simp] theorem c8X (id id' : Nat) : a1d id Q (.exit id') σ = if id' = id then Q .normal σ else Q (.exit id') σ := rfl
@[simp] theorem d2K (ops : Array Oper) : J5 P F ops [] K σ = K σ := rfl
@[simp] theorem d0Z (ops : Array Oper) (dst : Option Tmp) (op : Op) (ty : TypeId) (pos : String) (after : Array Edge) (rest : List Oper) :
   J5 P F ops ({ dst, op, type := ty, pos, after, guard := none } :: rest) K σ = vop P F { dst, op, type := ty, pos, after, guard := none } (J5 P F ops rest K) σ := rfl
@[simp] theorem c9J (ops : Array Oper) (dst : Option Tmp) (op : Op) (ty : TypeId) (pos : String) (after : Array Edge) (j : Nat) (want : Bool) (rest : List Oper) :
   J5 P F ops ({ dst, op, type := ty, pos, after, guard := some (j, want) } :: rest) K σ = A8 ((ops[j]?).bind (·.dst)) fun t => (match σ t with
     | .d (.bool b) => if b = want then vop P F { dst, op, type := ty, pos, after, guard := some (j, want) } (J5 P F ops rest K) σ else J5 P F ops rest K (b2E σ dst)
     | .tup [] => J5 P F ops rest K (b2E σ dst)
     | _ => False) := by
 simp only [J5]; congr 1
 funext t
 cases σ t with
 | d x => cases x with
   | bool b => by_cases hb : b = want <;> simp [hb]
   | _ => rfl
 | tup l => cases l <;> rfl
 | _ => rfl
def M1 (ds : List Nat) (d : Nat) (N : St → Prop) (σ : St) (x : AV) : Prop := H8 ds x = true ∧ N (B0 σ d x)
@[simp] theorem d4k (ds : List Nat) (d : Nat) (N : St → Prop) (x : AV) : M1 ds d N σ x = (H8 ds x = true ∧ N (B0 σ d x)) := rfl
@[simp] theorem d3U (ds : List Nat) : F2 P F ds [] K σ = K σ := rfl
@[simp] theorem d0k (ds : List Nat) (d : Nat) (e ty : TypeId) (pos : String) (after : Array Edge) (g : Option (Nat × Bool)) (rest : List Oper) :
   F2 P F ds ({ dst := some d, op := .alloc e, type := ty, pos, after, guard := g } :: rest) K σ = if F (d + 1000000) = true then False else A8 (D4 P e) fun z => F2 P F ds rest K (B0 σ d (.box z)) := rfl
@[simp] theorem d1K (ds : List Nat) (d : Nat) (t : Nat) (ty : TypeId) (pos : String) (after : Array Edge) (g : Option (Nat × Bool)) (rest : List Oper) :
   F2 P F ds ({ dst := some d, op := .move (.tmp t), type := ty, pos, after, guard := g } :: rest) K σ = (if F (18000000 + d) = true then (match σ t with
     | .own true e l => M1 ds d (F2 P F ds rest K) (B0 σ t .undef) (.own true e l)
     | _ => False) else D3 P F (.move (.tmp t)) d σ (M1 ds d (F2 P F ds rest K) σ)) := by
 simp only [F2, a8P, b5o, W3, U3, kl]; split
 · cases σ t with
   | own m e l => cases m <;> rfl
   | _ => rfl
 · rfl
@[simp] theorem d0g (ds : List Nat) (d : Nat) (v : Value) (ty : TypeId) (pos : String) (after : Array Edge) (g : Option (Nat × Bool)) (rest : List Oper) :
   F2 P F ds ({ dst := some d, op := .move (.const v), type := ty, pos, after, guard := g } :: rest) K σ = D3 P F (.move (.const v)) d σ (M1 ds d (F2 P F ds rest K) σ) := rfl
@[simp] theorem d0O (ds : List Nat) (d : Nat) (v : FuncId) (ty : TypeId) (pos : String) (after : Array Edge) (g : Option (Nat × Bool)) (rest : List Oper) :
   F2 P F ds ({ dst := some d, op := .move (.func v), type := ty, pos, after, guard := g } :: rest) K σ = D3 P F (.move (.func v)) d σ (M1 ds d (F2 P F ds rest K) σ) := rfl
@[simp] theorem c9G (ds : List Nat) (d : Nat) (v : Nat) (ty : TypeId) (pos : String) (after : Array Edge) (g : Option (Nat × Bool)) (rest : List Oper) :
   F2 P F ds ({ dst := some d, op := .move (.global v), type := ty, pos, after, guard := g } :: rest) K σ = D3 P F (.move (.global v)) d σ (M1 ds d (F2 P F ds rest K) σ) := rfl
@[simp] theorem c8C (ds : List Nat) (d : Nat) (t : Nat) (ty : TypeId) (pos : String) (after : Array Edge) (g : Option (Nat × Bool)) (rest : List Oper) :
   F2 P F ds ({ dst := some d, op := .assign (.tmp t), type := ty, pos, after, guard := g } :: rest) K σ = (match σ t with
     | .own m e l => M1 ds d (F2 P F ds rest K) (B0 σ t .undef) (.own m e l)
     | _ => D3 P F (.assign (.tmp t)) d σ (M1 ds d (F2 P F ds rest K) (B0 σ t .undef))) := rfl
@[simp] theorem c7F (ds : List Nat) (d : Nat) (v : Value) (ty : TypeId) (pos : String) (after : Array Edge) (g : Option (Nat × Bool)) (rest : List Oper) :
   F2 P F ds ({ dst := some d, op := .assign (.const v), type := ty, pos, after, guard := g } :: rest) K σ = D3 P F (.assign (.const v)) d σ (M1 ds d (F2 P F ds rest K) σ) := rfl
@[simp] theorem c7I (ds : List Nat) (d : Nat) (v : FuncId) (ty : TypeId) (pos : String) (after : Array Edge) (g : Option (Nat × Bool)) (rest : List Oper) :
   F2 P F ds ({ dst := some d, op := .assign (.func v), type := ty, pos, after, guard := g } :: rest) K σ = D3 P F (.assign (.func v)) d σ (M1 ds d (F2 P F ds rest K) σ) := rfl
@[simp] theorem c7J (ds : List Nat) (d : Nat) (v : Nat) (ty : TypeId) (pos : String) (after : Array Edge) (g : Option (Nat × Bool)) (rest : List Oper) :
   F2 P F ds ({ dst := some d, op := .assign (.global v), type := ty, pos, after, guard := g } :: rest) K σ = D3 P F (.assign (.global v)) d σ (M1 ds d (F2 P F ds rest K) σ) := rfl
@[simp] theorem d2c (ds : List Nat) (d : Nat) (c x y : Operand) (ty : TypeId) (pos : String) (after : Array Edge) (g : Option (Nat × Bool)) (rest : List Oper) :
   F2 P F ds ({ dst := some d, op := .pick c x y, type := ty, pos, after, guard := g } :: rest) K σ = D3 P F (.pick c x y) d σ (M1 ds d (F2 P F ds rest K) σ) := rfl
@[simp] theorem d1Q (ds : List Nat) (d : Nat) (t : TypeId) (x : Operand) (ty : TypeId) (pos : String) (after : Array Edge) (g : Option (Nat × Bool)) (rest : List Oper) :
   F2 P F ds ({ dst := some d, op := .load t x, type := ty, pos, after, guard := g } :: rest) K σ = D3 P F (.load t x) d σ (M1 ds d (F2 P F ds rest K) σ) := rfl
@[simp] theorem c9S (ds : List Nat) (d : Nat) (t : TypeId) (ps : Array (Nat × Operand)) (ty : TypeId) (pos : String) (after : Array Edge) (g : Option (Nat × Bool)) (rest : List Oper) :
   F2 P F ds ({ dst := some d, op := .build t ps, type := ty, pos, after, guard := g } :: rest) K σ = D3 P F (.build t ps) d σ (M1 ds d (F2 P F ds rest K) σ) := rfl
@[simp] theorem c5i (ds : List Nat) (d : Nat) (t : TypeId) (len : Nat) (ps : Array (Nat × Operand)) (ty : TypeId) (pos : String) (after : Array Edge) (g : Option (Nat × Bool)) (rest : List Oper) :
   F2 P F ds ({ dst := some d, op := .buildSlice t len ps, type := ty, pos, after, guard := g } :: rest) K σ = D3 P F (.buildSlice t len ps) d σ (M1 ds d (F2 P F ds rest K) σ) := rfl
@[simp] theorem c6I (ds : List Nat) (d : Nat) (x : Operand) (ty : TypeId) (pos : String) (after : Array Edge) (g : Option (Nat × Bool)) (rest : List Oper) :
   F2 P F ds ({ dst := some d, op := .nilCheck x, type := ty, pos, after, guard := g } :: rest) K σ = D3 P F (.nilCheck x) d σ (M1 ds d (F2 P F ds rest K) σ) := rfl
@[simp] theorem c6k (ds : List Nat) (d : Nat) (s : TypeId) (x : Operand) (f : Nat) (ty : TypeId) (pos : String) (after : Array Edge) (g : Option (Nat × Bool)) (rest : List Oper) :
   F2 P F ds ({ dst := some d, op := .fieldAddr s x f, type := ty, pos, after, guard := g } :: rest) K σ = D3 P F (.fieldAddr s x f) d σ (M1 ds d (F2 P F ds rest K) σ) := rfl
@[simp] theorem c5G (ds : List Nat) (d : Nat) (t : TypeId) (x i : Operand) (ty : TypeId) (pos : String) (after : Array Edge) (g : Option (Nat × Bool)) (rest : List Oper) :
   F2 P F ds ({ dst := some d, op := .indexAddr t x i, type := ty, pos, after, guard := g } :: rest) K σ = D3 P F (.indexAddr t x i) d σ (M1 ds d (F2 P F ds rest K) σ) := rfl
@[simp] theorem d0e (ds : List Nat) (d : Nat) (t : TypeId) (x i : Operand) (ty : TypeId) (pos : String) (after : Array Edge) (g : Option (Nat × Bool)) (rest : List Oper) :
   F2 P F ds ({ dst := some d, op := .index t x i, type := ty, pos, after, guard := g } :: rest) K σ = D3 P F (.index t x i) d σ (M1 ds d (F2 P F ds rest K) σ) := rfl
@[simp] theorem d0m (ds : List Nat) (d : Nat) (t : TypeId) (x : Operand) (lo hi mx : Option Operand) (ty : TypeId) (pos : String) (after : Array Edge) (g : Option (Nat × Bool)) (rest : List Oper) :
   F2 P F ds ({ dst := some d, op := .slice t x lo hi mx, type := ty, pos, after, guard := g } :: rest) K σ = D3 P F (.slice t x lo hi mx) d σ (M1 ds d (F2 P F ds rest K) σ) := rfl
@[simp] theorem d0q (ds : List Nat) (d : Nat) (b : BinOp) (t : TypeId) (x y : Operand) (t' : TypeId) (ty : TypeId) (pos : String) (after : Array Edge) (g : Option (Nat × Bool)) (rest : List Oper) :
   F2 P F ds ({ dst := some d, op := .binOp b t x y t', type := ty, pos, after, guard := g } :: rest) K σ = D3 P F (.binOp b t x y t') d σ (M1 ds d (F2 P F ds rest K) σ) := rfl
@[simp] theorem d1q (ds : List Nat) (d : Nat) (u : UnOp) (t : TypeId) (x : Operand) (ty : TypeId) (pos : String) (after : Array Edge) (g : Option (Nat × Bool)) (rest : List Oper) :
   F2 P F ds ({ dst := some d, op := .unOp u t x, type := ty, pos, after, guard := g } :: rest) K σ = D3 P F (.unOp u t x) d σ (M1 ds d (F2 P F ds rest K) σ) := rfl
@[simp] theorem c7H (ds : List Nat) (d : Nat) (s t : TypeId) (x : Operand) (ty : TypeId) (pos : String) (after : Array Edge) (g : Option (Nat × Bool)) (rest : List Oper) :
   F2 P F ds ({ dst := some d, op := .convert s t x, type := ty, pos, after, guard := g } :: rest) K σ = D3 P F (.convert s t x) d σ (M1 ds d (F2 P F ds rest K) σ) := rfl
@[simp] theorem c7a (ds : List Nat) (d : Nat) (x : Operand) (i : Nat) (ty : TypeId) (pos : String) (after : Array Edge) (g : Option (Nat × Bool)) (rest : List Oper) :
   F2 P F ds ({ dst := some d, op := .extract x i, type := ty, pos, after, guard := g } :: rest) K σ = D3 P F (.extract x i) d σ (M1 ds d (F2 P F ds rest K) σ) := rfl
@[simp] theorem d1F (ds : List Nat) (d : Nat) (f : FuncId) (args : Array Operand) (ts : Array TypeId) (ty : TypeId) (pos : String) (after : Array Edge) (g : Option (Nat × Bool)) (rest : List Oper) :
   F2 P F ds ({ dst := some d, op := .call { callee := .value (.func f), args, argTypes := ts }, type := ty, pos, after, guard := g } :: rest) K σ = (if F (19000000 + d) = true then (match args.toList with
     | [.tmp s] => (match σ s with
       | .own true e l => ∃ r, Ctr P f [.own true e l] r ∧ M1 ds d (F2 P F ds rest K) (B0 σ s .undef) (O8 (F d) r)
       | _ => False)
     | _ => False) else D3 P F (.call { callee := .value (.func f), args, argTypes := ts }) d σ (M1 ds d (F2 P F ds rest K) σ)) := by
 simp only [F2, a8P, b5o, W3, U3, kl]; split
 · generalize args.toList = L; cases L with
   | nil => rfl
   | cons x L =>
     cases x with
     | tmp s =>
       cases L with
       | nil =>
         simp only; cases σ s with
         | own m e l => cases m <;> rfl
         | _ => rfl
       | cons _ _ => rfl
     | _ => rfl
 · rfl
@[simp] theorem d0B (ds : List Nat) (d : Nat) (f : Nat) (args : Array Operand) (ts : Array TypeId) (ty : TypeId) (pos : String) (after : Array Edge) (g : Option (Nat × Bool)) (rest : List Oper) :
   F2 P F ds ({ dst := some d, op := .call { callee := .value (.tmp f), args, argTypes := ts }, type := ty, pos, after, guard := g } :: rest) K σ = D3 P F (.call { callee := .value (.tmp f), args, argTypes := ts }) d σ (M1 ds d (F2 P F ds rest K) σ) := rfl
@[simp] theorem c8o (ds : List Nat) (d : Nat) (t : TypeId) (x i : Operand) (c : Bool) (ty : TypeId) (pos : String) (after : Array Edge) (g : Option (Nat × Bool)) (rest : List Oper) :
   F2 P F ds ({ dst := some d, op := .lookup t x i c, type := ty, pos, after, guard := g } :: rest) K σ = D3 P F (.lookup t x i c) d σ (M1 ds d (F2 P F ds rest K) σ) := rfl
@[simp] theorem c7R (ds : List Nat) (d : Nat) (args : Array Operand) (ts : Array TypeId) (ty : TypeId) (pos : String) (after : Array Edge) (g : Option (Nat × Bool)) (rest : List Oper) :
   F2 P F ds ({ dst := some d, op := .call { callee := .builtin .len, args, argTypes := ts }, type := ty, pos, after, guard := g } :: rest) K σ = D3 P F (.call { callee := .builtin .len, args, argTypes := ts }) d σ (M1 ds d (F2 P F ds rest K) σ) := rfl
@[simp] theorem c8g (ds : List Nat) (d : Nat) (s : Nat) (y : Operand) (t t' : TypeId) (ty : TypeId) (pos : String) (after : Array Edge) (g : Option (Nat × Bool)) (rest : List Oper) :
   F2 P F ds ({ dst := some d, op := .call { callee := .builtin .append, args := #[.tmp s, y], argTypes := #[t, t'] }, type := ty, pos, after, guard := g } :: rest) K σ = (t' = t ∧ A8 (H1 P t) fun e => (match σ s with
     | .own true e' l => e' = e ∧ A8 (esz P e) fun z => A8 (Q4 (A0 σ y)) fun ds' => (∀ u ∈ ds', A9 u = z.1) ∧ (l.length + ds'.length) * z.2 ≤ 140737488355328 ∧ l.length + ds'.length ≤ 140737488355328 ∧ M1 ds d (F2 P F ds rest K) (B0 σ s .undef) (.own (F d) e (l ++ ds'))
     | _ => False)) := rfl
@[simp] theorem c8N (ds : List Nat) (t : TypeId) (s : Nat) (y : Operand) (ty : TypeId) (pos : String) (after : Array Edge) (g : Option (Nat × Bool)) (rest : List Oper) :
   F2 P F ds ({ dst := none, op := .store t (.tmp s) y, type := ty, pos, after, guard := g } :: rest) K σ = (match σ s with
     | .box b => A8 (asD (A0 σ y)) fun u => A9 u = A9 b ∧ D2 P t = some (A9 u) ∧ F2 P F ds rest K (B0 σ s (.box u))
     | _ => False) := rfl
@[simp] theorem d0V (ops : Array Oper) (ds : List Nat) : P3 P F ops ds [] K σ = K σ := rfl
@[simp] theorem c9M (ops : Array Oper) (ds : List Nat) (d : Nat) (op : Op) (ty : TypeId) (pos : String) (after : Array Edge) (rest : List Oper) :
   P3 P F ops ds ({ dst := some d, op, type := ty, pos, after, guard := none } :: rest) K σ = if a4g F (some d) op then vop P F { dst := some d, op, type := ty, pos, after, guard := none } (J5 P F ops rest K) σ
     else D3 P F op d σ (M1 ds d (P3 P F ops ds rest K) σ) := by
 simp only [P3, J5, I9]; rfl
@[simp] theorem c8v (ops : Array Oper) (ds : List Nat) (op : Op) (ty : TypeId) (pos : String) (after : Array Edge) (rest : List Oper) :
   P3 P F ops ds ({ dst := none, op, type := ty, pos, after, guard := none } :: rest) K σ = if a4g F none op then vop P F { dst := none, op, type := ty, pos, after, guard := none } (J5 P F ops rest K) σ else False := by
 simp only [P3, J5, b8v]
@[simp] theorem c8z (ops : Array Oper) (ds : List Nat) (d : Nat) (op : Op) (ty : TypeId) (pos : String) (after : Array Edge) (j : Nat) (want : Bool) (rest : List Oper) :
   P3 P F ops ds ({ dst := some d, op, type := ty, pos, after, guard := some (j, want) } :: rest) K σ = if a4g F (some d) op then J5 P F ops ({ dst := some d, op, type := ty, pos, after, guard := some (j, want) } :: rest) K σ
     else A8 ((ops[j]?).bind (·.dst)) fun t => (match σ t with
     | .d (.bool b) => if b = want then D3 P F op d σ (M1 ds d (P3 P F ops ds rest K) σ) else P3 P F ops ds rest K (B0 σ d (.tup []))
     | .tup [] => P3 P F ops ds rest K (B0 σ d (.tup []))
     | _ => False) := by
 simp only [P3, I9]; split
 · rfl
 · congr 1
   funext t
   cases σ t with
   | d x => cases x with
     | bool b => by_cases hb : b = want <;> simp [hb] <;> rfl
     | _ => rfl
   | tup l => cases l <;> rfl
   | _ => rfl
@[simp] theorem d3O (d : Nat) (op : Op) (ty : TypeId) (pos : String) (after : Array Edge) (g : Option (Nat × Bool)) : vop P F { dst := some d, op, type := ty, pos, after, guard := g } K σ = M2 P F op ty d K σ := rfl
@[simp] theorem d1w (c : Call) (ty : TypeId) (pos : String) (after : Array Edge) (g : Option (Nat × Bool)) : vop P F { dst := none, op := .call c, type := ty, pos, after, guard := g } K σ = a6v P c K σ := rfl
@[simp] theorem c6M (t : TypeId) (x i y : Operand) (ty : TypeId) (pos : String) (after : Array Edge) (g : Option (Nat × Bool)) : vop P F { dst := none, op := .mapUpdate t x i y, type := ty, pos, after, guard := g } K σ = a7p P t x i y K σ := rfl
@[simp] theorem d0N (t : TypeId) (x i y : Operand) (ty : TypeId) (pos : String) (after : Array Edge) (g : Option (Nat × Bool)) : vop P F { dst := none, op := .insert t x i y, type := ty, pos, after, guard := g } K σ = a7p P t x i y K σ := rfl
@[simp] theorem d2p (t : TypeId) (x y : Operand) (ty : TypeId) (pos : String) (after : Array Edge) (g : Option (Nat × Bool)) : vop P F { dst := none, op := .store t x y, type := ty, pos, after, guard := g } K σ = a4K P F t x y K σ := rfl
end
section
variable (d : D) (l : List D) (m : Bool) (e : TypeId) (j i t : Nat) (p : List Nat) (xs : List AV) (s : Str) (σ : St)
@[simp] theorem d6O : asD (.d d) = some d := rfl
@[simp] theorem d2Y : asD .nils = some (.sl []) := rfl
@[simp] theorem d3I : asD (.full l) = some (.sl l) := rfl
@[simp] theorem d5e : asD (.own false e l) = some (.sl l) := rfl
@[simp] theorem d5R : asD (.bor j false e l) = some (.sl l) := rfl
@[simp] theorem d3W : asD (.own true e l) = none := rfl
@[simp] theorem d3v : asD (.bor j true e l) = none := rfl
@[congr] theorem d5T {σ' : St} {v v' : AV} {C : List D → Prop} (hv : v = v') (hs : mkd (σ) = σ') : a1Y v σ C = a1Y v' σ' C := by subst hv; rw [B5] at hs; subst hs; rfl
@[congr] theorem d5G {σ' : St} {u u' : Value} {C : List D → Prop} (hu : mkd (u) = u') (hs : mkd (σ) = σ') : b4P u σ C = b4P u' σ' C := by rw [B5] at hu; subst hu; rw [B5] at hs; subst hs; rfl
@[simp] theorem d3j {u : Value} {C : List D → Prop} : a1Y (.d (.raw u)) σ C = b4P u σ C := rfl
@[simp] theorem d3e {C : List D → Prop} : a1Y (.bor j m e l) σ C = C l := by simp [a1Y, Q4]
@[simp] theorem d6E {C : List D → Prop} : a1Y (.d (.sl l)) σ C = C l := by simp [a1Y, Q4]
@[simp] theorem d2s {C : List D → Prop} : a1Y .nils σ C = C [] := by simp [a1Y, Q4]
@[simp] theorem d2t {C : List D → Prop} : a1Y (.full l) σ C = C l := by simp [a1Y, Q4]
@[simp] theorem d0U : Q4 (.bor j m e l) = some l := rfl
@[simp] theorem d5Q : Q4 (.d (.sl l)) = some l := rfl
@[simp] theorem d0l : Q4 .nils = some [] := rfl
@[simp] theorem c9h : Q4 (.full l) = some l := rfl
@[simp] theorem d2e : a4t (.bor j m e l) = some l.length := rfl
@[simp] theorem d5p : a4t (.d (.sl l)) = some l.length := rfl
@[simp] theorem d0A : a4t .nils = some 0 := rfl
@[simp] theorem d0G : a4t (.full l) = some l.length := rfl
@[simp] theorem d1a (A : Option Addr) (k c : Nat) : a4t (.d (.raw (.slice A k c))) = some k := rfl
@[simp] theorem d5Z : rd t (.own m e l) = .bor t m e l := rfl
@[simp] theorem d6F : rd t (.box d) = .adr t [] := rfl
@[simp] theorem d6y : rd t (.tup xs) = .undef := rfl
@[simp] theorem d5D : rd t (.iter s i) = .undef := rfl
@[simp] theorem d4a : rd t .undef = .undef := rfl
@[simp] theorem d6Z : rd t (.d d) = .d d := rfl
@[simp] theorem d5c : rd t .nils = .nils := rfl
@[simp] theorem d4Y : rd t (.full l) = .full l := rfl
@[simp] theorem d6g : rd t (.bor j m e l) = .bor j m e l := rfl
@[simp] theorem d6m : rd t (.adr j p) = .adr j p := rfl
@[simp] theorem d5g : rd t (.eadr j i p) = .eadr j i p := rfl
@[simp] theorem d3H : A0 σ (.tmp t) = rd t (σ t) := rfl
@[simp] theorem c9V (v : Value) : A0 σ (.const v) = a1G v := rfl
@[simp] theorem d2i (f : FuncId) : A0 σ (.func f) = .d (.clo f []) := rfl
@[simp] theorem d1x (b : Bool) : a1G (.bool b) = .d (.bool b) := rfl
@[simp] theorem d4F (k : IntKind) (n : Int) : a1G (.int k n) = .d (.int k n) := rfl
@[simp] theorem d3m (x : ByteArray) : a1G (.string x) = .d (.str x.data.toList) := rfl
@[simp] theorem d4E : a1G (.slice none 0 0) = .nils := rfl
@[simp] theorem d3l : a1G (.pointer none) = .d .nilp := rfl
@[simp] theorem c9v : E0 t .undef = .undef := rfl
@[simp] theorem d6s : E0 t (.d d) = .d d := rfl
@[simp] theorem d2C : E0 t .nils = .nils := rfl
@[simp] theorem d2u : E0 t (.full l) = .full l := rfl
@[simp] theorem d2r : E0 t (.own m e l) = .own m e l := rfl
@[simp] theorem d1C : E0 t (.box d) = .box d := rfl
@[simp] theorem d3L : E0 t (.tup xs) = .tup xs := rfl
@[simp] theorem d1E : E0 t (.iter s i) = .iter s i := rfl
@[simp] theorem d2Q : E0 t (.bor j m e l) = if j = t then (if m then .undef else .d (.sl l)) else .bor j m e l := rfl
@[simp] theorem d3h : E0 t (.adr j p) = if j = t then .undef else .adr j p := rfl
@[simp] theorem d1z : E0 t (.eadr j i p) = if j = t then .undef else .eadr j i p := rfl
@[simp] theorem d5a : W1 σ (.d (.ref d)) = some d := rfl
@[simp] theorem d1X : W1 σ (.adr j p) = match Q6 (σ j) with
   | some b => D.get p b
   | none => none := rfl
@[simp] theorem c9j : W1 σ (.eadr j i p) = match K1 (σ j) with
   | some (_, l) => match l[i]? with
     | some y => D.get p y
     | none => none
   | none => none := rfl
@[simp] theorem d2J (A : Addr) : a1Z σ (.d (.raw (.pointer (some A)))) = some () := rfl
@[simp] theorem d2V : a1Z σ (.d (.ref d)) = some () := rfl
@[simp] theorem d2N : a1Z σ (.adr j p) = (W1 σ (.adr j p)).map fun _ => () := rfl
@[simp] theorem d1g : a1Z σ (.eadr j i p) = (W1 σ (.eadr j i p)).map fun _ => () := rfl
@[simp] theorem d0X : Q6 (.box d) = some d := rfl
@[simp] theorem d3f (u : Value) (e : TypeId) : Q6 (.hb u e d) = some d := rfl
@[simp] theorem d2a : K1 (.own true e l) = some (e, l) := rfl
@[simp] theorem d4y (u : Value) : K1 (.hs u e l) = some (e, l) := rfl
@[simp] theorem c8R (y : D) : a5o y (.box d) = .box y := rfl
@[simp] theorem d2m (y : D) (u : Value) (e : TypeId) : a5o y (.hb u e d) = .hb u e y := rfl
@[simp] theorem d0R (e' : TypeId) (l' : List D) : W4 e' l' (.own m e l) = .own true e' l' := rfl
@[simp] theorem d1v (e' : TypeId) (l' : List D) (u : Value) : W4 e' l' (.hs u e l) = .hs u e' l' := rfl
@[simp] theorem d6S (u : Value) (kt : TypeId) (mm : List (D × D)) (E : Option (List (D × Nat) × Nat)) : rd t (.hm u kt mm E) = .undef := rfl
@[simp] theorem d6t (u : Value) (E : List (D × Nat) × Nat) (ks : List D) : rd t (.mit u E ks) = .undef := rfl
@[simp] theorem d5L (u : Value) (kt : TypeId) (mm : List (D × D)) (E : Option (List (D × Nat) × Nat)) : E0 t (.hm u kt mm E) = .hm u kt mm E := rfl
@[simp] theorem d2I (u : Value) (E : List (D × Nat) × Nat) (ks : List D) : E0 t (.mit u E ks) = .mit u E ks := rfl
@[simp] theorem d4x : a1G (.map none) = .d (.raw (.map none)) := rfl
@[simp] theorem d6j : rd t (.sub j i) = .sub j i := rfl
@[simp] theorem d6P (u : Value) : rd t (.hs u e l) = .undef := rfl
@[simp] theorem d6X (u : Value) (e : TypeId) : rd t (.hb u e d) = .undef := rfl
@[simp] theorem d3Y : E0 t (.sub j i) = if j = t then .undef else .sub j i := rfl
@[simp] theorem d4Z (u : Value) : E0 t (.hs u e l) = .hs u e l := rfl
@[simp] theorem d4W (u : Value) (e : TypeId) : E0 t (.hb u e d) = .hb u e d := rfl
@[simp] theorem d4N (y : D) : a0c (.d d) (.d y) = (d = y) := by simp [a0c]
@[simp] theorem d1b (y : D) : a0c .nils (.d y) = (.sl [] = y) := by simp [a0c]
@[simp] theorem d4p (y : D) : a0c (.own m e l) (.d y) = (y = .sl l) := by cases m <;> simp [a0c, eq_comm]
@[simp] theorem d3M (y : D) : a0c (.bor j m e l) (.d y) = (y = .sl l) := by cases m <;> simp [a0c, eq_comm]
@[simp] theorem d2A (m' : Bool) (e' : TypeId) (l' : List D) : a0c (.own m e l) (.own m' e' l') = (m = m' ∧ e = e' ∧ l = l') := rfl
@[simp] theorem d2E (m' : Bool) (e' : TypeId) (l' : List D) : a0c (.bor j m e l) (.own m' e' l') = (m = m' ∧ e = e' ∧ l = l') := rfl
@[simp] theorem d3N (r : AV) : a8n t r .ret σ = a0c (σ t) r := by simp [a8n]
@[simp] theorem c8B (r : AV) : a8n t r .normal σ = a0c (σ t) r := by simp [a8n]
@[simp] theorem d4q (Post : AV → List AV → Prop) : b3j t Post .ret σ = ∃ (r : AV) (ks : List Nat), ks.Nodup ∧ (∀ k ∈ ks, isH (σ k) = true) ∧ a1u σ t r ∧ Post r (ks.map σ) := by simp [b3j]
@[simp] theorem c8n (Post : AV → List AV → Prop) : b3j t Post .normal σ = ∃ (r : AV) (ks : List Nat), ks.Nodup ∧ (∀ k ∈ ks, isH (σ k) = true) ∧ a1u σ t r ∧ Post r (ks.map σ) := by simp [b3j]
@[simp] theorem d1o (u : Nat) (r : AV) (y : D) : b4R t u r y .ret σ = (a0c (σ t) r ∧ asD (σ u) = some y) := by simp [b4R]
@[simp] theorem c6Z (u : Nat) (r : AV) (y : D) : b4R t u r y .normal σ = (a0c (σ t) r ∧ asD (σ u) = some y) := by simp [b4R]
end
@[simp] theorem d5x (σ : St) (d : Nat) (x : AV) (i : Nat) : B0 σ d x i = if i = d then x else σ i := rfl
@[simp] theorem d3T (ds : List Nat) (σ : St) (i : Nat) : I3 ds σ i = F3 ds (σ i) := rfl
section
variable (ds : List Nat) (d : D) (l : List D) (m : Bool) (e : TypeId) (j i t : Nat) (p : List Nat) (xs : List AV) (s : Str)
@[simp] theorem c8m : F3 ds .undef = .undef := rfl
@[simp] theorem d5C : F3 ds (.d d) = .d d := rfl
@[simp] theorem c9N : F3 ds .nils = .nils := rfl
@[simp] theorem c8M : F3 ds (.full l) = .full l := rfl
@[simp] theorem d1n : F3 ds (.own m e l) = .own m e l := rfl
@[simp] theorem d1U : F3 ds (.box d) = .box d := rfl
@[simp] theorem d2B : F3 ds (.tup xs) = .tup xs := rfl
@[simp] theorem c9g : F3 ds (.iter s i) = .iter s i := rfl
@[simp] theorem d1S : F3 ds (.bor j m e l) = if ds.contains j then (if m then .undef else .d (.sl l)) else .bor j m e l := rfl
@[simp] theorem d1t : F3 ds (.adr j p) = if ds.contains j then .undef else .adr j p := rfl
@[simp] theorem d1f : F3 ds (.sub j i) = if ds.contains j then .undef else .sub j i := rfl
@[simp] theorem d4H (u : Value) (kt : TypeId) (mm : List (D × D)) (E : Option (List (D × Nat) × Nat)) : F3 ds (.hm u kt mm E) = .hm u kt mm E := rfl
@[simp] theorem d1i (u : Value) (E : List (D × Nat) × Nat) (ks : List D) : F3 ds (.mit u E ks) = .mit u E ks := rfl
@[simp] theorem d3J (u : Value) : F3 ds (.hs u e l) = .hs u e l := rfl
@[simp] theorem d4I (u : Value) (e : TypeId) : F3 ds (.hb u e d) = .hb u e d := rfl
@[simp] theorem d4D : H8 ds (.sub j i) = !ds.contains j := rfl
@[simp] theorem c9l : F3 ds (.eadr j i p) = if ds.contains j then .undef else .eadr j i p := rfl
@[simp] theorem d0u : H8 ds .undef = true := rfl
@[simp] theorem d6b : H8 ds (.d d) = true := rfl
@[simp] theorem d2h : H8 ds .nils = true := rfl
@[simp] theorem d1d : H8 ds (.full l) = true := rfl
@[simp] theorem d4C : H8 ds (.own m e l) = true := rfl
@[simp] theorem d3z : H8 ds (.tup xs) = true := rfl
@[simp] theorem d4r : H8 ds (.bor j m e l) = !ds.contains j := rfl
@[simp] theorem d4m : H8 ds (.adr j p) = !ds.contains j := rfl
@[simp] theorem d1D : H8 ds (.eadr j i p) = !ds.contains j := rfl
@[simp] theorem c9E : M5 [] = [] := rfl
@[simp] theorem c8J (dst : Option Tmp) (op : Op) (ty : TypeId) (pos : String) (after : Array Edge) (g : Option (Nat × Bool)) (rest : List Oper) : M5 ({ dst, op, type := ty, pos, after, guard := g } :: rest) = dst.toList ++ M5 rest := by
 cases dst <;> simp [M5]
end
theorem E4 {P : Program} {g : FuncId} {args : List AV} {b : Bool} {C : AV → Prop} {r : AV} (h : Ctr P g args r) (hk : C (O8 b r)) : b4Q P g args b C := ⟨r, h, hk⟩
attribute [simp] b2F
attribute [simp] a4g X9 a3d T4 T3 a2f a0v Y8
attribute [simp] ety
attribute [simp] a4H b1Z X4 L3 c4O a6U B9 a7D
attribute [simp] a6x a4G a7p b2K
attribute [simp] a6v a4A a4w a1M a1S a6o a3s a3x a9y a4K D.get D.upd bnd O7 a4v a0r Y3 b2S N4 eat O8 A9 C9
 D.isAgg InR a4z b0I b2E left a5s
@[simp] theorem d1L {P : Program} {F : Nat → Bool} {c x y : Operand} {ty : TypeId} {d : Nat} {K : St → Prop} {σ : St} : M2 P F (.pick c x y) ty d K σ = (match A0 σ c with
   | .d (.bool b) => if b = true then K (put σ d (A0 σ x)) else K (put σ d (A0 σ y))
   | _ => False) := by
 simp only [M2]; cases A0 σ c with
 | d x => cases x with
   | bool b => cases b <;> simp
   | _ => rfl
 | _ => rfl
@[simp] theorem c8Y {P : Program} {F : Nat → Bool} {c x y : Operand} {d : Nat} {C : AV → Prop} {σ : St} : D3 P F (.pick c x y) d σ C = (match A0 σ c with
   | .d (.bool b) => if b = true then C (A0 σ x) else C (A0 σ y)
   | _ => False) := by
 simp only [D3]; cases A0 σ c with
 | d x => cases x with
   | bool b => cases b <;> simp
   | _ => rfl
 | _ => rfl
section
variable {P : Program} {F : Nat → Bool} {ty : TypeId} {d : Nat} {K : St → Prop} {C : AV → Prop} {σ : St}
@[simp] theorem d2f (x : Operand) : M2 P F (.move x) ty d K σ = (a4A P F x ty false d K σ) := rfl
@[simp] theorem c9b (x : Operand) : D3 P F (.move x) d σ C = (X9 false x σ C) := rfl
@[simp] theorem c8A (x : Operand) : M2 P F (.assign x) ty d K σ = (a4A P F x ty true d K σ) := rfl
@[simp] theorem c7t (x : Operand) : D3 P F (.assign x) d σ C = (X9 true x σ C) := rfl
@[simp] theorem c9W (t : Nat) : X6 P σ (.tmp t) = W1 σ (A0 σ (.tmp t)) := rfl
@[simp] theorem c6R (v : Value) : X6 P σ (.const v) = W1 σ (A0 σ (.const v)) := rfl
@[simp] theorem c6P (g : Nat) : X6 P σ (.global g) = a8J P g := rfl
@[simp] theorem d1J (t : TypeId) (x : Operand) : M2 P F (.load t x) ty d K σ = (A8 (X6 P σ x) fun y => tyk P t = some (y.isAgg, A9 y) ∧ (if F (d + 13000000) then c7y y σ d K else K (put σ d (.d y)))) := rfl
@[simp] theorem c9R (t : TypeId) (x : Operand) : D3 P F (.load t x) d σ C = (A8 (X6 P σ x) fun y => tyk P t = some (y.isAgg, A9 y) ∧ C (.d y)) := rfl
@[simp] theorem c6J (x : Operand) : M2 P F (.nilCheck x) ty d K σ = (A8 (a1Z σ (A0 σ x)) fun _ => K (put σ d (A0 σ x))) := rfl
@[simp] theorem c9q (e : TypeId) : M2 P F (.alloc e) ty d K σ = (if F (d + 1000000) then A8 (a2Y P true e) fun z => b3h P e z σ d K else A8 (D4 P e) fun z => K (put σ d (.box z))) := rfl
@[simp] theorem c6n (t : TypeId) (x y : Operand) : M2 P F (.makeSlice t x y) ty d K σ = (A8 (H1 P t) fun e => A8 (D4 P e) fun z => A8 (esz P e) fun s => A9 z = s.1 ∧ (match A0 σ x, A0 σ y with
   | .d (.int .i64 p), .d (.int .i64 q) => p = q ∧ 0 ≤ p ∧ p * s.2 ≤ 140737488355328 ∧ p ≤ 140737488355328 ∧ K (put σ d (.own (F d) e (replicate p.toNat z)))
   | _, _ => False)) := rfl
@[simp] theorem d3F (t : TypeId) (x : Operand) : M2 P F (.box t x) ty d K σ = (if F (d + 1000000) then A8 (asD (A0 σ x)) fun y => b8r t y σ d K else A8 (asD (A0 σ x)) fun y => K (put σ d (.box y))) := rfl
@[simp] theorem c9k (t : TypeId) (ps : Array (Nat × Operand)) : M2 P F (.build t ps) ty d K σ = (A8 (if F (d + 1000000) then a0U P true t else T7 P t) fun zs => A8 (O7 σ ps.toList) fun ys => a0r zs ys ∧ K (put σ d (.d (.agg (a4v zs ys))))) := rfl
@[simp] theorem c8E (t : TypeId) (ps : Array (Nat × Operand)) : D3 P F (.build t ps) d σ C = (A8 (if F (d + 1000000) then a0U P true t else T7 P t) fun zs => A8 (O7 σ ps.toList) fun ys => a0r zs ys ∧ C (.d (.agg (a4v zs ys)))) := rfl
@[simp] theorem c4X (t : TypeId) (len : Nat) (ps : Array (Nat × Operand)) : M2 P F (.buildSlice t len ps) ty d K σ = (A8 (H1 P t) fun e => A8 (esz P e) fun z => A8 (O7 σ ps.toList) fun ys => ys.map (·.1) = List.range len ∧ (∀ y ∈ ys.map (·.2), A9 y = z.1) ∧ len * z.1 ≤ 16777216 ∧ K (put σ d (.own (F d) e (ys.map (·.2))))) := rfl
@[simp] theorem c3g (t : TypeId) (len : Nat) (ps : Array (Nat × Operand)) : D3 P F (.buildSlice t len ps) d σ C = (A8 (H1 P t) fun e => A8 (esz P e) fun z => A8 (O7 σ ps.toList) fun ys => ys.map (·.1) = List.range len ∧ (∀ y ∈ ys.map (·.2), A9 y = z.1) ∧ len * z.1 ≤ 16777216 ∧ C (.own (F d) e (ys.map (·.2)))) := rfl
@[simp] theorem c5W (s : TypeId) (x : Operand) (f : Nat) : M2 P F (.fieldAddr s x f) ty d K σ = (a1S P s x f d K σ) := rfl
@[simp] theorem c4V (s : TypeId) (x : Operand) (f : Nat) : D3 P F (.fieldAddr s x f) d σ C = (T3 P s x f σ C) := rfl
@[simp] theorem c5V (t : TypeId) (x i : Operand) : M2 P F (.indexAddr t x i) ty d K σ = (a1M P t x i d K σ) := rfl
@[simp] theorem c6G (x : Operand) : D3 P F (.nilCheck x) d σ C = (A8 (a1Z σ (A0 σ x)) fun _ => C (A0 σ x)) := rfl
@[simp] theorem c5d (t : TypeId) (x i : Operand) : D3 P F (.indexAddr t x i) d σ C = (T4 P t x i σ C) := rfl
@[simp] theorem d0s (t : TypeId) (x i : Operand) : M2 P F (.index t x i) ty d K σ = ((match P.underlying t, A0 σ x, A0 σ i with | some .string, .d (.str s), .d (.int _ m) => 0 ≤ m ∧ A8 (s[m.toNat]?) fun c => K (put σ d (.d (.int .u8 c.toNat))) | _, _, _ => False)) := rfl
@[simp] theorem c8K (t : TypeId) (x i : Operand) : D3 P F (.index t x i) d σ C = ((match P.underlying t, A0 σ x, A0 σ i with | some .string, .d (.str s), .d (.int _ m) => 0 ≤ m ∧ A8 (s[m.toNat]?) fun c => C (.d (.int .u8 c.toNat)) | _, _, _ => False)) := rfl
@[simp] theorem c9f (t : TypeId) (x : Operand) (lo hi : Option Operand) : M2 P F (.slice t x lo hi none) ty d K σ = (a6o P t x lo hi d K σ) := rfl
@[simp] theorem c8i (t : TypeId) (x hi mx : Operand) : M2 P F (.slice t x none (some hi) (some mx)) ty d K σ = (a4H P t x hi mx d K σ) := rfl
@[simp] theorem c8y (t : TypeId) (x : Operand) (lo hi : Option Operand) : D3 P F (.slice t x lo hi none) d σ C = (a2f P t x lo hi σ C) := rfl
@[simp] theorem c9I (op : BinOp) (t : TypeId) (x y : Operand) (u : TypeId) : M2 P F (.binOp op t x y u) ty d K σ = (if b0E op y = true then b2e P op t (A0 σ x) d K σ else A8 (asD (A0 σ x)) fun dx => A8 (asD (A0 σ y)) fun dy => Y1 P t op dx dy fun r => K (put σ d (.d r))) := rfl
attribute [simp] b0E c2W b8l b5d b6m b2e
@[simp] theorem c8D (op : BinOp) (t : TypeId) (x y : Operand) (u : TypeId) : D3 P F (.binOp op t x y u) d σ C = (A8 (asD (A0 σ x)) fun dx => A8 (asD (A0 σ y)) fun dy => Y1 P t op dx dy fun r => C (.d r)) := rfl
@[simp] theorem d3u (t : TypeId) (x : Operand) : M2 P F (.unOp .not t x) ty d K σ = ((match A0 σ x with | .d (.bool b) => K (put σ d (.d (.bool !b))) | _ => False)) := rfl
@[simp] theorem d2o (t : TypeId) (x : Operand) : D3 P F (.unOp .not t x) d σ C = ((match A0 σ x with | .d (.bool b) => C (.d (.bool !b)) | _ => False)) := rfl
@[simp] theorem d2S (t : TypeId) (x : Operand) : M2 P F (.unOp .neg t x) ty d K σ = ((match A0 σ x with | .d (.int k m) => InR k (0 - m) ∧ K (put σ d (.d (.int k (0 - m)))) | _ => False)) := rfl
@[simp] theorem c7l (s t : TypeId) (x : Operand) : M2 P F (.convert s t x) ty d K σ = (a3s P F s t x d K σ) := rfl
@[simp] theorem c6O (s t : TypeId) (x : Operand) : D3 P F (.convert s t x) d σ C = (a0v P s t x σ C) := rfl
@[simp] theorem c9r (t : TypeId) (x : Operand) : M2 P F (.range t x) ty d K σ = (match A0 σ x with
   | .d (.str st) => P.underlying t = some .string ∧ K (put σ d (.iter st 0))
   | .d (.raw u) => b9W P t u σ d K
   | .d (.map u ks _ bs clk) => b5Z P t (K (put σ d (.mit u (ks.zip bs, clk) [])))
   | _ => False) := rfl
@[simp] theorem d0b (x : Operand) : M2 P F (.next x false) ty d K σ = a6x x d K σ := rfl
@[simp] theorem d0h (x : Operand) : M2 P F (.entry x) ty d K σ = a4G x d K σ := rfl
@[simp] theorem c7S (t : TypeId) : M2 P F (.makeMap t none) ty d K σ = b1B σ d K := rfl
def b8V (σ : St) (d : Nat) (K : St → Prop) (y : AV) : Prop := K (put σ d y)
@[simp] theorem d5o (y : AV) : b8V σ d K y = K (put σ d y) := rfl
@[simp] theorem c8j (t : TypeId) (x i : Operand) (c : Bool) : M2 P F (.lookup t x i c) ty d K σ = (match A0 σ x with
   | .d (.raw u) => A8 (asD (A0 σ i)) fun k => a7k P t u k c σ (b8V σ d K)
   | .d (.map _ ks vs _ _) => A8 (asD (A0 σ i)) fun k => a6G P t ks vs k c (b8V σ d K)
   | _ => False) := rfl
@[simp] theorem c7n (t : TypeId) (x i : Operand) (c : Bool) : D3 P F (.lookup t x i c) d σ C = (match A0 σ x with
   | .d (.raw u) => A8 (asD (A0 σ i)) fun k => a7k P t u k c σ C
   | .d (.map _ ks vs _ _) => A8 (asD (A0 σ i)) fun k => a6G P t ks vs k c C
   | _ => False) := rfl
@[simp] theorem d0D (s : TypeId) (x : Operand) (f : Nat) : M2 P F (.field s x f) ty d K σ = b3t P s f (A0 σ x) (b8V σ d K) := rfl
@[simp] theorem d2T (s f : Nat) (ds : List D) (C : AV → Prop) : b3t P s f (.d (.agg ds)) C = (A8 (ds[f]?) fun y => A8 (a6s P s f) fun q => tyk P q.1 = some (y.isAgg, A9 y) ∧ q.2 = C9 (ds.take f) ∧ C (.d y)) := rfl
@[simp] theorem d1k (x : Operand) : M2 P F (.next x true) ty d K σ = a9y x d K σ := rfl
@[simp] theorem c7d (x : Operand) (i : Nat) : M2 P F (.extract x i) ty d K σ = (a3x F x i d K σ) := rfl
@[simp] theorem c6N (x : Operand) (i : Nat) : D3 P F (.extract x i) d σ C = (Y8 x i σ C) := rfl
@[simp] theorem c6L (g : FuncId) (first : Array Operand) (caps : Array Operand) : M2 P F (.makeFunc (.func g) first caps) ty d K σ = (match first.toList with
   | [] => a4z (fun σ' ds => K (put σ' d (.d (.clo g ds)))) caps.toList σ []
   | x :: xs => caps.toList = [] ∧ b0I (fun ds => K (put σ d (.d (.bnd g ds)))) σ (x :: xs) []) := rfl
@[simp] theorem d1A (c : Call) : M2 P F (.call c) ty d K σ = (a4w P F c d K σ) := rfl
@[simp] theorem d0r (c : Call) : D3 P F (.call c) d σ C = (a3d P F c d σ C) := rfl
end
section
variable {P : Program} {F : Nat → Bool} {ty : TypeId} {d : Nat} {K : St → Prop} {C : AV → Prop} {σ σ' : St} {Q : Exit → St → Prop}
@[congr] theorem d5H {α : Type} {x x' : Option α} {f : α → Prop} (h : mkd (x) = x') : A8 x f = A8 x' f := by rw [B5] at h; subst h; rfl
@[congr] theorem d6Q {c : Code} (h : mkd (σ) = σ') : vwp P F c Q σ = vwp P F c Q σ' := by rw [B5] at h; subst h; rfl
@[congr] theorem d6f {b b' : Bool} {ops : Array Oper} {l : List Oper} {ds : List Nat} (hb : mkd b = b') : b2O b P F ops l ds K σ = b2O b' P F ops l ds K σ := by rw [B5] at hb; subst hb; rfl
@[congr] theorem d6D {b b' c : Bool} {ops : Array Oper} {l : List Oper} {ds : List Nat} (hb : mkd b = b') : b1o b c P F ops l ds K σ = b1o b' c P F ops l ds K σ := by rw [B5] at hb; subst hb; rfl
@[congr] theorem d5Y {b9 b9' bT bT' b b' : Bool} {l : List Oper} {ds : List Nat} (hb : mkd b9 = b9') (hT : mkd bT = bT') : a6f b9 bT b b' P F l ds K σ = a6f b9' bT' b b' P F l ds K σ := by rw [B5] at hb hT; subst hb hT; rfl
@[congr] theorem d2M {ops : Array Oper} {l l' r r' : List Oper} {ds ds' : List Nat} (hl : mkd l = l') (hr : mkd r = r') (hd : mkd ds = ds') (h : mkd σ = σ') : a7V P F ops l r ds K σ = a7V P F ops l' r' ds' K σ' := by rw [B5] at hl hr hd h; subst hl hr hd h; rfl
@[congr] theorem d4h {l : List Oper} {ds ds' : List Nat} (hd : mkd ds = ds') (h : mkd σ = σ') : a9e P F l ds K σ = a9e P F l ds' K σ' := by rw [B5] at hd h; subst hd h; rfl
@[congr] theorem d6i {ds : List Nat} {l : List Oper} (h : mkd (σ) = σ') : F2 P F ds l K σ = F2 P F ds l K σ' := by rw [B5] at h; subst h; rfl
@[congr] theorem d5y {ops : Array Oper} {l : List Oper} {ds ds' : List Nat} (hd : mkd ds = ds') (h : mkd σ = σ') : a9N P F ops l ds K σ = a9N P F ops l ds' K σ' := by rw [B5] at hd h; subst hd h; rfl
@[congr] theorem d6C {ops : Array Oper} {l : List Oper} (h : mkd (σ) = σ') : J5 P F ops l K σ = J5 P F ops l K σ' := by rw [B5] at h; subst h; rfl
@[congr] theorem d5A {ops : Array Oper} {ds : List Nat} {l : List Oper} (h : mkd (σ) = σ') : P3 P F ops ds l K σ = P3 P F ops ds l K σ' := by rw [B5] at h; subst h; rfl
@[congr] theorem d6R {o : Oper} (h : mkd (σ) = σ') : vop P F o K σ = vop P F o K σ' := by rw [B5] at h; subst h; rfl
@[congr] theorem d5V {o : Op} (h : mkd (σ) = σ') : M2 P F o ty d K σ = M2 P F o ty d K σ' := by rw [B5] at h; subst h; rfl
@[congr] theorem d5h {o : Op} (h : mkd (σ) = σ') : D3 P F o d σ C = D3 P F o d σ' C := by rw [B5] at h; subst h; rfl
@[congr] theorem d5f {x : Operand} {b : Bool} (h : mkd (σ) = σ') : a4A P F x ty b d K σ = a4A P F x ty b d K σ' := by rw [B5] at h; subst h; rfl
@[congr] theorem d5u {x : Operand} {b : Bool} (h : mkd (σ) = σ') : X9 b x σ C = X9 b x σ' C := by rw [B5] at h; subst h; rfl
@[congr] theorem d5b {c : Call} (h : mkd (σ) = σ') : a4w P F c d K σ = a4w P F c d K σ' := by rw [B5] at h; subst h; rfl
@[congr] theorem d4S {c : Call} (h : mkd (σ) = σ') : a3d P F c d σ C = a3d P F c d σ' C := by rw [B5] at h; subst h; rfl
@[congr] theorem c7X {t : TypeId} {x i : Operand} (h : mkd (σ) = σ') : a1M P t x i d K σ = a1M P t x i d K σ' := by rw [B5] at h; subst h; rfl
@[congr] theorem c7A {t : TypeId} {x i : Operand} (h : mkd (σ) = σ') : T4 P t x i σ C = T4 P t x i σ' C := by rw [B5] at h; subst h; rfl
@[congr] theorem c7f {t : TypeId} {x : Operand} {i : Nat} (h : mkd (σ) = σ') : a1S P t x i d K σ = a1S P t x i d K σ' := by rw [B5] at h; subst h; rfl
@[congr] theorem c6U {t : TypeId} {x : Operand} {i : Nat} (h : mkd (σ) = σ') : T3 P t x i σ C = T3 P t x i σ' C := by rw [B5] at h; subst h; rfl
@[congr] theorem d4t {t : TypeId} {x : Operand} {lo hi : Option Operand} (h : mkd (σ) = σ') : a6o P t x lo hi d K σ = a6o P t x lo hi d K σ' := by rw [B5] at h; subst h; rfl
@[congr] theorem d3G {t : TypeId} {x : Operand} {lo hi : Option Operand} (h : mkd (σ) = σ') : a2f P t x lo hi σ C = a2f P t x lo hi σ' C := by rw [B5] at h; subst h; rfl
@[congr] theorem c9X {s t : TypeId} {x : Operand} (h : mkd (σ) = σ') : a3s P F s t x d K σ = a3s P F s t x d K σ' := by rw [B5] at h; subst h; rfl
@[congr] theorem c9n {s t : TypeId} {x : Operand} (h : mkd (σ) = σ') : a0v P s t x σ C = a0v P s t x σ' C := by rw [B5] at h; subst h; rfl
@[congr] theorem d5k {op : BinOp} {t : TypeId} {x x' : AV} (hx : mkd (x) = x') (h : mkd (σ) = σ') : b2e P op t x d K σ = b2e P op t x' d K σ' := by rw [B5] at hx; subst hx; rw [B5] at h; subst h; rfl
@[congr] theorem d4l {x : Operand} (h : mkd (σ) = σ') : a6x x d K σ = a6x x d K σ' := by rw [B5] at h; subst h; rfl
@[congr] theorem d2w {x : Operand} (h : mkd (σ) = σ') : a4G x d K σ = a4G x d K σ' := by rw [B5] at h; subst h; rfl
@[congr] theorem d6z {t : TypeId} {x i y : Operand} (h : mkd (σ) = σ') : a7p P t x i y K σ = a7p P t x i y K σ' := by rw [B5] at h; subst h; rfl
@[congr] theorem d4T {t : TypeId} {u u' : Value} {k k' : D} {c : Bool} (hu : mkd u = u') (hk : mkd k = k') (h : mkd (σ) = σ') : a7k P t u k c σ C = a7k P t u' k' c σ' C := by rw [B5] at hu hk h; subst hu hk h; rfl
@[congr] theorem d5I {t : TypeId} {ks ks' vs vs' : List D} {k k' : D} {c : Bool} (h1 : mkd ks = ks') (h2 : mkd vs = vs') (hk : mkd k = k') : a6G P t ks vs k c C = a6G P t ks' vs' k' c C := by rw [B5] at h1 h2 hk; subst h1 h2 hk; rfl
@[congr] theorem d6A {t : TypeId} {u u' : Value} (hu : mkd u = u') (h : mkd (σ) = σ') : b6e P t u σ C = b6e P t u' σ' C := by rw [B5] at hu h; subst hu h; rfl
@[congr] theorem d5J (h : mkd (σ) = σ') : b1B σ d K = b1B σ' d K := by rw [B5] at h; subst h; rfl
@[congr] theorem d6M {t : TypeId} {u u' : Value} {k k' z z' : D} (hu : mkd u = u') (hk : mkd k = k') (hz : mkd z = z') (h : mkd (σ) = σ') : b9O P t u k z σ K = b9O P t u' k' z' σ' K := by rw [B5] at hu hk hz h; subst hu hk hz h; rfl
@[congr] theorem d5W {t : TypeId} {u u' : Value} {z z' : D} (hu : mkd u = u') (hz : mkd z = z') (h : mkd (σ) = σ') : b9r P t u z σ K = b9r P t u' z' σ' K := by rw [B5] at hu hz h; subst hu hz h; rfl
@[congr] theorem d6I {t : TypeId} {u u' : Value} {k k' : D} (hu : mkd u = u') (hk : mkd k = k') (h : mkd (σ) = σ') : b8D P t u k σ K = b8D P t u' k' σ' K := by rw [B5] at hu hk h; subst hu hk h; rfl
@[congr] theorem d6h {t : TypeId} {u u' : Value} (hu : mkd u = u') (h : mkd (σ) = σ') : b9W P t u σ d K = b9W P t u' σ' d K := by rw [B5] at hu h; subst hu h; rfl
@[congr] theorem d6e {t : Nat} {u u' : Value} {E E' : List (D × Nat) × Nat} {s s' : List D} (hu : mkd u = u') (hE : mkd E = E') (hs : mkd s = s') (h : mkd (σ) = σ') : b9t t u E s σ d K = b9t t u' E' s' σ' d K := by rw [B5] at hu hE hs h; subst hu hE hs h; rfl
@[congr] theorem d6w {u u' : Value} {E E' : List (D × Nat) × Nat} {s s' : List D} (hu : mkd u = u') (hE : mkd E = E') (hs : mkd s = s') (h : mkd (σ) = σ') : b9d u E s σ d K = b9d u' E' s' σ' d K := by rw [B5] at hu hE hs h; subst hu hE hs h; rfl
@[congr] theorem d6x {s f : Nat} {x x' : AV} {C : AV → Prop} (h : mkd x = x') : b3t P s f x C = b3t P s f x' C := by rw [B5] at h; subst h; rfl
@[congr] theorem d6J {g : FuncId} {xs xs' : List AV} {o : Option Nat} (h : mkd (xs) = xs') (hs : mkd (σ) = σ') : b6w P g xs σ o K = b6w P g xs' σ' o K := by rw [B5] at h; subst h; rw [B5] at hs; subst hs; rfl
@[congr] theorem d4Q {x : Operand} (h : mkd (σ) = σ') : a9y x d K σ = a9y x d K σ' := by rw [B5] at h; subst h; rfl
@[congr] theorem c8Z {x : Operand} {i : Nat} (h : mkd (σ) = σ') : a3x F x i d K σ = a3x F x i d K σ' := by rw [B5] at h; subst h; rfl
@[congr] theorem d0j {x : Operand} {i : Nat} (h : mkd (σ) = σ') : Y8 x i σ C = Y8 x i σ' C := by rw [B5] at h; subst h; rfl
@[congr] theorem d3B {t : TypeId} {x y : Operand} (h : mkd (σ) = σ') : a4K P F t x y K σ = a4K P F t x y K σ' := by rw [B5] at h; subst h; rfl
@[congr] theorem d6K {t : TypeId} {op : BinOp} {x x' y y' : D} {C : D → Prop} (hx : mkd (x) = x') (hy : mkd (y) = y') : Y1 P t op x y C = Y1 P t op x' y' C := by rw [B5] at hx; subst hx; rw [B5] at hy; subst hy; rfl
@[congr] theorem d6o {u u' : Option TypeDesc} {op : BinOp} {x x' y y' : D} {C : D → Prop} (hu : mkd (u) = u') (hx : mkd (x) = x') (hy : mkd (y) = y') : G3 u op x y C = G3 u' op x' y' C := by rw [B5] at hu; subst hu; rw [B5] at hx; subst hx; rw [B5] at hy; subst hy; rfl
@[congr] theorem d5i {g : FuncId} {xs xs' : List AV} (h : mkd (xs) = xs') (hs : mkd (σ) = σ') : b4O P g xs σ d K = b4O P g xs' σ' d K := by rw [B5] at h; subst h; rw [B5] at hs; subst hs; rfl
@[congr] theorem d5l {g : FuncId} {xs xs' : List AV} (h : mkd (xs) = xs') : b8C P g xs C = b8C P g xs' C := by rw [B5] at h; subst h; rfl
@[congr] theorem d6T {g : FuncId} {x x' : AV} {xs xs' : List AV} (hx : mkd (x) = x') (h : mkd (xs) = xs') (hs : mkd (σ) = σ') : InK P g x xs σ d K = InK P g x' xs' σ' d K := by rw [B5] at hx; subst hx; rw [B5] at h; subst h; rw [B5] at hs; subst hs; rfl
@[congr] theorem d4R {g : FuncId} {x x' : AV} {xs xs' : List AV} (hx : mkd (x) = x') (h : mkd (xs) = xs') (hs : mkd (σ) = σ') : b2i P g x xs σ d K = b2i P g x' xs' σ' d K := by rw [B5] at hx; subst hx; rw [B5] at h; subst h; rw [B5] at hs; subst hs; rfl
@[congr] theorem d6L {g : FuncId} {xs xs' : List AV} (h : mkd (xs) = xs') (hs : mkd (σ) = σ') : a2T P g xs σ d K = a2T P g xs' σ' d K := by rw [B5] at h; subst h; rw [B5] at hs; subst hs; rfl
@[congr] theorem d5U {e : TypeId} {z : Nat × Nat} {l l' : List D} {u u' : Value} (h : mkd (l) = l') (hu : mkd (u) = u') (hs : mkd (σ) = σ') : b5p e z l u σ d K = b5p e z l' u' σ' d K := by rw [B5] at h; subst h; rw [B5] at hu; subst hu; rw [B5] at hs; subst hs; rfl
@[congr] theorem d5N {e : TypeId} {st st' : Str} {u u' : Value} (h : mkd (st) = st') (hu : mkd (u) = u') (hs : mkd (σ) = σ') : b4W e st u σ d K = b4W e st' u' σ' d K := by rw [B5] at h; subst h; rw [B5] at hu; subst hu; rw [B5] at hs; subst hs; rfl
@[congr] theorem d6r {e : TypeId} {z z' : D} (h : mkd (z) = z') (hs : mkd (σ) = σ') : b8r e z σ d K = b8r e z' σ' d K := by rw [B5] at h; subst h; rw [B5] at hs; subst hs; rfl
@[congr] theorem d6q {e : TypeId} {z z' : D} (h : mkd (z) = z') (hs : mkd (σ) = σ') : b3h P e z σ d K = b3h P e z' σ' d K := by rw [B5] at h; subst h; rw [B5] at hs; subst hs; rfl
@[congr] theorem d6k {t : TypeId} {ds ds' : List D} {m m' : Int} {N : Nat → Prop} (h : mkd (ds) = ds') (hm : mkd (m) = m') : b9C P t ds m N = b9C P t ds' m' N := by rw [B5] at h; subst h; rw [B5] at hm; subst hm; rfl
@[congr] theorem d5n {e : TypeId} {m m' : Nat} {u u' : Value} (h : mkd (m) = m') (hu : mkd (u) = u') (hs : mkd (σ) = σ') : b4S e m u σ C = b4S e m' u' σ' C := by rw [B5] at h; subst h; rw [B5] at hu; subst hu; rw [B5] at hs; subst hs; rfl
@[congr] theorem d5z {s f : Nat} {u u' : Value} (hu : mkd (u) = u') (hs : mkd (σ) = σ') : b2x P s f u σ C = b2x P s f u' σ' C := by rw [B5] at hu; subst hu; rw [B5] at hs; subst hs; rfl
@[congr] theorem d6l {t : Nat} {e : TypeId} {l l' : List D} (h : mkd (l) = l') (hs : mkd (σ) = σ') : c3L t e l σ d K = c3L t e l' σ' d K := by rw [B5] at h; subst h; rw [B5] at hs; subst hs; rfl
@[congr] theorem d6V {t : Nat} (hs : mkd (σ) = σ') : UnK t σ d K = UnK t σ' d K := by rw [B5] at hs; subst hs; rfl
@[congr] theorem d2Z {e : TypeId} {i i' : Nat} {u u' : Value} (h : mkd (i) = i') (hu : mkd (u) = u') (hs : mkd (σ) = σ') : b5O e i u σ d K = b5O e i' u' σ' d K := by rw [B5] at h; subst h; rw [B5] at hu; subst hu; rw [B5] at hs; subst hs; rfl
@[congr] theorem d3V {c : Call} (h : mkd (σ) = σ') : a6v P c K σ = a6v P c K σ' := by rw [B5] at h; subst h; rfl
@[congr] theorem d1h {t : TypeId} {x hi mx : Operand} (h : mkd (σ) = σ') : a4H P t x hi mx d K σ = a4H P t x hi mx d K σ' := by rw [B5] at h; subst h; rfl
@[congr] theorem d4O {g : FuncId} {xs xs' : List AV} {b : Bool} (h : mkd (xs) = xs') (hs : mkd (σ) = σ') : a9z P g xs σ d b K = a9z P g xs' σ' d b K := by rw [B5] at h; subst h; rw [B5] at hs; subst hs; rfl
@[congr] theorem d4L {g : FuncId} {xs xs' : List AV} {b : Bool} (h : mkd (xs) = xs') : b4Q P g xs b C = b4Q P g xs' b C := by rw [B5] at h; subst h; rfl
@[congr] theorem d5B {body : (Exit → St → Prop) → St → Prop} (hs : mkd (σ) = σ') : a3L body Q σ = a3L body Q σ' := by rw [B5] at hs; subst hs; rfl
end
section
variable {α : Type} (y : α) (f : α → Prop)
@[simp ↓] theorem c8l : A8 (some y) f = f y := rfl
@[simp ↓] theorem c8r : A8 (none : Option α) f = False := rfl
end
section
variable {u : Option TypeDesc} {k : IntKind} {p q : Int} {s t : Str} {b c : Bool} {C : D → Prop}
@[simp] theorem d3S (P : Program) (t : TypeId) (op : BinOp) (y : D) : Y1 P t op (.int k p) y C = G3 (P.underlying t) op (.int k p) y C := rfl
@[simp] theorem d2L (P : Program) (t : TypeId) (op : BinOp) (y : D) (s : Str) : Y1 P t op (.str s) y C = G3 (P.underlying t) op (.str s) y C := rfl
@[simp] theorem d1N (P : Program) (t : TypeId) (op : BinOp) (y : D) (b : Bool) : Y1 P t op (.bool b) y C = G3 (P.underlying t) op (.bool b) y C := rfl
@[simp] theorem d0W (P : Program) (t : TypeId) (op : BinOp) (y : D) : Y1 P t op .nilp y C = G3 (P.underlying t) op .nilp y C := rfl
@[simp] theorem d3b (P : Program) (t : TypeId) (op : BinOp) (y : D) (v : Value) : Y1 P t op (.raw v) y C = G3 (P.underlying t) op (.raw v) y C := rfl
@[simp] theorem d3n (P : Program) (t : TypeId) (op : BinOp) (y : D) (w : Value) (ks vs : List D) (bs : List Nat) (clk : Nat) : Y1 P t op (.map w ks vs bs clk) y C = G3 (P.underlying t) op (.map w ks vs bs clk) y C := rfl
@[simp] theorem d3A (P : Program) (t : TypeId) (op : BinOp) (y x : D) : Y1 P t op (.ref x) y C = G3 (P.underlying t) op (.ref x) y C := rfl
@[simp] theorem d4g (P : Program) (t : TypeId) (xs ys : List D) : Y1 P t .eql (.agg xs) (.agg ys) C = (a1T P t = true ∧ Q2 P (P.fieldsOf t).toList 0 xs ys = true ∧ C (.bool (P9 xs ys))) := rfl
@[simp] theorem d4d (P : Program) (t : TypeId) (xs ys : List D) : Y1 P t .neq (.agg xs) (.agg ys) C = (a1T P t = true ∧ Q2 P (P.fieldsOf t).toList 0 xs ys = true ∧ C (.bool (!P9 xs ys))) := rfl
@[simp ↓] theorem d3c : G3 u .add (.int k p) (.int k q) C = (InR k (p + q) ∧ C (.int k (p + q))) := by simp [G3]
@[simp ↓] theorem d3Z : G3 u .sub (.int k p) (.int k q) C = (InR k (p - q) ∧ C (.int k (p - q))) := by simp [G3]
@[simp ↓] theorem d4e : G3 u .mul (.int k p) (.int k q) C = (InR k (p * q) ∧ C (.int k (p * q))) := by simp [G3]
@[simp ↓] theorem d3y : G3 u .eql (.int k p) (.int k q) C = C (.bool (decide (p = q))) := by simp [G3]
@[simp ↓] theorem d4w : G3 u .neq (.int k p) (.int k q) C = C (.bool (!decide (p = q))) := by simp [G3]
@[simp ↓] theorem d3Q : G3 u .lss (.int k p) (.int k q) C = C (.bool (decide (p < q))) := by simp [G3]
@[simp ↓] theorem d3R : G3 u .leq (.int k p) (.int k q) C = C (.bool (decide (p ≤ q))) := by simp [G3]
@[simp ↓] theorem d4u : G3 u .gtr (.int k p) (.int k q) C = C (.bool (decide (q < p))) := by simp [G3]
@[simp ↓] theorem d3E : G3 u .geq (.int k p) (.int k q) C = C (.bool (decide (q ≤ p))) := by simp [G3]
@[simp ↓] theorem d4s : G3 u .quo (.int k p) (.int k q) C = (0 ≤ p ∧ 0 < q ∧ InR k (p / q) ∧ C (.int k (p / q))) := by simp [G3]
@[simp ↓] theorem d4A : G3 u .rem (.int k p) (.int k q) C = (0 < q ∧ C (.int k (Int.tmod p q))) := by simp [G3]
@[simp] theorem d2W (n : Nat) (q : Int) : Int.tmod (n : Int) q = (n : Int) % q := Int.tmod_eq_emod_of_nonneg (Int.natCast_nonneg n)
@[simp ↓] theorem d2P (k' : IntKind) : G3 u .shr (.int k p) (.int k' q) C = (0 ≤ q ∧ q.toNat ≤ k.bits ∧ 0 ≤ p ∧ C (.int k (p / 2 ^ q.toNat))) := by simp [G3]
@[simp ↓] theorem d2R (k' : IntKind) : G3 u .shl (.int k p) (.int k' q) C = (0 ≤ q ∧ q.toNat ≤ k.bits ∧ InR k (p * 2 ^ q.toNat) ∧ C (.int k (p * 2 ^ q.toNat))) := by simp [G3]
@[simp ↓] theorem d2O : G3 u .and (.int k p) (.int k q) C = (0 ≤ p ∧ 0 ≤ q ∧ InR k p ∧ InR k q ∧ C (.int k ((p.toNat &&& q.toNat : Nat) : Int))) := by simp [G3]
@[simp ↓] theorem d5m : G3 u .or (.int k p) (.int k q) C = (0 ≤ p ∧ 0 ≤ q ∧ InR k p ∧ InR k q ∧ C (.int k ((p.toNat ||| q.toNat : Nat) : Int))) := by simp [G3]
@[simp ↓] theorem c8s : G3 u .eql .nilp .nilp C = (a1h u = true ∧ C (.bool true)) := rfl
@[simp ↓] theorem c8h : G3 u .neq .nilp .nilp C = (a1h u = true ∧ C (.bool false)) := rfl
@[simp ↓] theorem c8G (A : Addr) : G3 u .eql (.raw (.pointer (some A))) .nilp C = (a1h u = true ∧ C (.bool false)) := rfl
@[simp ↓] theorem c8I (A : Addr) : G3 u .neq (.raw (.pointer (some A))) .nilp C = (a1h u = true ∧ C (.bool true)) := rfl
@[simp ↓] theorem c8k (x : D) : G3 u .eql (.ref x) .nilp C = (a1h u = true ∧ C (.bool false)) := rfl
@[simp ↓] theorem c8F (x : D) : G3 u .neq (.ref x) .nilp C = (a1h u = true ∧ C (.bool true)) := rfl
@[simp ↓] theorem c8t (x : Option Nat) : G3 u .eql (.raw (.map x)) (.raw (.map none)) C = (a2Z u = true ∧ C (.bool x.isNone)) := rfl
@[simp ↓] theorem c8q (x : Option Nat) : G3 u .neq (.raw (.map x)) (.raw (.map none)) C = (a2Z u = true ∧ C (.bool (!x.isNone))) := rfl
@[simp ↓] theorem c6Q (w : Value) (ks vs : List D) (bs : List Nat) (clk : Nat) : G3 u .eql (.map w ks vs bs clk) (.raw (.map none)) C = (a2Z u = true ∧ C (.bool false)) := rfl
@[simp ↓] theorem c7j (w : Value) (ks vs : List D) (bs : List Nat) (clk : Nat) : G3 u .neq (.map w ks vs bs clk) (.raw (.map none)) C = (a2Z u = true ∧ C (.bool true)) := rfl
@[simp] theorem d0v (k e : TypeId) : a2Z (some (.map k e)) = true := rfl
@[simp] theorem c8V (e : TypeId) : a1h (some (.pointer e)) = true := rfl
attribute [simp] IntKind.bits b5Z
@[simp ↓] theorem d1H : G3 u .add (.str s) (.str t) C = (s.length + t.length ≤ 9223372036854775807 ∧ C (.str (s ++ t))) := rfl
@[simp ↓] theorem d1u : G3 u .eql (.str s) (.str t) C = C (.bool (decide (s = t))) := rfl
@[simp ↓] theorem d2k : G3 u .neq (.str s) (.str t) C = C (.bool (!decide (s = t))) := rfl
@[simp ↓] theorem d2F : G3 u .lss (.str s) (.str t) C = C (.bool (Op.bytesLess s t)) := rfl
@[simp ↓] theorem d1G : G3 u .leq (.str s) (.str t) C = C (.bool (Op.bytesLess s t || decide (s = t))) := rfl
@[simp ↓] theorem d2n : G3 u .gtr (.str s) (.str t) C = C (.bool (!(Op.bytesLess s t || decide (s = t)))) := rfl
@[simp ↓] theorem d2g : G3 u .geq (.str s) (.str t) C = C (.bool (!Op.bytesLess s t)) := rfl
@[simp] theorem d1W : G3 u .eql (.bool b) (.bool c) C = (u = some .bool ∧ C (.bool (b == c))) := rfl
@[simp] theorem d1V : G3 u .neq (.bool b) (.bool c) C = (u = some .bool ∧ C (.bool (!(b == c)))) := rfl
end
section
variable (e : TypeId) (l : List D) (j i : Nat) (p : List Nat) (xs : List AV) (s : Str) (d : D)
@[simp] theorem d2q : asD .undef = none := rfl
@[simp] theorem d4U : asD (.box d) = none := rfl
@[simp] theorem d5O : asD (.adr j p) = none := rfl
@[simp] theorem d3o : asD (.eadr j i p) = none := rfl
@[simp] theorem d5E : asD (.tup xs) = none := rfl
@[simp] theorem d3p : asD (.iter s i) = none := rfl
@[simp] theorem d5t : asD (.sub j i) = none := rfl
@[simp] theorem d5K (u : Value) (E : List (D × Nat) × Nat) (ks : List D) : asD (.mit u E ks) = none := rfl
@[simp] theorem d4j (z x : D) : a0y true z (some x) = .tup [.d x, .d (.bool true)] := rfl
@[simp] theorem d4v (z : D) : a0y true z none = .tup [.d z, .d (.bool false)] := rfl
@[simp] theorem d3q (z x : D) : a0y false z (some x) = .d x := rfl
@[simp] theorem d2X (z : D) : a0y false z none = .d z := rfl
end
section
variable {P : Program} {t kt vt : TypeId} {u : Value} {k z : D} {c : Bool} {σ : St} {d : Nat} {K : St → Prop} {C : AV → Prop} {m : List (D × D)} {E : Option (List (D × Nat) × Nat)}
theorem a1t (j : Nat) (hj : 1000000 ≤ j) (ht : P.underlying t = some (.map kt vt)) (hm : σ j = .hm u kt m E) (hk : D8 P kt k = true) (hz : D4 P vt = some z) {r : Option D} (hr : M8 m k = r) (h : C (a0y c z r)) : a7k P t u k c σ C :=
 .inl ⟨j, kt, vt, z, m, E, hj, ht, hm, hk, hz, by rw [hr]; exact h⟩
theorem c4E (j : Nat) (hj : 1000000 ≤ j) (ht : P.underlying t = some (.map kt vt)) (hm : σ j = .hm u kt m E) (h : C (.d (.int .i64 (m.length : Nat)))) : b6e P t u σ C := ⟨j, kt, vt, kt, m, E, hj, ht, hm, h⟩
theorem a9R (kt : TypeId) (j : Nat) (hj : σ j = .undef) (h : ∀ g, K (put (put σ j (.hm (.map (some g)) kt [] none)) d (.d (.raw (.map (some g)))))) : b1B σ d K := ⟨kt, j, hj, h⟩
theorem d3r {t : TypeId} {v : Value} {u : D} (j : Nat) {e : TypeId} {b : D} (hj : σ j = .hb v e b) (hw : A9 u = A9 b) (ht : D2 P t = some (A9 u)) (h : K (put σ j (.hb v e u))) : b9r P t v u σ K := ⟨j, e, b, hj, hw, ht, h⟩
theorem a6a (j : Nat) (ht : P.underlying t = some (.map kt vt)) (hm : σ j = .hm u kt m E) (hk : D8 P kt k = true) (m2 : List (D × D)) (hp : Perm m2 (S5 m k z)) (h : K (put σ j (.hm u kt m2 none))) : b9O P t u k z σ K :=
 ⟨j, kt, vt, m, m2, E, ht, hm, hk, hp, h⟩
theorem a0f {ks vs : List D} (ht : P.underlying t = some (.map kt vt)) (hk : D8 P kt k = true) (hf : ∀ k ∈ ks, D8 P kt k = true) (hz : D4 P vt = some z) {r : Option D} (hr : M8 (ks.zip vs) k = r) (h : C (a0y c z r)) : a6G P t ks vs k c C :=
 ⟨kt, vt, z, ht, hk, hf, hz, by rw [hr]; exact h⟩
theorem c4b {i : Nat} {ks vs : List D} {bs : List Nat} {clk : Nat} {seen : List D} (j : Nat) (hm : σ j = .d (.map u ks vs bs clk)) (hf : ∀ k ∈ ks, G8 k k = true) (h1 : ∀ k v, (k, v) ∈ ks.zip vs → k ∉ seen → K (put (put σ i (.mit u (ks.zip bs, clk) (seen ++ [k]))) d (.tup [.d (.bool true), .d k, .d v])))
   (h0 : (∀ p ∈ ks.zip vs, p.1 ∈ seen) → K (put σ d (.tup [.d (.bool false)]))) : b9t i u (ks.zip bs, clk) seen σ d K := .inr ⟨j, ks, vs, bs, clk, hm, rfl, hf, h1, h0⟩
theorem c3W {ks vs : List D} {bs : List Nat} {clk : Nat} {s2 : List D} {v : D} (j : Nat) (hm : σ j = .d (.map u ks vs bs clk)) (hf : ∀ k ∈ ks, G8 k k = true) (hv : (k, v) ∈ ks.zip vs) (h : K (put σ d (.tup [.d k, .d v]))) : b9d u (ks.zip bs, clk) (s2 ++ [k]) σ d K := .inr ⟨j, ks, vs, bs, clk, s2, k, v, hm, rfl, hf, rfl, hv, h⟩
end
theorem A3 {P : Program} {g : FuncId} {args : List AV} {σ : St} {d : Nat} {b : Bool} {K : St → Prop} {r : AV} (h : Ctr P g args r) (hk : K (put σ d (O8 b r))) : a9z P g args σ d b K := ⟨r, h, hk⟩
theorem b2s {body : (Exit → St → Prop) → St → Prop} {Q : Exit → St → Prop} {σ : St} (I : Nat → St → Prop) (k : Nat) (h0 : I k σ) (hr : ∀ m τ, I m τ → body (a2q (fun τ' => ∃ m', m' < m ∧ I m' τ') Q) τ) : a3L body Q σ := ⟨I, k, h0, hr⟩
end Go.Vw
namespace Go.Vw
open Go.RowKit Go.Proofs Go.Sort
variable {P : Program} {w w' : World} {L L' : Nat → Nat → Prop}
theorem b7h {F cur : Array Value} (h : F.size ≤ cur.size) : (putCells id 0 F cur).toList = F.toList ++ cur.toList.drop F.size := by
 apply ext_getElem
 · simp [putCells]; omega
 · intro i h1 h2; simp only [putCells, Array.length_toList, Array.size_mapIdx] at h1; simp only [putCells, Array.getElem_toList, Array.getElem_mapIdx, Nat.zero_le, true_and, Nat.zero_add, Nat.sub_zero, id]; by_cases hi : i < F.size
   · rw [if_pos hi, getElem_append_left (by simpa using hi)]; simp [hi]
   · rw [if_neg hi, getElem_append_right (by simp; omega)]; simp only [Array.length_toList, getElem_drop, Array.getElem_toList]; congr 1; omega
theorem a7f {α : Type} [Inhabited α] (enc : α → Value) (w : World) (g : Nat) (d : Array α) : putRow enc w g 0 d = putRow id w g 0 (d.map enc) := by
 unfold putRow; refine mapBlock_congr w g _ _ (fun c e fr _ => ?_); unfold putCells; apply Array.ext
 · simp
 · intro i h1 h2; simp only [Array.getElem_mapIdx, Nat.zero_le, true_and, Nat.zero_add, Nat.sub_zero, id, Array.size_map]; by_cases hi : i < d.size
   · simp [hi]
   · simp [hi]
def M4 (w : World) (g m : Nat) (F : Array Value) (os : Array Obj) : World := grow (putRow id (Sort.ahead w m) g 0 F) os
theorem a5j (w : World) (g m : Nat) (F : Array Value) (os : Array Obj) : (M4 w g m F os).heap.size = w.heap.size + os.size := by
 simp [M4, grow, putRow, mapBlock, Sort.ahead]
theorem a4i (w : World) (g m : Nat) (F : Array Value) (os : Array Obj) {b : Nat} (hb : b < w.heap.size) (hne : b ≠ g) : (M4 w g m F os).heap[b]? = w.heap[b]? := by
 simp only [M4, grow, putRow, mapBlock, Sort.ahead]; rw [Array.getElem?_append_left (by simpa using hb), Array.getElem?_modify, if_neg (Ne.symm hne)]
theorem b8Q (w : World) (g m : Nat) (F : Array Value) (os : Array Obj) {c : Array Value} {e : TypeId} {fz : Nat × Nat} (h : w.heap[g]? = some (.cells c e fz)) : (M4 w g m F os).heap[g]? = some (.cells (putCells id 0 F c) e fz) := by
 have hb : g < w.heap.size := (Array.getElem?_eq_some_iff.1 h).1; simp only [M4, grow, putRow, mapBlock, Sort.ahead]; rw [Array.getElem?_append_left (by simpa using hb), Array.getElem?_modify, if_pos rfl, h]; rfl
theorem D9.sorted {og : Option Nat} {e : TypeId} {l l' : List D} {g c : Nat} (h : D9 P w L og true e l (.slice (some ⟨g, 0, none⟩) l.length c)) (hlok : ∀ b q, L b q → b < w.heap.size) {css' : List (List Value)} (hr : A6 w L l' css') (hlen : l'.length = l.length)
   (hsz : ∀ sz, (P.info? (ety e)).map (·.size) = some sz → ∀ c ∈ css', c.length = sz) (m : Nat) (os : Array Obj) {F : Array Value} (hF : F.toList = css'.flatten) :
   D9 P (M4 w g m F os) L og true e l' (.slice (some ⟨g, 0, none⟩) l.length c) ∧ E8 w (M4 w g m F os) (E9 (some g)) ∧ (∀ b q, L b q → b < (M4 w g m F os).heap.size) := by
 have B7 := h.blk (g := g) rfl; obtain ⟨css, sz, h1, h2, h3, h4, h5⟩ := h; rcases h4.2 with ⟨hv, hn⟩ | ⟨g', cap, cur, hv, hh, hnc, hcm, hcs, htk⟩
 · cases hv
 · simp only [Value.slice.injEq, Option.some.injEq, Addr.mk.injEq, and_true, true_and] at hv; obtain ⟨rfl, rfl⟩ := hv; have hsz' := hsz sz h1; have hFl : F.size = l.length * sz := by
     rw [← Array.length_toList, hF, R4 hsz', hr.count, hlen]
   have hFc : F.size ≤ cur.size := by rw [hFl]; exact Nat.le_trans (Nat.mul_le_mul_right _ hnc) hcs
   have hpl := b7h hFc; have hps : (putCells id 0 F cur).size = cur.size := (by simp [putCells]); have hgrown : E8 w (M4 w g m F os) (E9 (some g)) := ⟨rfl, rfl, rfl, by rw [a5j]; omega, fun k hk hne => a4i w g m F os hk (fun e => hne (by rw [e]; rfl)), by show w.drawn ≤ (M4 w g m F os).drawn; exact Nat.le_add_right _ _⟩; have hext : Ext w L (M4 w g m F os) L := fun b q hq => ⟨hq, fun v hv => by
     have hne : b ≠ g := fun e => by subst e; exact B7.2 q hq
     rw [G7 (a4i w g m F os (hlok b q hq) hne)]; exact hv⟩
   refine ⟨⟨css', sz, h1, A6.mono hext _ _ hr, hsz', ⟨?_, .inr ⟨g, c, putCells id 0 F cur, by rw [hlen], by rw [hps]; exact b8Q w g m F os hh, by rw [hlen]; exact hnc, hcm, by rw [hps]; exact hcs, ?_⟩⟩, fun g' hg' => ?_⟩, hgrown, fun b q hq => by rw [a5j]; have := hlok b q hq; omega⟩
   · rw [← hF, Array.length_toList, hFl, hlen]
   · rw [hlen, hpl, ← hF, ← hFl, ← Array.length_toList, take_left]
   · obtain rfl : g = g' := by simpa [Value.ownBlock] using hg'
     exact ⟨B7.1, fun q => by simpa using B7.2 q⟩
theorem D9.holds {og : Option Nat} {e : TypeId} {l : List D} {g c : Nat} (h : D9 P w L og true e l (.slice (some ⟨g, 0, none⟩) l.length c)) : ∃ css, A6 w L l css ∧ (∀ sz, (P.info? (ety e)).map (·.size) = some sz → ∀ c ∈ css, c.length = sz) ∧ Holds id w g 0 css.flatten.toArray ∧ g < w.heap.size ∧ l.length ≤ c := by
 obtain ⟨css, sz, h1, h2, h3, h4, h5⟩ := h; rcases h4.2 with ⟨hv, hn⟩ | ⟨g', cap, cur, hv, hh, hnc, hcm, hcs, htk⟩
 · cases hv
 · simp only [Value.slice.injEq, Option.some.injEq, Addr.mk.injEq, and_true, true_and] at hv; obtain ⟨rfl, rfl⟩ := hv; refine ⟨css, h2, fun s hs => by rw [h1] at hs; simp only [Option.some.injEq] at hs; subst hs; exact h3, fun j hj => ?_, (Array.getElem?_eq_some_iff.1 hh).1, hnc⟩; simp only [size_toArray] at hj; have hle : l.length * sz ≤ cur.size := Nat.le_trans (Nat.mul_le_mul_right _ hnc) hcs; have hjl : j < l.length * sz := by rw [← h4.1]; exact hj
   have hjc : j < cur.size := (by omega); have hv : css.flatten[j]? = some cur[j] := by
     rw [← htk, getElem?_take, if_pos hjl]; simp [hjc]
   constructor
   · simp only [World.cell?, hh, Nat.zero_add, id]; rw [show css.flatten.toArray[j]! = cur[j] by
       rw [getElem!_pos _ j (by simpa using hj)]; simpa using (List.getElem?_eq_some_iff.1 hv).2]
     simp [hjc]
   · simp only [World.frozen?, hh, Nat.zero_add]; unfold mk; split
     · simp
     · simp; omega
section
variable {g : FuncId} {args rest : List AV} {σ : St} {d : Nat} {K : St → Prop} {C : AV → Prop}
theorem c5h {y : D} (h : Ctr P g args (.d y)) (hy : a7D y = true) (hk : K (put σ d (.d y))) : b4O P g args σ d K := ⟨y, hy, h, hk⟩
theorem b8u {j : Nat} {e : TypeId} {l l' : List D} (h : a7u P g e l rest l') (hk : K (put (put σ j (.own true e l')) d (.tup []))) : InK P g (.bor j true e l) rest σ d K := ⟨l', h, hk⟩
theorem d2U {u : Value} (j : Nat) {e : TypeId} {l l' : List D} (hj : σ j = .hs u e l) (h : a7u P g e l rest l') (hk : K (put (put σ j (.hs u e l')) d (.tup []))) : InK P g (.d (.raw u)) rest σ d K := ⟨j, e, l, l', hj, h, hk⟩
theorem c9t {u : Value} (j : Nat) {e e' : TypeId} {l l' : List D} (hj : σ j = .hs u e l) (h : Ctr P g (.own true e l :: rest) (.own true e' l')) (hk : ∀ A c, K (put (put σ j (.hs (.slice A l'.length c) e' l')) d (.d (.raw (.slice A l'.length c))))) : b2i P g (.d (.raw u)) rest σ d K := ⟨j, e, l, e', l', hj, h, hk⟩
theorem c7k {e : TypeId} {z : Nat × Nat} {ds l : List D} {u : Value} (j : Nat) (hj : σ j = .hs u e l) (h1 : ∀ u ∈ ds, A9 u = z.1) (h2 : (l.length + ds.length) * z.2 ≤ 140737488355328) (h3 : l.length + ds.length ≤ 140737488355328)
   (hk : ∀ A c, K (put (put σ j (.hs (.slice A (l ++ ds).length c) e (l ++ ds))) d (.d (.raw (.slice A (l ++ ds).length c))))) : b5p e z ds u σ d K := ⟨j, l, .inl hj, h1, h2, h3, hk⟩
theorem c9A {e : TypeId} {z : Nat × Nat} {ds : List D} (j : Nat) (hj : σ j = .undef) (h1 : ∀ u ∈ ds, A9 u = z.1) (h2 : ds.length * z.2 ≤ 140737488355328) (h3 : ds.length ≤ 140737488355328)
   (hk : ∀ A c, K (put (put σ j (.hs (.slice A ds.length c) e ds)) d (.d (.raw (.slice A ds.length c))))) : b5p e z ds (.slice none 0 0) σ d K := ⟨j, [], .inr ⟨rfl, rfl, hj⟩, h1, by simpa using h2, by simpa using h3, by simpa using hk⟩
end
end Go.Vw
namespace Go.Vw
open Go.RowKit Go.Proofs
variable {P : Program} {w : World} {L : Nat → Nat → Prop}
theorem RCs.dataOnly {og og' : Option Nat} : ∀ {xs : List AV} {vs : List Value}, (∀ x ∈ xs, ∃ d, x = .d d) → RCs P w L og xs vs → RCs P w L og' xs vs
 | [], _, _, h => h
 | x :: xs, vs, hx, h => by
   simp only [RCs] at h ⊢; obtain ⟨v, us, h1, h2, h3⟩ := h; obtain ⟨d, rfl⟩ := hx x (by simp); exact ⟨v, us, h1, h2, RCs.dataOnly (fun y hy => hx y (by simp [hy])) h3⟩
theorem F5.frozen {f : FuncId} {args : List AV} {Post : AV → List AV → Prop} (h : F5 P f args [] Post) (hargs : ∀ x ∈ args, ∃ d, x = .d d) {e : TypeId} {l' : List D}
   (hp : ∀ r hs, Post r hs → ∃ l, r = .own true e l ∧ FzL hs l l') : Ctr P f args (.own true e l') := by
 refine ⟨h.1, fun w L og vals hlok hgl hog hv => (h.2 w L vals hlok hgl (RCs.dataOnly hargs hv) (by simp) trivial).mono ?_⟩; rintro x w' ⟨v, L', og', r, hs, rfl, hgr, hlok', hold', hog', hap, hrc, hrh, hpost⟩; obtain ⟨l, rfl, hl⟩ := hp r hs hpost; obtain ⟨css, sz, h1, h2, h3, h4, h5⟩ : D9 P w' L' og' true e l v := hrc; have hblkm : ∀ {u : Value} {e : TypeId} {l : List D} {g : Nat}, AV.hs u e l ∈ hs → u.ownBlock = some g → some g ∈ hs.map B7 := fun hm hb => mem_map.2 ⟨_, hm, hb⟩
 refine ⟨v, a5K P L' hs, og', rfl, hgr.sub (fun b hb => by simp at hb), fun b q hq => ?_, fun b q hb _ => ?_, fun g hg => ?_, css, sz, h1, A6.fz hrh hap.2 hl h2, h3, ⟨by rw [← hl.len]; exact h4.1, by rw [← hl.len]; exact h4.2⟩, fun g hg => ⟨(h5 g hg).1, fun o => ⟨fun hL => ?_, fun h => by simp at h⟩⟩⟩
 · rcases hq with hq | ⟨u, e, l, sz, hm, hb, _⟩
   · exact hlok' b q hq
   · exact (hog' b (mem_cons.2 (.inr (hblkm hm hb)))).1
 · refine ⟨fun hL => ?_, fun hL => .inl ((hold' b q hb (by simp)).2 hL)⟩; rcases hL with hL | ⟨u, e, l, sz, hm, hbb, _⟩
   · exact (hold' b q hb (by simp)).1 hL
   · have := (hog' b (mem_cons.2 (.inr (hblkm hm hbb)))).2; simp at this; omega
 · have := hog' g (by simp [hg]); exact ⟨this.1, .inl (by simpa using this.2)⟩
 · rcases hL with hL | ⟨u, e, l, sz, hm, hbb, _⟩
   · have := ((h5 g hg).2 o).1 hL; simp at this
   · exact absurd (hblkm hm hbb) (hap.1 g (h5 g hg).1)
theorem b7U : ∀ (xs : List AV) (σ : St) (b i : Nat), i < b → (∀ d, b ≤ d → E0 d (σ i) = σ i) → C6 σ [] b xs i = σ i
 | [], _, _, _, _, _ => rfl
 | x :: xs, σ, b, i, hi, hk => by
   rw [C6, b7U xs _ _ _ (by omega)]
   · simp only [put, if_neg (show ¬ i = b by omega)]; exact hk b (Nat.le_refl _)
   · intro d hd; simp only [put, if_neg (show ¬ i = b by omega), hk b (Nat.le_refl _)]; exact hk d (by omega)
theorem a2c {x : AV} (h : isH x = true) (d : Nat) : E0 d x = x := by cases x <;> simp [isH] at h <;> rfl
theorem a6l : ∀ (xs : List AV) (σ : St) (b : Nat), (∀ x ∈ xs, isH x = true) → ∀ i (h : i < xs.length), C6 σ [] b xs (b + i) = xs[i]
 | [], _, _, _, _, h => by simp at h
 | x :: xs, σ, b, hx, 0, h => by
   have hkx := a2c (hx x (by simp)); have e : (put σ b x) b = x := by simp only [put, if_true]; exact hkx b
   rw [Nat.add_zero, C6, b7U _ _ _ _ (by omega) (by intro d _; rw [e]; exact hkx d), e, getElem_cons_zero]
 | x :: xs, σ, b, hx, i + 1, h => by
   have := a6l xs (put σ b x) (b + 1) (fun y hy => hx y (by simp [hy])) i (by simpa using h); rw [C6, show b + (i + 1) = b + 1 + i by omega, this, getElem_cons_succ]
theorem F5.shaped {f : FuncId} {args hs : List AV} {Post : AV → List AV → Prop} (h : F5 P f args hs Post) :
   F5 P f args hs (fun r hs' => Post r hs' ∧ ∀ u e l, AV.hs u e l ∈ hs' → ∃ A c, u = .slice A l.length c) := by
 refine ⟨h.1, fun w L vals hlok hgl hv hh ha => (h.2 w L vals hlok hgl hv hh ha).mono ?_⟩; rintro x w' ⟨v, L', og', r, hs', h1, h2, h3, h4, h5, h6, h7, h8, h9⟩; refine ⟨v, L', og', r, hs', h1, h2, h3, h4, h5, h6, h7, h8, h9, fun u e l hm => ?_⟩; have : D9 P w' L' u.ownBlock true e l u := (h8 _ hm).2; exact this.shape
end Go.Vw
set_option maxHeartbeats 4000000
namespace Go.Vw
open Go
def rW {α : Type} : Result α → World
 | .ok _ w => w
 | .halt _ w => w
theorem W8 {α : Type} {p : Program} : ∀ (s : Sem α) (w : World), w.drawn ≤ (rW (s.run p w)).drawn
 | .pure _, w => Nat.le_refl _
 | .load m ad k, w => by
   simp only [Sem.run]; split
   · exact W8 _ w
   · split
     · exact W8 _ w
     · exact Nat.le_refl _
 | .store m ad v k, w => by
   cases v <;> simp only [Sem.run]
   all_goals first
     | exact Nat.le_refl _
     | (split
        · split
          · exact Nat.le_refl _
          · exact W8 k (w.setCell ad _)
        · split
          · rename_i w2 l hf
            rw [← a6t hf]; exact W8 k _
          · exact Nat.le_refl _)
 | .new o k, w => by simp only [Sem.run]; exact W8 _ { w with heap := w.heap.push o }
 | .shape r k, w => by simp only [Sem.run]; exact W8 _ w
 | .freeze ad n k, w => by
   simp only [Sem.run]; rw [← a5e w ad n]; exact W8 _ _
 | .frozen ad k, w => by simp only [Sem.run]; exact W8 _ w
 | .getObj r k, w => by
   simp only [Sem.run]; split
   · exact Nat.le_refl _
   · exact W8 _ w
   · exact Nat.le_refl _
 | .setObj r o k, w => by
   simp only [Sem.run]; split
   · exact Nat.le_refl _
   · exact W8 k { w with heap := w.heap.setIfInBounds r o }
   · exact Nat.le_refl _
 | .choose q k, w => by
   simp only [Sem.run]; split
   · exact W8 _ w
   · exact Nat.le_trans (Nat.le_succ _) (W8 _ { w with drawn := w.drawn + 1 })
 | .sys c k, w => by
   simp only [Sem.run]; exact Nat.le_trans (b4e w c) (W8 _ _)
 | .program k, w => by simp only [Sem.run]; exact W8 _ w
 | .mark _ k, w => by simp only [Sem.run]; exact W8 _ w
 | .halt _, w => Nat.le_refl _
theorem D1 {α : Type} {p : Program} {s : Sem α} {w w' : World} {a : α} {d : Nat} (h : s.run p w = .ok a w') (hd : d ≤ w.drawn) : d ≤ w'.drawn := by
 have := W8 (p := p) s w; rw [h] at this; exact Nat.le_trans hd this
theorem a0F {α : Type} {p : Program} {s : Sem α} {w w' : World} {a : Halt} {d : Nat} (h : s.run p w = .halt a w') (hd : d ≤ w.drawn) : d ≤ w'.drawn := by
 have := W8 (p := p) s w; rw [h] at this; exact Nat.le_trans hd this
def Up (d : Nat) : GStep → Prop
 | .go _ w _ => d ≤ w.drawn
 | .comm _ _ _ _ w _ => d ≤ w.drawn
 | .spawn _ _ w _ => d ≤ w.drawn
 | .count _ w _ => d ≤ w.drawn
 | .timer _ _ w _ => d ≤ w.drawn
 | .alone _ _ w _ => d ≤ w.drawn
 | .newcoro _ _ _ w _ => d ≤ w.drawn
 | .coroswitch _ _ _ w _ => d ≤ w.drawn
 | .collect _ w _ => d ≤ w.drawn
 | .watch _ w _ => d ≤ w.drawn
 | .ended _ _ _ => True
@[simp] theorem M3 {d : Nat} (es : Array Event) (s : GStep) : Up d (GStep.after es s) = Up d s := by cases s <;> rfl
theorem U9 {d : Nat} {α : Type} {o : Option α} {a : GStep} {f : α → GStep} (h1 : Up d a) (h2 : ∀ x, Up d (f x)) : Up d (o.elim a f) := by cases o; exact h1; exact h2 _
theorem b9F {d : Nat} (w : World) (fd : Nat) (t : ByteArray) (o : Outcome) : Up d (endWith w fd t o) := by
 unfold endWith; simp only []; repeat' first
   | exact trivial
   | rw [M3]
   | refine U9 ?_ fun _ => ?_
   | split
theorem c4u {d : Nat} {w : World} (h : d ≤ w.drawn) (fr : Frame) (a : List ByteArray) (m : String) (b : Bool) : Up d (dieOf fr a m b w) := h
theorem a2k {d : Nat} {w : World} (h : d ≤ w.drawn) (fr : Frame) (m : String) : Up d (endThrow fr m w) := h
theorem a6z {d : Nat} {w : World} (h : d ≤ w.drawn) (p : Program) (fr : Frame) (v : Value) : Up d (endPrinting p fr v w) := by
 unfold endPrinting; simp only []; split
 · exact a2k h _ _
 · exact trivial
theorem b0b {d : Nat} {w : World} (h : d ≤ w.drawn) (p : Program) (fr : Frame) (cs : List Frame) (dy : Option Dying) (m : String) : Up d (endFatal p fr cs dy m w) := by
 unfold endFatal; simp only []; split
 · rename_i hr
   exact c4u (D1 hr h) _ _ _ _
 · exact trivial
 · exact trivial
theorem b8M {d : Nat} {w : World} (h : d ≤ w.drawn) (p : Program) (fr : Frame) (dy : Dying) (f : Fatal) : Up d (writeOn p fr dy f w) := by
 unfold writeOn; simp only [Sem.runT_eq]; repeat' first
   | exact trivial
   | (rename_i hr; exact D1 (Prod.mk.inj hr).1 h)
   | (rename_i hr; exact a0F (Prod.mk.inj hr).1 h)
   | rw [M3]
   | refine U9 ?_ fun _ => ?_
   | split
theorem c7x {d : Nat} {w : World} (h : d ≤ w.drawn) (p : Program) (fr : Frame) (dy : Dying) : Up d (die p fr dy w) := by
 unfold die; simp only [Sem.runT_eq, M3]; repeat' first
   | exact trivial
   | exact h
   | exact b8M h _ _ _ _
   | exact b9F _ _ _ _
   | exact D1 (by assumption) h
   | (have hq := D1 (by assumption) h; exact hq)
   | (have hq := D1 (by assumption) h; have hq2 := D1 (by assumption) hq; exact hq2)
   | (have hq := D1 (by assumption) h; have hq2 := D1 (by assumption) hq; have hq3 := D1 (by assumption) hq2; exact hq3)
   | exact a6z (a0F (by assumption) h) _ _ _
   | rw [M3]
   | refine U9 ?_ fun _ => ?_
   | split
theorem a5V {d : Nat} {w : World} (h : d ≤ w.drawn) (p : Program) (b : Bool) (fr : Frame) (cs : List Frame) (dy : Option Dying) (v : Value) : Up d (doReturn p b fr cs dy v w) := by
 unfold doReturn; simp only []; repeat' first
   | exact trivial
   | exact h
   | rw [M3]
   | refine U9 ?_ fun _ => ?_
   | split
theorem b1D {d : Nat} {w : World} (h : d ≤ w.drawn) (p : Program) (fr : Frame) (cs : List Frame) (dy : Option Dying) (x : Deferred) : Up d (callDeferred p fr cs dy x w) := by
 unfold callDeferred; simp only [Sem.runT_eq, M3]; repeat' first
   | exact trivial
   | exact D1 (by assumption) h
   | (have hq := D1 (by assumption) h; exact hq)
   | (have hq := D1 (by assumption) h; have hq2 := D1 (by assumption) hq; exact hq2)
   | (have hq := D1 (by assumption) h; have hq2 := D1 (by assumption) hq; have hq3 := D1 (by assumption) hq2; exact hq3)
   | exact a0F (by assumption) h
   | exact b0b (a0F (by assumption) h) _ _ _ _ _
   | exact a2k (a0F (by assumption) h) _ _
   | rw [M3]
   | refine U9 ?_ fun _ => ?_
   | split
theorem c0b {d : Nat} {w : World} (h : d ≤ w.drawn) (p : Program) (b : Bool) (fr : Frame) (cs : List Frame) (dy : Option Dying) : Up d (unwind p b fr cs dy w) := by
 unfold unwind; simp only [Sem.runT_eq, M3]; repeat' first
   | exact trivial
   | exact h
   | exact b1D h _ _ _ _ _
   | exact a5V h _ _ _ _ _ _
   | exact a6z h _ _ _
   | exact D1 (by assumption) h
   | (have hq := D1 (by assumption) h; exact hq)
   | (have hq := D1 (by assumption) h; have hq2 := D1 (by assumption) hq; exact hq2)
   | (have hq := D1 (by assumption) h; have hq2 := D1 (by assumption) hq; have hq3 := D1 (by assumption) hq2; exact hq3)
   | exact a5V (D1 (by assumption) h) _ _ _ _ _ _
   | rw [M3]
   | refine U9 ?_ fun _ => ?_
   | split
theorem c3r {d : Nat} {w : World} (h : d ≤ w.drawn) (p : Program) (fr : Frame) (cs : List Frame) (dy : Option Dying) (g : Nat) : Up d (early p fr cs dy g w) := by
 unfold early; simp only []; repeat' first
   | exact trivial
   | exact h
   | exact D1 (by assumption) h
   | (have hq := D1 (by assumption) h; exact hq)
   | (have hq := D1 (by assumption) h; have hq2 := D1 (by assumption) hq; exact hq2)
   | (have hq := D1 (by assumption) h; have hq2 := D1 (by assumption) hq; have hq3 := D1 (by assumption) hq2; exact hq3)
   | rw [M3]
   | refine U9 ?_ fun _ => ?_
   | split
theorem b0w {d : Nat} {w : World} (h : d ≤ w.drawn) (p : Program) (fr : Frame) (cs : List Frame) (dy : Option Dying) (s : Sem Next) (l : Bool) : Up d (stepG.apply p l fr cs dy s w) := by
 have hl : (if l = true then s.runT p w #[] else (s.run p w, #[])).1 = s.run p w := by cases l <;> simp
 unfold stepG.apply; simp only [M3]; rw [hl]; repeat' first
   | exact trivial
   | exact D1 (by assumption) h
   | (have hq := D1 (by assumption) h; exact hq)
   | (have hq := D1 (by assumption) h; have hq2 := D1 (by assumption) hq; exact hq2)
   | (have hq := D1 (by assumption) h; have hq2 := D1 (by assumption) hq; have hq3 := D1 (by assumption) hq2; exact hq3)
   | exact a0F (by assumption) h
   | exact a2k (D1 (by assumption) h) _ _
   | exact a2k (a0F (by assumption) h) _ _
   | exact b0b (a0F (by assumption) h) _ _ _ _ _
   | exact c3r (a0F (by assumption) h) _ _ _ _ _
   | rw [M3]
   | refine U9 ?_ fun _ => ?_
   | split
theorem c6x {d : Nat} {w : World} (h : d ≤ w.drawn) (p : Program) (fr : Frame) (cs : List Frame) (dy : Option Dying) (l : Bool) : Up d (stepG.oper p l fr cs dy w) := by
 unfold stepG.oper; repeat' first
   | exact trivial
   | exact b0w h _ _ _ _ _ _
   | rw [M3]
   | refine U9 ?_ fun _ => ?_
   | split
theorem c6e {d : Nat} {w : World} (h : d ≤ w.drawn) (p : Program) (b : Bool) (fr : Frame) (cs : List Frame) (dy : Option Dying) (l : Bool) : Up d (stepG.exec p b l fr cs dy w) := by
 unfold stepG.exec; simp only [Sem.runT_eq, M3]; repeat' first
   | exact trivial
   | exact h
   | exact b0w h _ _ _ _ _ _
   | exact c6x h _ _ _ _ _
   | exact D1 (by assumption) h
   | (have hq := D1 (by assumption) h; exact hq)
   | (have hq := D1 (by assumption) h; have hq2 := D1 (by assumption) hq; exact hq2)
   | (have hq := D1 (by assumption) h; have hq2 := D1 (by assumption) hq; have hq3 := D1 (by assumption) hq2; exact hq3)
   | exact a0F (by assumption) h
   | exact a5V (D1 (by assumption) h) _ _ _ _ _ _
   | exact b0w (D1 (by assumption) h) _ _ _ _ _ _
   | rw [M3]
   | refine U9 ?_ fun _ => ?_
   | split
theorem c4v {d : Nat} {w : World} (h : d ≤ w.drawn) (p : Program) (b : Bool) (g : Goroutine) (l : Bool) : Up d (stepG p b g w l) := by
 unfold stepG; simp only []; split
 · exact c7x h _ _ _
 · exact c6e h _ _ _ _ _ _
 · exact c0b h _ _ _ _ _
def UpS (d : Nat) : Stepped → Prop
 | .next m => d ≤ m.world.drawn
 | .ended _ _ => True
theorem b1O {rest : Rest} {cases : Array CommCase} {w w' : World} (h : waitingAt rest cases w = some w') : w'.drawn = w.drawn := by
 unfold waitingAt at h; repeat' (first | (split at h) | (cases h; rfl) | cases h)
theorem b3n {d : Nat} {w : World} (h : d ≤ w.drawn) (p : Program) (rest : Rest) (gs : Array Goroutine) (i : Nat) (g : Goroutine) (cases : Array CommCase) (b : Bool) (shape : CommShape) : UpS d (communicate p rest gs i g cases b shape w).1 := by
 unfold communicate; simp only []; repeat' first
   | exact trivial
   | exact h
   | (rename_i hw; exact Nat.le_trans h (Nat.le_of_eq (b1O hw).symm))
   | exact D1 (by assumption) h
   | (have hq := D1 (by assumption) h; exact hq)
   | (have hq := D1 (by assumption) h; have hq2 := D1 (by assumption) hq; exact hq2)
   | (have hq := D1 (by assumption) h; have hq2 := D1 (by assumption) hq; have hq3 := D1 (by assumption) hq2; exact hq3)
   | exact a0F (by assumption) (D1 (by assumption) h)
   | exact D1 (by assumption) (D1 (by assumption) h)
   | rw [M3]
   | refine U9 ?_ fun _ => ?_
   | split
theorem b7O {d : Nat} {w : World} (h : d ≤ w.drawn) (p : Program) (gs : Array Goroutine) (rest : Rest) : UpS d (look p gs rest w) := by
 unfold look; simp only []; repeat' first
   | exact trivial
   | exact h
   | exact D1 (by assumption) h
   | (have hq := D1 (by assumption) h; exact hq)
   | (have hq := D1 (by assumption) h; have hq2 := D1 (by assumption) hq; exact hq2)
   | (have hq := D1 (by assumption) h; have hq2 := D1 (by assumption) hq; have hq3 := D1 (by assumption) hq2; exact hq3)
   | rw [M3]
   | refine U9 ?_ fun _ => ?_
   | split
theorem b7m (w : World) (c : Nat) : (drain w c).2.drawn = w.drawn := by
 unfold drain; split <;> rfl
theorem a4Q (m : Machine) (k : Nat) (t : Timer) (a b : Nat) : (retime m k t a b).2.world.drawn = m.world.drawn := by
 unfold retime; cases hc : t.chan with
 | none => rfl
 | some c => exact b7m _ _
theorem a8t {m m' : Machine} {v : Addr} (h : timerOp.opened m v = some m') : m'.world.drawn = m.world.drawn := by
 unfold timerOp.opened at h; repeat' (first | (split at h) | (cases h; rfl) | cases h)
theorem b4G {m m' : Machine} {op : TimerOp} {v : Value} (h : timerOp m op = .ok (v, m')) : m'.world.drawn = m.world.drawn := by
 unfold timerOp at h; simp only [timerOp.named] at h; repeat' first
   | (cases h; rfl)
   | (cases h; exact a4Q _ _ _ _ _)
   | (rename_i ho _ _; have := a8t ho; cases h; rw [← this]; exact a4Q _ _ _ _ _)
   | (rename_i ho _ _ _; have := a8t ho; cases h; rw [← this]; exact a4Q _ _ _ _ _)
   | cases h
   | split at h
theorem c5S {d : Nat} {m : Machine} (h : d ≤ m.world.drawn) (p : Program) (i : Nat) (l : Bool) : UpS d (runT p m i l).1 := by
 simp only [runT]; generalize m.gs.swapAt! _ _ = gg; have hs := c4v h p (i == 0) gg.1 l; generalize stepG p _ gg.1 m.world l = s at hs; cases s <;> simp only [Up] at hs <;> simp only []
 all_goals first
   | exact trivial
   | exact hs
   | exact b3n hs _ _ _ _ _ _ _ _
   | exact b7O hs _ _ _
   | (repeat' first
       | exact trivial
       | exact hs
       | (rename_i ht; exact Nat.le_trans hs (Nat.le_of_eq (b4G ht).symm))
       | (have hq := a2k hs (d := d) (by assumption) (by assumption))
       | split)
theorem c2J {d : Nat} {m : Machine} (h : d ≤ m.world.drawn) (p : Program) (k : Nat) : UpS d (serve p m k) := by
 unfold serve; simp only []; repeat' first
   | exact trivial
   | exact h
   | rw [M3]
   | refine U9 ?_ fun _ => ?_
   | split
def UpM (d : Nat) : Move → Prop
 | .goroutine m _ => d ≤ m.world.drawn
 | .machine s _ => UpS d s
theorem c2j {α : Type} {p : Program} {s : Sem α} {w w' : World} {gs : Array Goroutine} {rest : Rest} {t : Nat} {a : α} {d : Nat} (h : s.run p (Machine.advanceTo { world := w, gs := gs, rest := rest } t).world = .ok a w') (hd : d ≤ w.drawn) : d ≤ w'.drawn := D1 h hd
theorem b0J {d : Nat} {m : Machine} (h : d ≤ m.world.drawn) (p : Program) : UpM d (askOn p m) := by
 unfold askOn; simp only []; repeat' first
   | exact trivial
   | exact h
   | exact c2J (m := { m with world := _ }) (D1 (by assumption) h) _ _
   | exact D1 (by assumption) h
   | (have hq := D1 (by assumption) h; exact hq)
   | (have hq := D1 (by assumption) h; have hq2 := D1 (by assumption) hq; exact hq2)
   | (have hq := D1 (by assumption) h; have hq2 := D1 (by assumption) hq; have hq3 := D1 (by assumption) hq2; exact hq3)
   | exact D1 (by assumption) (D1 (by assumption) h)
   | exact D1 (by assumption) (D1 (by assumption) (D1 (by assumption) h))
   | exact D1 (by assumption) (D1 (by assumption) (D1 (by assumption) (D1 (by assumption) h)))
   | rw [M3]
   | refine U9 ?_ fun _ => ?_
   | (have q1 := D1 (by assumption) h; have q2 := D1 (by assumption) q1; have q3 := c2j (by assumption) q2; exact q3)
   | (have q1 := D1 (by assumption) h; have q2 := D1 (by assumption) q1; have q3 := c2j (by assumption) q2; have q4 := D1 (by assumption) q3; exact q4)
   | split
theorem c1V {d : Nat} {m : Machine} (h : d ≤ m.world.drawn) (p : Program) : UpM d (ask p m) := by
 unfold ask; split
 · split
   · exact trivial
   · rename_i hr
     have hl := b7O (D1 hr h) p m.gs m.rest; generalize look p m.gs m.rest _ = s at hl; cases s with
     | next m2 => exact b0J hl p
     | ended o w => exact trivial
   · exact b0J (m := { m with world := _ }) (D1 (by assumption) h) p
 · exact b0J h p
theorem c5p {d : Nat} {m : Machine} (h : d ≤ m.world.drawn) (p : Program) : UpM d (move p m) := by
 unfold move; repeat' first
   | exact trivial
   | exact h
   | exact c1V h p
   | (refine c1V ?_ p; exact h)
   | rw [M3]
   | refine U9 ?_ fun _ => ?_
   | split
theorem c5u {m m' : Machine} {p : Program} (h : step p m = .next m') : m.world.drawn ≤ m'.world.drawn := by
 have hm := c5p (Nat.le_refl m.world.drawn) p; unfold step stepT at h; generalize move p m = mv at hm h; cases mv with
 | goroutine m2 i =>
   have := c5S hm p i true; simp only [] at h; rw [h] at this; exact this
 | machine s ops =>
   simp only [] at h; subst h; exact hm
theorem c2N {m m' : Machine} {p : Program} (h : Steps p m m') : m.world.drawn ≤ m'.world.drawn := by
 obtain ⟨n, hn⟩ := h
 induction n generalizing m with
 | zero => simp only [runN, Stepped.next.injEq] at hn; rw [hn]; exact Nat.le_refl _
 | succ n ih =>
   simp only [runN] at hn; cases hs : step p m with
   | next m2 => rw [hs] at hn; exact Nat.le_trans (c5u hs) (ih hn)
   | ended o w => rw [hs] at hn; cases hn
theorem b7s {P : Program} {f : FuncId} {args : Array Value} {w : World} {R : Ending → World → Prop} (h : Calls P f args w R) : Calls P f args w (fun e w' => R e w' ∧ ((∃ v, e = .returned v) → w.drawn ≤ w'.drawn)) := by
 intro cs; obtain ⟨e, w', fr, h1, h2, h3⟩ := h cs; refine ⟨e, w', fr, ⟨h1, ?_⟩, h2, h3⟩; rintro ⟨v, rfl⟩; exact c2N h2
end Go.Vw
namespace Go.Vw
open Go.RowKit Go.Proofs Go.Sort
variable {P : Program} {f : FuncId}
theorem F5.post {args hs : List AV} {Post Post' : AV → List AV → Prop} (h : F5 P f args hs Post) (hp : ∀ r hs', Post r hs' → Post' r hs') : F5 P f args hs Post' := by
 refine ⟨h.1, fun w L vals hl hg hr h1 h2 => (h.2 w L vals hl hg hr h1 h2).mono ?_⟩; rintro x w' ⟨v, L', og', r, hs', rfl, a1, a2, a3, a4, a5, a6, a7, a8⟩; exact ⟨v, L', og', r, hs', rfl, a1, a2, a3, a4, a5, a6, a7, hp _ _ a8⟩
theorem RH.hs_lt {w : World} {L : Nat → Nat → Prop} {u : Value} {e : TypeId} {l : List D} (h : RH P w L (.hs u e l)) {g : Nat} (hg : u.ownBlock = some g) : g < w.heap.size ∧ ∀ q, ¬ L g q := by
 obtain ⟨_, h⟩ := h; have h' : D9 P w L u.ownBlock true e l u := h; refine ⟨?_, (h'.blk hg).2⟩; obtain ⟨css, sz, h1, h2, h3, h4, h5⟩ := h'; rcases h4.2 with ⟨hv, hn⟩ | ⟨g', cap, cur, hv, hh, _⟩
 · subst hv; cases hg
 · subst hv; have : g' = g := (by simpa [Value.ownBlock] using hg); subst this; exact (Array.getElem?_eq_some_iff.1 hh).1
theorem b3M : ∀ {xs ys : List (Option Nat)}, J7 (xs ++ ys) → J7 xs ∧ J7 ys ∧ ∀ g, some g ∈ xs → some g ∉ ys
 | [], ys, h => ⟨trivial, h, fun g hg => by simp at hg⟩
 | x :: xs, ys, h => by
   obtain ⟨h1, h2, h3⟩ := b3M h.2; refine ⟨⟨fun g hg hm => h.1 g hg (mem_append.2 (.inl hm)), h1⟩, h2, fun g hg => ?_⟩; rcases mem_cons.1 hg with hg | hg
   · exact fun hm => h.1 g hg.symm (mem_append.2 (.inr hm))
   · exact h3 g hg
def b1g : D → Str
 | .str s => s
 | _ => []
theorem b2D {kt : TypeId} {k : D} (hk : P.underlying kt = some .string) (h : D8 P kt k = true) : ∃ s, k = .str s := by
 rcases R0 h with ⟨h1, h2⟩ | ⟨xs, rfl, h1, h2⟩
 · rw [hk] at h1; cases k <;> simp [Q5] at h1
   exact ⟨_, rfl⟩
 · rw [(a5i h1).1] at hk; cases hk
theorem d0H {w : World} {L : Nat → Nat → Prop} {kt : TypeId} {m m' : List (D × D)} {b : Nat} {es : Array MapEntry} {clk : Nat} (h3 : w.heap[b]? = some (.map es clk)) (h5 : Perm m' m) (h6 : I6 w L m' es.toList) (h7 : (m.map (·.1)).Nodup) (h8 : ∀ p ∈ m, D8 P kt p.1 = true)
   (h9 : (es.toList.map (·.born)).Nodup) (h10 : ∀ e ∈ es.toList, e.born < clk) (hk : P.underlying kt = some .string) (hl : m.length ≤ maxLen) (hs : ∀ p ∈ m, (b1g p.1).length ≤ maxLen) :
   ∃ D0 : DataW Unit, w.ownsMap P kt (fun _ => some (.lit (.bool true), [])) b m.length D0 ∧ Maps.size D0 = m.length ∧ (strKeys D0).Perm (m.map fun p => b1g p.1) := by
 have hlen : es.toList.length = m.length := by rw [h6.len, h5.length_eq]
 have hsz : es.size = m.length := by rw [← hlen, Array.length_toList]
 have hkey : ∀ e ∈ es.toList, ∃ s : Str, e.key = .string ⟨s.toArray⟩ ∧ s.length ≤ maxLen := fun e he => by
   obtain ⟨i, hi⟩ := getElem?_of_mem he; obtain ⟨p, hp, k1, _⟩ := h6.get hi; have hpm : p ∈ m := h5.mem_iff.1 (mem_of_getElem? hp); have hf := h8 p hpm; have hle := hs p hpm; obtain ⟨pk, pv⟩ := p; obtain ⟨s0, rfl⟩ := b2D hk hf; exact ⟨_, k1.str_inv, hle⟩
 have hrd : ∀ e ∈ es.toList, ∀ s : Str, e.key = .string ⟨s.toArray⟩ → s.length ≤ maxLen → WideElems.rd P kt (fun _ => some ((.lit (.bool true) : DataW Unit), [])) e = some (.string s, .lit (.bool true)) := fun e he s h1 h2 => by
   have : keyOf P kt e.key = some (.string s) := by
     rw [h1, WideMaps.keyOf_string_mk hk (by simpa [ByteArray.size] using h2)]
   simp [WideElems.rd, this]
 refine ⟨_, ⟨es, clk, h3, ⟨by rw [hsz]; exact hl, ⟨h10, h9, ?_⟩, fun x hx => ?_⟩, by omega, rfl⟩, ?_, ?_⟩
 · -- no key twice
   have hn : (m'.map (·.1)).Nodup := (h5.map _).nodup_iff.2 h7; have hen : ∀ {m' : List (D × D)} {l : List MapEntry}, I6 w L m' l → (m'.map (·.1)).Nodup → (∀ p ∈ m', D8 P kt p.1 = true) → (l.map (·.key)).Nodup := by
     intro m'
     induction m' with
     | nil => intro l h _ _; simp only [I6] at h; subst h; simp
     | cons p m' ih =>
       intro l h hn hf; obtain ⟨e, es', rfl, k1, k2, k3⟩ := h; rw [map_cons, nodup_cons] at hn ⊢; refine ⟨fun hm => hn.1 ?_, ih k3 hn.2 (fun q hq => hf q (by simp [hq]))⟩; obtain ⟨e2, he2, he3⟩ := mem_map.1 hm; obtain ⟨i, hi⟩ := getElem?_of_mem he2; obtain ⟨q, hq, k4, _⟩ := k3.get hi; have := b7V (hf q (by simp [mem_of_getElem? hq])) (hf p (by simp)) k4 k1 he3; exact mem_map.2 ⟨q, mem_of_getElem? hq, this⟩
   refine hen h6 hn (fun p hp => ?_); exact h8 p (h5.mem_iff.1 hp)
 · obtain ⟨s, k1, k2⟩ := hkey x hx; exact ⟨_, hrd x hx s k1 k2⟩
 · rw [Maps.size_eq, length_sorted]; simp [hsz]
 · show (List.map (fun p : Lit × DataW Unit => strOf p.1) _).Perm _
   refine ((WideShapes.sorted_perm _).map _).trans ?_; rw [map_map]; refine Perm.trans ?_ (h5.map _); refine Perm.of_eq ?_; have : ∀ {m' : List (D × D)} {l : List MapEntry}, I6 w L m' l → (∀ p ∈ m', D8 P kt p.1 = true) → (∀ e ∈ l, e ∈ es.toList) → l.map ((fun p : Lit × DataW Unit => strOf p.1) ∘ WideElems.rg P kt (fun _ => some ((.lit (.bool true) : DataW Unit), []))) = m'.map fun p => b1g p.1 := by
     intro m'
     induction m' with
     | nil => intro l h _ _; simp only [I6] at h; subst h; rfl
     | cons p m' ih =>
       intro l h hf hm; obtain ⟨e, es', rfl, k1, k2, k3⟩ := h; obtain ⟨s, k4, k5⟩ := hkey e (hm e (by simp)); rw [map_cons, map_cons, ih k3 (fun q hq => hf q (by simp [hq])) (fun e he => hm e (by simp [he]))]; congr 1
       have hp : p.1 = .str s := by
         have hfp := hf p (by simp); obtain ⟨pk, pv⟩ := p; obtain ⟨s0, e0⟩ := b2D hk hfp; simp only at e0; subst e0; have := k1.str_inv; rw [k4] at this; simp only [Value.string.injEq, ByteArray.mk.injEq] at this; have := congrArg Array.toList this; simp only [] at this; rw [this]
       simp only [Function.comp_apply, WideElems.rg_of (hrd e (hm e (by simp)) s k4 k5), strOf, hp, b1g]
   exact this h6 (fun p hp => h8 p (h5.mem_iff.1 hp)) (fun e he => he)
def a9E (g q : Nat) : Value := .func (.func g) #[] #[.pointer (some ⟨q, 0, none⟩)]
end Go.Vw
namespace Go.Vw
open Go.RowKit Go.Proofs
variable {P : Program} {F : Nat → Bool} {w0 : World} {L0 : Nat → Nat → Prop} {row : Nat → Prop} {n : Nat} {K : St → Prop} {Q : Exit → Act → World → Prop}
 {w w' : World} {L L' : Nat → Nat → Prop} {O O' : Nat → Option Nat} {σ σ' : St} {a : Act} {o : Oper} {d : Nat} {v : Value} {tm : Nat → Value}
def b9v : AV → Option D
 | .box d => some d
 | _ => none
@[simp] theorem d4B (d : D) : b9v (.box d) = some d := rfl
def a2a (P : Program) (σ : St) (r : ResultVar) (y : AV) : Prop :=
 match r with
 | .tmp t => y = .undef ∨ ∃ x, y = .d x ∧ asD (σ t) = some x
 | .cell t ty => ∃ x, y = .d x ∧ b9v (σ t) = some x ∧ tyk P ty = some (x.isAgg, A9 x)
def X1 (P : Program) (σ : St) : List ResultVar → List AV → Prop
 | [], ys => ys = []
 | r :: rs, ys => match ys with
   | y :: ys => a2a P σ r y ∧ X1 P σ rs ys
   | [] => False
def b6O (P : Program) (σ : St) (r : ResultVar) (y : AV) : Prop :=
 match r with
 | .tmp t => a0c (σ t) y
 | .cell t ty => a2a P σ (.cell t ty) y
def a2l : List AV → AV
 | [y] => y
 | ys => .tup ys
def a4o : List Value → Value
 | [v] => v
 | vs => .tuple vs.toArray
def b5N (P : Program) (r : ResultVar) (rs : List ResultVar) (y : AV) (ys : List AV) : Exit → St → Prop := fun e σ => (e = .ret ∨ e = .normal) ∧ b6O P σ r y ∧ X1 P σ rs ys
def b2p (P : Program) (rs : List ResultVar) (Post : AV → List AV → Prop) : Exit → St → Prop := fun e σ => (e = .ret ∨ e = .normal) ∧ ∃ (ys : List AV) (ks : List Nat), ks.Nodup ∧ (∀ k ∈ ks, isH (σ k) = true) ∧ X1 P σ rs ys ∧ Post (a2l ys) (ks.map σ)
def evR (tmps : Array Value) : ResultVar → Sem Value
 | .tmp t => pure (tmps.getD t undef)
 | .cell a t => do loadVar t (← asAddr (tmps.getD a undef))
def evs (P : Program) (w : World) (tmps : Array Value) : List ResultVar → List Value → Prop
 | [], vs => vs = []
 | r :: rs, vs => match vs with
   | v :: vs => (evR tmps r).run P w = .ok v w ∧ evs P w tmps rs vs
   | [] => False
theorem b7e (fn : Func) (tmps : Array Value) : results fn tmps = (do
   let vs ← fn.results.mapM (evR tmps)
   pure (if h : vs.size = 1 then vs[0] else .tuple vs)) := by
 unfold results; congr 1
theorem b0k {fn : Func} {rs : List ResultVar} {vs : List Value} (h : fn.results = rs.toArray) (hl : rs.length ≤ 4) {tmps : Array Value} (he : evs P w tmps rs vs) : (results fn tmps).run P w = .ok (a4o vs) w := by
 rw [b7e, h]
 match rs, vs, he with
 | [], vs, he => simp only [evs] at he; subst he; simp [a4o]
 | [a], [x], he =>
   simp only [evs] at he; simp [he.1, a4o]
 | [a, b], [x, y], he =>
   simp only [evs] at he; simp [he.1, he.2.1, a4o]
 | [a, b, c], [x, y, z], he =>
   simp only [evs] at he; simp [he.1, he.2.1, he.2.2.1, a4o]
 | [a, b, c, d], [x, y, z, u], he =>
   simp only [evs] at he; simp [he.1, he.2.1, he.2.2.1, he.2.2.2.1, a4o]
 | _ :: _ :: _ :: _ :: _ :: _, _, _ => simp at hl
 | [_], [], he => exact he.elim
 | [_], _ :: _ :: _, he => simp only [evs] at he; exact absurd he.2 (by simp)
 | [_, _], [], he => exact he.elim
 | [_, _], [_], he => simp only [evs] at he; exact he.2.elim
 | [_, _], _ :: _ :: _ :: _, he => simp only [evs] at he; exact absurd he.2.2 (by simp)
 | [_, _, _], [], he => exact he.elim
 | [_, _, _], [_], he => simp only [evs] at he; exact he.2.elim
 | [_, _, _], [_, _], he => simp only [evs] at he; exact he.2.2.elim
 | [_, _, _], _ :: _ :: _ :: _ :: _, he => simp only [evs] at he; exact absurd he.2.2.2 (by simp)
 | [_, _, _, _], [], he => exact he.elim
 | [_, _, _, _], [_], he => simp only [evs] at he; exact he.2.elim
 | [_, _, _, _], [_, _], he => simp only [evs] at he; exact he.2.2.elim
 | [_, _, _, _], [_, _, _], he => simp only [evs] at he; exact he.2.2.2.elim
 | [_, _, _, _], _ :: _ :: _ :: _ :: _ :: _, he => simp only [evs] at he; exact absurd he.2.2.2.2 (by simp)
theorem b7I (hR : Rel P w0 L0 row w L O σ (B4 a)) {r : ResultVar} {y : AV} (h : a2a P σ r y) : ∃ v, (evR a.tmps r).run P w = .ok v w ∧ (y = .undef ∨ ∃ x, y = .d x ∧ RepV w L x v) := by
 cases r with
 | tmp t =>
   refine ⟨B4 a t, rfl, ?_⟩; rcases h with h | ⟨x, h1, h2⟩
   · exact .inl h
   · exact .inr ⟨x, h1, RA.asD hR.slots (hR.slots t) h2⟩
 | cell t ty =>
   obtain ⟨x, rfl, h1, h2⟩ := h; have h3 := hR.slots t; have hb : ∃ g C e, B4 a t = ptr g 0 ∧ w.heap[g]? = some (.cells C e (0, 0)) ∧ Rep w L x C.toList := by
     unfold b9v at h1; split at h1
     · rename_i y hx
       rw [hx] at h3; simp only [Option.some.injEq] at h1; subst h1; obtain ⟨g, C, e, g1, g2, g3, g4, _⟩ : a6j w L (O t) y (B4 a t) := h3; exact ⟨g, C, e, g2, g3, g4⟩
     · cases h1
   obtain ⟨g, C, e, g1, g2, g3⟩ := hb; obtain ⟨v, hv, hr⟩ := a6c (off := 0) h2 g3 (b := g) (fun k u hk => by
     simp only [World.cell?, g2]; simpa using hk)
   refine ⟨v, ?_, .inr ⟨x, rfl, hr⟩⟩; have g1' : a.tmps.getD t undef = .pointer (some ⟨g, 0, none⟩) := g1; simp [evR, g1', asAddr, hv]
theorem b0N (hR : Rel P w0 L0 row w L O σ (B4 a)) : ∀ {rs : List ResultVar} {ys : List AV}, X1 P σ rs ys → ∃ vs, evs P w a.tmps rs vs ∧ ∀ (L' : Nat → Nat → Prop), Ext w L w L' → ∀ og, RCs P w L' og ys vs
 | [], ys, h => by
   simp only [X1] at h; subst h; exact ⟨[], by simp [evs], fun _ _ _ => by simp [RCs]⟩
 | r :: rs, [], h => h.elim
 | r :: rs, y :: ys, h => by
   obtain ⟨h1, h2⟩ := h; obtain ⟨v, hv, hy⟩ := b7I hR h1; obtain ⟨vs, hvs, hys⟩ := b0N hR h2; refine ⟨v :: vs, ⟨hv, hvs⟩, fun L' hx og => ?_⟩; simp only [RCs]; refine ⟨v, vs, rfl, ?_, hys L' hx og⟩; rcases hy with rfl | ⟨x, rfl, hr⟩
   · simp [RC]
   · simp only [RC]; exact hr.mono hx
theorem RCs.pack {og : Option Nat} : ∀ {ys : List AV} {vs : List Value}, RCs P w L og ys vs → RC P w L og (a2l ys) (a4o vs)
 | [], vs, h => by simp only [RCs] at h; subst h; simp only [a2l, a4o, RC]; exact ⟨[], rfl, by simp [RCs]⟩
 | [y], vs, h => by
   simp only [RCs] at h; obtain ⟨v, us, rfl, h1, rfl⟩ := h; exact h1
 | y :: z :: ys, vs, h => by
   have h' := h; simp only [RCs] at h; obtain ⟨v, us, rfl, h1, u, us2, rfl, h2, h3⟩ := h; simp only [a2l, a4o, RC]; exact ⟨_, rfl, h'⟩
theorem L9 {f : FuncId} {fn : Func} {c : Code} {args : List AV} {rv : ResultVar} {rs : List ResultVar} {r : AV} {ys : List AV} (F : Nat → Bool) (hm : P.follows .mixedOrders = true) (hf : P.funcs[f]? = some fn) (hname : (fn.name == "runtime.NumGoroutine") = false) (hb : fn.body = some c)
   (hres : fn.results = (rv :: rs).toArray) (hl : rs.length ≤ 3) (hargs : args.length ≤ fn.ntmps) (hok : a0j F fn.ntmps c = true) (harg : (args.all a6X) = true) (hone : a2K args = true)
   (h : vwp P F c (b5N P rv rs r ys) (a1N args)) : Ctr P f args (a2l (r :: ys)) := by
 refine ⟨enters_of hf hname hb, fun w L og vals hlok hgl hog hrc => ?_⟩; have hlen := hrc.length; refine calls_of_wp hf hb (wp_mono (K3 (n := fn.ntmps) hm c _ _ w hok ⟨L, _, a1N args, a6W hlok hgl hog hrc harg hone, rfl, ?_, h⟩) ?_)
 · simp; omega
 · rintro e a' w' ⟨L', O', σ', hR, hdef, hsz, he, hr, hy⟩; obtain ⟨v, L2, og2, hv, h1, h2, h3, h5, h4⟩ : ∃ v L2 og2, (evR a'.tmps rv).run P w' = .ok v w' ∧ (∀ b q, L2 b q → b < w'.heap.size) ∧ (∀ b q, b < w.heap.size → ¬ E9 og b → (L2 b q ↔ L b q)) ∧
       (∀ g, og2 = some g → g < w'.heap.size ∧ (w.heap.size ≤ g ∨ E9 og g)) ∧ Ext w' L' w' L2 ∧ RC P w' L2 og2 r v := by
     cases rv with
     | tmp t =>
       obtain ⟨L2, og2, h1, h2, h3, h5, h4⟩ := a9L hR (show a0c (σ' t) r from hr); exact ⟨B4 a' t, L2, og2, rfl, h1, h2, h3, h5, h4⟩
     | cell t ty =>
       obtain ⟨v, hv, hx⟩ := b7I hR (show a2a P σ' (.cell t ty) r from hr); refine ⟨v, L', none, hv, hR.lok, hR.old, by simp, fun _ _ h => ⟨h, fun _ hv => hv⟩, ?_⟩; rcases hx with rfl | ⟨x, rfl, hrx⟩
       · simp [RC]
       · simpa only [RC] using hrx
   obtain ⟨vs, hvs, hys⟩ := b0N hR hy; have h6 : RCs P w' L2 og2 (r :: ys) (v :: vs) := by
     simp only [RCs]; exact ⟨v, vs, rfl, h4, hys L2 h5 og2⟩
   have hrun := b0k (vs := v :: vs) hres (by simp; omega) (show evs P w' a'.tmps (rv :: rs) (v :: vs) from ⟨hv, hvs⟩); have hfin : a'.defers = [] ∧ ∃ v, (results fn a'.tmps).run P w' = .ok v w' ∧ (∃ v' L' og', Ending.returned v = .returned v' ∧ E8 w w' (E9 og) ∧ (∀ b q, L' b q → b < w'.heap.size) ∧ (∀ b q, b < w.heap.size → ¬ E9 og b → (L' b q ↔ L b q)) ∧
       (∀ g, og' = some g → g < w'.heap.size ∧ (w.heap.size ≤ g ∨ og = some g)) ∧ RC P w' L' og' (a2l (r :: ys)) v') :=
     ⟨hdef, _, hrun, _, L2, og2, rfl, hR.grown, h1, h2, h3, h6.pack⟩
   rcases he with rfl | rfl
   · exact hfin
   · exact hfin
theorem a3B {f : FuncId} {fn : Func} {c : Code} {args hs : List AV} {rs : List ResultVar} {Post : AV → List AV → Prop} (F : Nat → Bool) (hm : P.follows .mixedOrders = true) (hf : P.funcs[f]? = some fn) (hname : (fn.name == "runtime.NumGoroutine") = false) (hb : fn.body = some c)
   (hres : fn.results = rs.toArray) (hl : rs.length ≤ 4) (hargs : args.length ≤ fn.ntmps) (hok : a0j F fn.ntmps c = true) (harg : (args.all b5i) = true)
   (h : vwp P F c (b2p P rs Post) (A5 args hs)) : F5 P f args hs Post := by
 refine ⟨enters_of hf hname hb, fun w L vals hlok hgl hrc hh hap => ?_⟩; have hlen := hrc.length; refine calls_of_wp hf hb (wp_mono (K3 (n := fn.ntmps) hm c _ _ w hok ⟨L, _, A5 args hs, a9r hlok hgl hrc harg hh hap (fun x hx g hg => (hh x hx).lt hg), rfl, ?_, h⟩) ?_)
 · simp; omega
 · rintro e a' w' ⟨L', O', σ', hR, hdef, hsz, he, ys, ks, hnd, hks, hr, hpost⟩; have hks' : ∀ k ∈ ks, RH P w' L' (σ' k) ∧ ∀ g, B7 (σ' k) = some g → O' k = some g := by
     intro k hk; have hs := hR.slots k; have hH := hks k hk; have hrc : RC P w' L' (O' k) (σ' k) (B4 a' k) := by
       cases hx : σ' k <;> rw [hx] at hs hH <;> simp [isH] at hH <;> exact hs
     exact hrc.self hH
   have hmap : ∀ g, some g ∈ (ks.map σ').map B7 → ∃ k ∈ ks, O' k = some g := by
     intro g hg; simp only [map_map, mem_map, Function.comp_apply] at hg; obtain ⟨k, hk, hg⟩ := hg; exact ⟨k, hk, (hks' k hk).2 g hg⟩
   have hapart : ∀ (l : List Nat), l.Nodup → (∀ k ∈ l, ∀ g, B7 (σ' k) = some g → O' k = some g) → J7 ((l.map σ').map B7) := by
     intro l
     induction l with
     | nil => intro _ _; trivial
     | cons k l ih =>
       intro hn ho; rw [nodup_cons] at hn; refine ⟨fun g hg hm => ?_, ih hn.2 (fun k hk => ho k (by simp [hk]))⟩; simp only [map_map, mem_map, Function.comp_apply] at hm; obtain ⟨k', hk', hg'⟩ := hm; have e1 := ho k (by simp) g hg; have e2 := ho k' (by simp [hk']) g hg'; exact hn.1 (by rw [hR.inj k k' g e1 e2]; exact hk')
   obtain ⟨vs, hvs, hys⟩ := b0N hR hr; have hrun := b0k hres hl hvs; have hrc := (hys L' (fun _ _ h => ⟨h, fun _ hv => hv⟩) none).pack; have hfin : a'.defers = [] ∧ ∃ v, (results fn a'.tmps).run P w' = .ok v w' ∧ (∃ v' L' og r hs', Ending.returned v = .returned v' ∧ E8 w w' (fun b => some b ∈ hs.map B7) ∧ (∀ b q, L' b q → b < w'.heap.size) ∧ (∀ b q, b < w.heap.size → some b ∉ hs.map B7 → (L' b q ↔ L b q)) ∧
     (∀ g, some g ∈ og :: hs'.map B7 → g < w'.heap.size ∧ (w.heap.size ≤ g ∨ some g ∈ hs.map B7)) ∧ J7 (og :: hs'.map B7) ∧ RC P w' L' og r v' ∧ (∀ x ∈ hs', RH P w' L' x) ∧ Post r hs') := by
     refine ⟨hdef, _, hrun, _, L', none, a2l ys, ks.map σ', rfl, hR.grown, hR.lok, hR.old, fun g hg => ?_, ⟨fun g hg hm => (by cases hg), hapart ks hnd (fun k hk => (hks' k hk).2)⟩, hrc, fun x hx => ?_, hpost⟩
     · rcases mem_cons.1 hg with hg | hg
       · cases hg
       · obtain ⟨k, _, hk⟩ := hmap g hg; exact hR.olt k g hk
     · obtain ⟨k, hk, rfl⟩ := mem_map.1 hx; exact (hks' k hk).1
   rcases he with rfl | rfl
   · exact hfin
   · exact hfin
section
variable {rs : List ResultVar} {r : ResultVar} {y : AV} {ys : List AV} {t : Nat} {ty : TypeId}
@[simp] theorem d3k : b5N P r rs y ys .ret σ = (b6O P σ r y ∧ X1 P σ rs ys) := by simp [b5N]
@[simp] theorem c8w : b5N P r rs y ys .normal σ = (b6O P σ r y ∧ X1 P σ rs ys) := by simp [b5N]
@[simp] theorem d2l (Post : AV → List AV → Prop) : b2p P rs Post .ret σ = ∃ (ys : List AV) (ks : List Nat), ks.Nodup ∧ (∀ k ∈ ks, isH (σ k) = true) ∧ X1 P σ rs ys ∧ Post (a2l ys) (ks.map σ) := by simp [b2p]
@[simp] theorem c7u (Post : AV → List AV → Prop) : b2p P rs Post .normal σ = ∃ (ys : List AV) (ks : List Nat), ks.Nodup ∧ (∀ k ∈ ks, isH (σ k) = true) ∧ X1 P σ rs ys ∧ Post (a2l ys) (ks.map σ) := by simp [b2p]
@[simp] theorem d1s : X1 P σ [] ys = (ys = []) := rfl
@[simp] theorem c9O : X1 P σ (r :: rs) (y :: ys) = (a2a P σ r y ∧ X1 P σ rs ys) := rfl
@[simp] theorem d3X (x : D) : a2a P σ (.tmp t) (.d x) = (asD (σ t) = some x) := by simp [a2a]
@[simp] theorem d1B : a2a P σ (.tmp t) .undef = True := by simp [a2a]
@[simp] theorem d1Z (x : D) : a2a P σ (.cell t ty) (.d x) = (b9v (σ t) = some x ∧ tyk P ty = some (x.isAgg, A9 x)) := by simp [a2a]
@[simp] theorem d4f : b6O P σ (.tmp t) y = a0c (σ t) y := rfl
@[simp] theorem d0Y : b6O P σ (.cell t ty) y = a2a P σ (.cell t ty) y := rfl
@[simp] theorem d2H : a2l [y] = y := rfl
@[simp] theorem d1P : a2l [] = .tup [] := rfl
@[simp] theorem c9Y (z : AV) : a2l (y :: z :: ys) = .tup (y :: z :: ys) := rfl
end
end Go.Vw
namespace Go.Vw
open Go.RowKit Go.Proofs Go.Sort
theorem b9x {w w' : World} (h : E8 w w' noB) : ∃ q os', w' = grow (w.drewN q) os' := by
 refine ⟨w'.drawn - w.drawn, w'.heap.extract w.heap.size w'.heap.size, ?_⟩; have hh : w'.heap = w.heap ++ w'.heap.extract w.heap.size w'.heap.size := by
   apply Array.ext_getElem?
   intro i; rw [Array.getElem?_append]; split
   · rename_i hi; exact h.block i hi id
   · rename_i hi
     rw [Array.getElem?_extract]; split
     · congr 1; omega
     · rename_i h2
       rw [Array.getElem?_eq_none]; simp at h2; omega
 obtain ⟨he, ta, dr, os, ou⟩ := w'; have h1 := h.os; have h2 := h.tape; have h3 := h.output; have h4 := h.drawn; simp only at h1 h2 h3 h4 hh ⊢; subst h1 h2 h3; unfold grow World.drewN; simp only [World.mk.injEq]; refine ⟨hh, trivial, by omega, trivial, trivial⟩
def N7 {α : Type} [Inhabited α] (cf : α → α → Int) (l : List α) : List α := (pdq (ltOf cf) l.toArray 0 l.length (Lib.bitLen l.length) true true).toList
theorem a0m {α : Type} [Inhabited α] {cf : α → α → Int} (hO : SWO (ltOf cf)) (l : List α) : (N7 cf l).Perm l ∧ ∀ i j (hij : i < j) (hj : j < (N7 cf l).length), ltOf cf (N7 cf l)[j] ((N7 cf l)[i]'(by omega)) = false := by
 have h := pdq_sorts (ltOf cf) hO l.toArray 0 l.length (Lib.bitLen l.length) true true (Nat.zero_le _) (by simp) (Or.inl rfl); obtain ⟨⟨h1, h2, h3⟩, h4⟩ := h; have hs : (N7 cf l).length = l.length := (by simpa [N7] using h1); refine ⟨?_, fun i j hij hj => ?_⟩
 · have e1 : (pdq (ltOf cf) l.toArray 0 l.length (Lib.bitLen l.length) true true).extract 0 l.length = pdq (ltOf cf) l.toArray 0 l.length (Lib.bitLen l.length) true true := by
     apply Array.extract_eq_self_of_le; rw [h1]; simp
   rw [e1] at h3; simpa [N7] using h3
 · have := h4 i j (Nat.zero_le _) hij (by omega); have hj' : j < (pdq (ltOf cf) l.toArray 0 l.length (Lib.bitLen l.length) true true).size := (by simpa [N7] using hj); rw [getElem!_pos _ j hj', getElem!_pos _ i (by omega)] at this; simpa [N7] using this
structure c4U {α : Type} (dat : α → D) (enc : α → List Value) (k : Nat) : Prop where
 agg : ∀ x, (dat x).isAgg = true
 rep : ∀ w L x cs, Rep w L (dat x) cs ↔ cs = enc x
 len : ∀ x, (enc x).length = k
 one : ∀ x, ∀ v ∈ enc x, v.oneCell' = true
theorem c4U.only {α : Type} {dat : α → D} {enc : α → List Value} {k : Nat} (h : c4U dat enc k) {w : World} {L : Nat → Nat → Prop} : ∀ {l : List α} {css : List (List Value)}, A6 w L (l.map dat) css → css = l.map enc
 | [], css, hr => by simpa [A6] using hr
 | s :: l, css, hr => by
   simp only [map_cons, A6] at hr; obtain ⟨c, cs, rfl, h1, h2⟩ := hr; rw [(h.rep w L s c).1 h1, h.only h2]; rfl
structure a9C {α : Type} (dat : α → D) (enc : α → Value) : Prop where
 agg : ∀ x, (dat x).isAgg = false
 vagg : ∀ x, I4 (enc x) = false
 rep : ∀ w L x cs, Rep w L (dat x) cs ↔ cs = [enc x]
 one : ∀ x, (enc x).oneCell' = true
theorem a9C.reps {α : Type} {dat : α → D} {enc : α → Value} (h : a9C dat enc) (w : World) (L : Nat → Nat → Prop) : ∀ (l : List α), A6 w L (l.map dat) (l.map fun x => [enc x])
 | [] => by simp [A6]
 | s :: l => by
   simp only [map_cons, A6]; exact ⟨_, _, rfl, (h.rep w L s _).2 rfl, h.reps w L l⟩
theorem a9C.only {α : Type} {dat : α → D} {enc : α → Value} (h : a9C dat enc) {w : World} {L : Nat → Nat → Prop} : ∀ {l : List α} {css : List (List Value)}, A6 w L (l.map dat) css → css = l.map fun x => [enc x]
 | [], css, hr => by simpa [A6] using hr
 | s :: l, css, hr => by
   simp only [map_cons, A6] at hr; obtain ⟨c, cs, rfl, h1, h2⟩ := hr; rw [(h.rep w L s c).1 h1, h.only h2]; rfl
theorem a8u {α : Type} (enc : α → Value) (l : List α) : (l.map fun x => [enc x]).flatten = l.map enc := by
 induction l with
 | nil => rfl
 | cons x l ih => simp [ih]
theorem c0H : a9C D.str (fun s => Value.string ⟨s.toArray⟩) where
 agg _ := rfl
 vagg _ := rfl
 rep w L x cs := by simp [Rep]
 one x := by simp [Value.oneCell']
theorem b8L {P : Program} {ρ : Go.Shelf.Ren} (L6 : SlLaysF.n6 P ρ) {α : Type} [Inhabited α]
   (e : TypeId) (he : (P.info? (ety e)).map (·.size) = some 1) (hE : Enters P (ρ.f 6))
   (dat : α → D) (enc : α → Value) (hF : a9C dat enc) (cf : α → α → Int) (hO : SWO (ltOf cf)) (g : FuncId) (caps : List D) (hc : ∀ c ∈ caps, c.isAgg = false)
   (hcf : ∀ x y, Ctr P g ([.d (dat x), .d (dat y)] ++ caps.map .d) (.d (.int .i64 (cf x y))))
   (hnone : ∀ w cb, Calls P (ρ.f 6) #[.slice none 0 0, .func (.func g) #[] cb] w fun e w' => e = .returned (.tuple #[]) ∧ w' = w)
   (l : List α) (hl : l.length < 1000000) : a7u P (ρ.f 6) e (l.map dat) [.d (.clo g caps)] ((N7 cf l).map dat) := by
 refine ⟨hE, fun w L og v vals hlok hgl hown hrc => ?_⟩; simp only [RCs] at hrc; obtain ⟨cv, us, rfl, hc1, rfl⟩ := hrc; simp only [RC] at hc1; obtain ⟨ccs, hcc, rfl⟩ := a1m hc1; obtain ⟨css0, sz0, g1, g2, g3, g4, g5⟩ := id hown; rcases g4.2 with ⟨hv, hn⟩ | ⟨b, cap, cur, hv, _⟩
 · have hl0 : l = [] := (by simpa using hn); subst hl0; subst hv; refine (hnone w ccs.flatten.toArray).mono ?_; rintro e w' ⟨rfl, rfl⟩; have hnil : N7 cf [] = [] := Perm.eq_nil (a0m hO []).1; exact ⟨L, rfl, E8.refl _ _, hlok, fun _ _ _ _ => Iff.rfl, by rw [hnil]; exact hown⟩
 · subst hv; obtain ⟨css, h1, h2, h3, h4, h5⟩ := hown.holds; have hcss := hF.only h1; subst hcss; have B7 := hown.blk (g := b) rfl; have hH : Holds enc w b 0 l.toArray := fun j hj => by
     have h3' := h3 j (by rw [a8u]; simpa using hj); rw [a8u] at h3'; have : (l.map enc).toArray[j]! = enc l.toArray[j]! := by
       have hj' : j < l.length := (by simpa using hj); rw [getElem!_pos _ j (by simpa using hj'), getElem!_pos _ j (by simpa using hj')]; simp
     rw [this] at h3'; exact h3'
   have hW : ∀ m (os : Array Obj) (dk : Array α), sortWorld enc w b 0 m dk os = M4 w b m (dk.map enc) os := fun m os dk => by
     unfold M4 sortWorld; rw [a7f]
   have hcmp : CmpLays1 P g ccs.flatten.toArray enc cf b 0 l.toArray.size w := fun m os dk hdk x y => by
     rw [hW]; generalize dk.map enc = F; have hlok2 : ∀ c q, L c q → c < (M4 w b m F os).heap.size := fun c q hq => by rw [a5j]; have := hlok c q hq; omega
     have hext : Ext w L (M4 w b m F os) L := fun c q hq => ⟨hq, fun v hv => by
       have hne : c ≠ b := fun e => by subst e; exact B7.2 q hq
       rw [G7 (a4i w b m F os (hlok c q hq) hne)]; exact hv⟩
     have hrep : ∀ z, RepV (M4 w b m F os) L (dat z) (enc z) := fun z => RepV.of_cell ((hF.rep _ _ z _).2 rfl) (hF.agg z) (hF.vagg z)
     have := (hcf x y).2 (M4 w b m F os) L none ([enc x, enc y] ++ ccs.flatten) hlok2 (hgl.mono hext) (by simp) (RCs.append (by
       simp only [RCs]; exact ⟨_, _, rfl, hrep x, _, _, rfl, hrep y, rfl⟩) (a0M (A6.mono hext _ _ hcc) hc none))
     have hargs : (#[enc x, enc y] ++ ccs.flatten.toArray : Array Value) = ([enc x, enc y] ++ ccs.flatten).toArray := by apply Array.ext'; simp
     rw [hargs]; refine Calls.mono this ?_; rintro e w' ⟨v, L', og', rfl, hgr, _, _, _, hv⟩; obtain rfl := RepV.int_inv (show RepV w' L' (.int .i64 (cf x y)) v from hv); rw [noB_eq] at hgr; exact ⟨rfl, b9x hgr⟩
   have eg : ∀ args w, (callFunc g args).run P w = .ok (.enter g args) w := (hcf default default).1; have h := Any.slices_SortFunc_eq L6 enc (fun x => hF.one x) cf hO g ccs.flatten.toArray b 0 cap l.toArray w eg hcmp hH h4 (by simp; omega); simp only [size_toArray] at h; rw [length_map]; refine h.mono ?_; rintro e' w' ⟨rfl, n, os, rfl⟩; have hp := (a0m hO l).1; have hlen : (N7 cf l).length = l.length := hp.length_eq; have hs := hown.sorted hlok (hF.reps w L (N7 cf l)) (by simp [hlen]) (fun sz hsz c hc => by
     obtain ⟨s, _, rfl⟩ := mem_map.1 hc; rw [he] at hsz; simpa using hsz) n os (F := ((N7 cf l).map enc).toArray) (by rw [a8u])
   rw [length_map] at hs; rw [hW]; have e2 : (pdq (ltOf cf) l.toArray 0 l.length (Lib.bitLen l.length) true true).map enc = ((N7 cf l).map enc).toArray := by
     apply Array.ext'
     simp [N7]
   rw [e2]; refine ⟨L, rfl, ?_, hs.2.2, fun _ _ _ _ => Iff.rfl, hs.1⟩; rw [B7.1]; exact hs.2.1
end Go.Vw
namespace Go.Vw
open Go.RowKit Go.ChangeShapes Go.WideShapes
inductive Sh where
 | bool
 | int (k : IntKind)
 | str
 | sl (s : Sh)
 | agg (l : List Sh)
mutual
def Sh.okB (P : Program) : Sh → TypeId → Bool
 | .bool, t => match P.underlying t with
   | some .bool => true
   | _ => false
 | .int k, t => match P.underlying t with
   | some (.int k') => decide (k' = k)
   | _ => false
 | .str, t => match P.underlying t with
   | some .string => true
   | _ => false
 | .sl s, t => match P.underlying t with
   | some (.slice e) => Sh.okB P s e
   | _ => false
 | .agg l, t => match P.underlying t with
   | some (.struct fs) => Sh.okBs P l fs.toList
   | _ => false
def Sh.okBs (P : Program) : List Sh → List Field → Bool
 | [], fs => fs.isEmpty
 | s :: l, fs => match fs with
   | f :: fs => Sh.okB P s f.type && Sh.okBs P l fs
   | [] => false
end
mutual
def Sh.Fits : Sh → D → Prop
 | .bool, d => ∃ b, d = .bool b
 | .int k, d => ∃ n, d = .int k n ∧ (Lit.int k n).wf = true
 | .str, d => ∃ s : Str, d = .str s ∧ length s ≤ maxLen
 | .sl s, d => ∃ ds, d = .sl ds ∧ ds.length ≤ maxLen ∧ ∀ x ∈ ds, Sh.Fits s x
 | .agg l, d => ∃ ds, d = .agg ds ∧ Sh.FitsL l ds
def Sh.FitsL : List Sh → List D → Prop
 | [], ds => ds = []
 | s :: l, ds => ∃ x xs, ds = x :: xs ∧ Sh.Fits s x ∧ Sh.FitsL l xs
end
mutual
def toD {H : Type} : DataW H → D
 | .lit (.bool b) => .bool b
 | .lit (.int k n) => .int k n
 | .lit (.string s) => .str s
 | .lit _ => .nilp
 | .nil => .sl []
 | .slice e _ => .sl (a7a e)
 | .agg p => .agg (a7a p)
 | .ptr d => .ref (toD d)
 | _ => .nilp
def a7a {H : Type} : List (DataW H) → List D
 | [] => []
 | d :: l => toD d :: a7a l
end
theorem a5n {H : Type} : ∀ (l : List (DataW H)), a7a l = l.map toD
 | [] => by simp [a7a]
 | d :: l => by simp [a7a, a5n l]
mutual
def D.bulk : D → Nat
 | .str s => length s + 1
 | .sl ds => D.bulks ds + 1
 | .agg ds => D.bulks ds + 1
 | .ref d => D.bulk d + 1
 | _ => 1
def D.bulks : List D → Nat
 | [] => 0
 | d :: ds => D.bulk d + D.bulks ds
end
section
variable {H : Type} {u : DataW H → Nat} {ua : List (DataW H) → Nat}
mutual
theorem b7Y (h1 : ∀ x : DataW H, 1 ≤ u x) (h2 : ∀ s, u (.lit (.string s)) = s.length + 1) (h3 : ∀ e r, u (.slice e r) = ua e + ua r + 1) (h4 : ∀ p, u (.agg p) = ua p + 1) (h5 : ∀ d, u (.ptr d) = u d + 1)
   (h6 : ua [] = 0) (h7 : ∀ d l, ua (d :: l) = u d + ua l) : ∀ d : DataW H, (toD d).bulk ≤ u d
 | .lit (.bool b) => by simpa [toD, D.bulk] using h1 _
 | .lit (.int k n) => by simpa [toD, D.bulk] using h1 _
 | .lit (.string s) => by simp [toD, D.bulk, h2]
 | .lit (.float _ _) => by simpa [toD, D.bulk] using h1 _
 | .lit .nil => by simpa [toD, D.bulk] using h1 _
 | .nil => by simpa [toD, D.bulk, D.bulks] using h1 _
 | .slice e r => by
   have := b0H h1 h2 h3 h4 h5 h6 h7 e; simp only [toD, D.bulk, h3]; omega
 | .agg p => by
   have := b0H h1 h2 h3 h4 h5 h6 h7 p; simp only [toD, D.bulk, h4]; omega
 | .ptr d => by
   have := b7Y h1 h2 h3 h4 h5 h6 h7 d; simp only [toD, D.bulk, h5]; omega
 | .iface _ _ => by simpa [toD, D.bulk] using h1 _
 | .map _ => by simpa [toD, D.bulk] using h1 _
 | .held _ => by simpa [toD, D.bulk] using h1 _
theorem b0H (h1 : ∀ x : DataW H, 1 ≤ u x) (h2 : ∀ s, u (.lit (.string s)) = s.length + 1) (h3 : ∀ e r, u (.slice e r) = ua e + ua r + 1) (h4 : ∀ p, u (.agg p) = ua p + 1) (h5 : ∀ d, u (.ptr d) = u d + 1)
   (h6 : ua [] = 0) (h7 : ∀ d l, ua (d :: l) = u d + ua l) : ∀ l : List (DataW H), D.bulks (a7a l) ≤ ua l
 | [] => by simp [a7a, D.bulks]
 | d :: l => by
   have := b7Y h1 h2 h3 h4 h5 h6 h7 d; have := b0H h1 h2 h3 h4 h5 h6 h7 l; simp only [a7a, D.bulks, h7]; omega
end
end
def old (w : World) : Nat → Nat → Prop := fun b _ => b < w.heap.size
theorem b5U {α β : Type} {f : α → Option β} : ∀ {l : List α} {r : List β}, l.mapM f = some r → r.length = l.length ∧ ∀ (i : Nat) (x : α), l[i]? = some x → ∃ y, r[i]? = some y ∧ f x = some y
 | [], r, h => by simp at h; subst h; simp
 | a :: l, r, h => by
   simp only [mapM_cons, bind, Option.bind_eq_some_iff, pure, Option.some.injEq] at h; obtain ⟨y, hy, ys, hys, rfl⟩ := h; obtain ⟨h1, h2⟩ := b5U hys; refine ⟨by simp [h1], fun i x hi => ?_⟩; cases i with
   | zero => simp only [getElem?_cons_zero, Option.some.injEq] at hi; subst hi; exact ⟨y, rfl, hy⟩
   | succ i => simpa using h2 i x (by simpa using hi)
theorem a8A {w : World} {base : Nat} {a : Addr} {n : Nat} {cs : List Value} (h : w.cells? base a n = some cs) (hn : 0 < n) : a = ⟨a.block, a.off, none⟩ ∧ cs.length = n ∧ At w (old w) a.block a.off cs := by
 have hlt := World.cells?_block h hn; unfold World.cells? at h; split at h
 case isFalse => cases h
 obtain ⟨h1, h2⟩ := b5U h; simp only [length_range] at h1; have hsp : a.spot = none := by
   obtain ⟨v, _, hv⟩ := h2 0 0 (by simp [hn]); have e : a.add 0 = a := (by simp [Addr.add]); rw [e] at hv; cases hs : a.spot with
   | none => rfl
   | some k =>
     simp only [World.cell?] at hv; split at hv
     · simp [hs] at hv
     · cases hv
 have ha : a = ⟨a.block, a.off, none⟩ := by cases a; simp_all
 refine ⟨ha, h1, fun k v hk => ?_⟩; have hkn : k < n := by have := (List.getElem?_eq_some_iff.1 hk).1; omega
 obtain ⟨y, hy, hv⟩ := h2 k k (by simp [hkn]); have : y = v := Option.some.inj (hy.symm.trans hk); subst this; have e : a.add k = ⟨a.block, a.off + k, none⟩ := by
   unfold Addr.add; split
   · rename_i h0; subst h0; exact ha
   · rfl
 rw [e] at hv; exact ⟨hv, hlt⟩
theorem At.append {w : World} {L : Nat → Nat → Prop} {b o : Nat} {x y : List Value} (h : At w L b o x) (k : At w L b (o + x.length) y) : At w L b o (x ++ y) := by
 intro j v hj; by_cases hlt : j < x.length
 · rw [getElem?_append_left hlt] at hj; exact h j v hj
 · rw [getElem?_append_right (by omega)] at hj; have := k _ v hj; rw [show o + x.length + (j - x.length) = o + j by omega] at this; exact this
theorem At.row {w : World} {L : Nat → Nat → Prop} {b c : Nat} : ∀ {css : List (List Value)} {o : Nat}, (∀ (i : Nat) (x : List Value), css[i]? = some x → x.length = c ∧ At w L b (o + i * c) x) → At w L b o css.flatten
 | [], o, _ => by intro j v hj; simp at hj
 | x :: css, o, h => by
   have h0 := h 0 x rfl; simp only [Nat.zero_mul, Nat.add_zero] at h0; rw [flatten_cons]; refine h0.2.append (At.row (c := c) fun i y hy => ?_); have := h (i + 1) y (by simpa using hy); rw [h0.1]; rw [show o + (i + 1) * c = o + c + i * c by rw [Nat.add_mul]; omega] at this; exact this
theorem A6.of_get {w : World} {L : Nat → Nat → Prop} : ∀ {ds : List D} {css : List (List Value)}, css.length = ds.length → (∀ (i : Nat) (c : List Value) (d : D), css[i]? = some c → ds[i]? = some d → Rep w L d c) → A6 w L ds css
 | [], [], _, _ => by simp [A6]
 | d :: ds, c :: css, hl, h => by
   simp only [A6]; exact ⟨c, css, rfl, h 0 c d rfl rfl, A6.of_get (by simpa using hl) fun i c' d' h1 h2 => h (i + 1) c' d' (by simpa using h1) (by simpa using h2)⟩
theorem a9Z (c : Field → Nat) (cs : List Value) : ∀ (fs : List Field) (o : Nat), (∀ j f, fs[j]? = some f → f.offset = o + ((fs.take j).map c).sum) → o + (fs.map c).sum = cs.length →
   (fs.map fun f => (cs.drop f.offset).take (c f)).flatten = cs.drop o
 | [], o, _, h => by
   simp only [map_nil, sum_nil, Nat.add_zero] at h; simp [drop_eq_nil_of_le (Nat.le_of_eq h.symm)]
 | f :: fs, o, h1, h2 => by
   have e := h1 0 f rfl; simp only [take_zero, map_nil, sum_nil, Nat.add_zero] at e; simp only [map_cons, sum_cons] at h2; rw [map_cons, flatten_cons, a9Z c cs fs (o + c f) (fun j g hj => by
     have := h1 (j + 1) g (by simpa using hj); simp only [take_succ_cons, map_cons, sum_cons] at this; omega) (by omega), e]
   conv => rhs; rw [← take_append_drop (c f) (cs.drop o)]
   rw [drop_drop]
section
variable {H : Type} {enc : TypeId × Value → H} {P : Program} {w : World} {sp : Nat → Bool} {held : Bool} {T : TypeId → Prop}
mutual
theorem a6I (K : Kids P T) (hz : ∀ t e, T t → P.underlying t = some (.slice e) → 0 < P.cellsOf e) : ∀ (s : Sh) {n : Nat} {t : TypeId} {cs : List Value} {x : DataW H × List MemPlace}, T t → Sh.okB P s t = true →
   DataW.trod enc P w 0 sp held n t cs = some x → Rep w (old w) (toD x.1) cs ∧ Sh.Fits s (toD x.1)
 | .bool, n, t, cs, x, hT, hok, h => by
   simp only [Sh.okB] at hok; split at hok
   case h_2 => cases hok
   rename_i hu
   obtain ⟨b, rfl, rfl⟩ := DataW.trod_bool hu h; simp [toD, Rep, Sh.Fits]
 | .int k, n, t, cs, x, hT, hok, h => by
   simp only [Sh.okB] at hok; split at hok
   case h_2 => cases hok
   rename_i k' hu
   have hk : k' = k := (by simpa using hok); subst hk; obtain ⟨m, rfl, rfl, hw⟩ := DataW.trod_int hu h; simp [toD, Rep, Sh.Fits, hw]
 | .str, n, t, cs, x, hT, hok, h => by
   simp only [Sh.okB] at hok; split at hok
   case h_2 => cases hok
   rename_i hu
   obtain ⟨s, rfl, rfl, hw⟩ := DataW.trod_string hu h; refine ⟨by simp [toD, Rep], ?_⟩; simp only [toD, Sh.Fits]; exact ⟨_, rfl, by rw [Array.length_toList]; exact hw⟩
 | .sl s, n, t, cs, x, hT, hok, h => by
   simp only [Sh.okB] at hok; split at hok
   case h_2 => cases hok
   rename_i e hu
   have hTe := K.slice hT hu; have hpos := hz t e hT hu; rcases DataW.trod_slice hu h with ⟨rfl, rfl⟩ | ⟨a, len, cap, elems, rest, m, _, rfl, rfl, hb, hl, hm, hlen, hel, _, _⟩
   · refine ⟨?_, ?_⟩
     · simp only [toD, Rep]; exact ⟨none, 0, [], 0, rfl, rfl, by simp, by simp, fun h => absurd rfl h⟩
     · simp only [toD, Sh.Fits]; exact ⟨[], rfl, by simp, by simp⟩
   · have each : ∀ i (hi : i < elems.length), ∃ c, w.cells? 0 (a.add (i * P.cellsOf e)) (P.cellsOf e) = some c ∧ DataW.trod enc P w 0 sp held m e c = some elems[i] := fun i hi => by
       have := hel i (by omega); rw [getElem?_eq_getElem hi, Option.bind_eq_some_iff] at this; exact this
     have fit : ∀ i (hi : i < elems.length), ∃ c, w.cells? 0 (a.add (i * P.cellsOf e)) (P.cellsOf e) = some c ∧ Rep w (old w) (toD elems[i].1) c ∧ Sh.Fits s (toD elems[i].1) := fun i hi => by
       obtain ⟨c, h1, h2⟩ := each i hi; exact ⟨c, h1, a6I K hz s hTe hok h2⟩
     have hD : toD (H := H) (.slice (elems.map (·.1)) (rest.map (·.1))) = .sl (elems.map fun y => toD y.1) := by
       simp [toD, a5n, Function.comp_def]
     rw [hD]; refine ⟨?_, ?_⟩
     · simp only [Rep]; refine ⟨some a, cap, (List.range elems.length).map (fun i => (w.cells? 0 (a.add (i * P.cellsOf e)) (P.cellsOf e)).getD []), P.cellsOf e, by simp [hlen], ?_, ?_, by simp; omega, ?_⟩
       · refine A6.of_get (by simp) fun i c d h1 h2 => ?_
         have hi : i < elems.length := by have := (List.getElem?_eq_some_iff.1 h1).1; simpa using this
         obtain ⟨c', g1, g2, _⟩ := fit i hi; simp only [getElem?_map, getElem?_range hi, Option.map_some, Option.some.injEq, g1, Option.getD_some] at h1; simp only [getElem?_map, getElem?_eq_getElem hi, Option.map_some, Option.some.injEq] at h2; rw [← h1, ← h2]; exact g2
       · intro c hc; obtain ⟨i, hi, rfl⟩ := mem_map.1 hc; have hi : i < elems.length := (by simpa using hi); obtain ⟨c', g1, _⟩ := fit i hi; rw [g1]; exact (a8A g1 hpos).2.1
       · intro hne; have h0 : 0 < elems.length := by
           cases elems with
           | nil => exact absurd rfl hne
           | cons _ _ => simp
         obtain ⟨c0, g0, _⟩ := fit 0 h0; have ha := (a8A g0 hpos).1; have ha' : a.add (0 * P.cellsOf e) = a := (by simp [Addr.add]); rw [ha'] at ha; refine ⟨a.block, a.off, by rw [← ha], At.row (c := P.cellsOf e) fun i x hx => ?_⟩; have hi : i < elems.length := by have := (List.getElem?_eq_some_iff.1 hx).1; simpa using this
         obtain ⟨c', g1, _⟩ := fit i hi; simp only [getElem?_map, getElem?_range hi, Option.map_some, Option.some.injEq, g1, Option.getD_some] at hx; obtain ⟨_, g2, g3⟩ := a8A g1 hpos; rw [← hx]; refine ⟨g2, ?_⟩; have e1 : (a.add (i * P.cellsOf e)).block = a.block := by unfold Addr.add; split <;> rfl
         have e2 : (a.add (i * P.cellsOf e)).off = a.off + i * P.cellsOf e := by
           unfold Addr.add; split
           · rename_i h; rw [h]; rfl
           · rfl
         rw [e1, e2] at g3; exact g3
     · simp only [Sh.Fits]; refine ⟨_, rfl, by simp; omega, fun d hd => ?_⟩; obtain ⟨y, hy, rfl⟩ := mem_map.1 hd; obtain ⟨i, hi, rfl⟩ := mem_iff_getElem.1 hy; obtain ⟨_, _, _, g⟩ := fit i hi; exact g
 | .agg l, n, t, cs, x, hT, hok, h => by
   simp only [Sh.okB] at hok; split at hok
   case h_2 => cases hok
   rename_i fs hu
   obtain ⟨k1, k2, k3⟩ := K.struct hT hu; obtain ⟨xs, m, _, rfl, hcs, hxs, hf⟩ := DataW.trod_struct hu h; have := b4u K hz l (fs := fs.toList) (xs := xs) (g := fun f => (cs.drop f.offset).take (P.cellsOf f.type)) k1 hok (by simpa using hxs) (fun i f hi => hf i f (by simpa using hi)); have hD : toD (H := H) (.agg (xs.map (·.1))) = .agg (xs.map fun y => toD y.1) := by simp [toD, a5n, Function.comp_def]
   rw [hD]; refine ⟨?_, ?_⟩
   · simp only [Rep]; refine ⟨_, this.1, ?_⟩; rw [a9Z (fun f => P.cellsOf f.type) cs fs.toList 0 (fun j f hj => by rw [k3 j f hj]; omega) (by rw [hcs, k2]; omega)]; simp
   · simp only [Sh.Fits]; exact ⟨_, rfl, this.2⟩
theorem b4u (K : Kids P T) (hz : ∀ t e, T t → P.underlying t = some (.slice e) → 0 < P.cellsOf e) : ∀ (l : List Sh) {n : Nat} {fs : List Field} {xs : List (DataW H × List MemPlace)} {g : Field → List Value},
   (∀ f ∈ fs, T f.type) → Sh.okBs P l fs = true → xs.length = fs.length → (∀ (i : Nat) (f : Field), fs[i]? = some f → DataW.trod enc P w 0 sp held n f.type (g f) = xs[i]?) →
   A6 w (old w) (xs.map fun y => toD y.1) (fs.map g) ∧ Sh.FitsL l (xs.map fun y => toD y.1)
 | [], n, fs, xs, g, hT, hok, hl, hf => by
   simp only [Sh.okBs, isEmpty_iff] at hok; subst hok; have : xs = [] := (by simpa using hl); subst this; simp [A6, Sh.FitsL]
 | s :: l, n, fs, xs, g, hT, hok, hl, hf => by
   cases fs with
   | nil => simp [Sh.okBs] at hok
   | cons f fs =>
     simp only [Sh.okBs, Bool.and_eq_true] at hok; cases xs with
     | nil => simp at hl
     | cons x xs =>
       have h0 := hf 0 f rfl; simp only [getElem?_cons_zero] at h0; have a := a6I K hz s (hT f (by simp)) hok.1 h0; have b := b4u K hz l (fun f' hf' => hT f' (by simp [hf'])) hok.2 (by simpa using hl) (fun i f' hi => by simpa using hf (i + 1) f' (by simpa using hi)); simp only [map_cons, A6, Sh.FitsL]; exact ⟨⟨_, _, rfl, a.1, b.1⟩, _, _, rfl, a.2, b.2⟩
end
theorem c4m {P : Program} : ∀ {s : Sh} {t : TypeId} {w : World} {base : Nat} {v : Value} {d : D}, Sh.okB P s t = true → Sh.Fits s d → Value.okWide P w .any base t v → I4 v = d.isAgg
 | .bool, t, w, base, v, d, hok, hf, hv => by
   simp only [Sh.okB] at hok; split at hok
   case h_2 => cases hok
   rename_i hu
   obtain ⟨b, rfl⟩ := okWide_bool hu hv; simp only [Sh.Fits] at hf; obtain ⟨b, rfl⟩ := hf; rfl
 | .int k, t, w, base, v, d, hok, hf, hv => by
   simp only [Sh.okB] at hok; split at hok
   case h_2 => cases hok
   rename_i hu
   obtain ⟨b, rfl⟩ := okWide_int hu hv; simp only [Sh.Fits] at hf; obtain ⟨b, rfl, _⟩ := hf; rfl
 | .str, t, w, base, v, d, hok, hf, hv => by
   simp only [Sh.okB] at hok; split at hok
   case h_2 => cases hok
   rename_i hu
   obtain ⟨b, rfl⟩ := okWide_string hu hv; simp only [Sh.Fits] at hf; obtain ⟨b, rfl, _⟩ := hf; rfl
 | .sl s, t, w, base, v, d, hok, hf, hv => by
   simp only [Sh.okB] at hok; split at hok
   case h_2 => cases hok
   rename_i hu
   obtain ⟨a, b, c, rfl⟩ := okWide_slice hu hv; simp only [Sh.Fits] at hf; obtain ⟨b, rfl, _⟩ := hf; rfl
 | .agg l, t, w, base, v, d, hok, hf, hv => by
   simp only [Sh.okB] at hok; split at hok
   case h_2 => cases hok
   rename_i hu
   obtain ⟨a, rfl, _⟩ := okWide_struct hu hv; simp only [Sh.Fits] at hf; obtain ⟨b, rfl, _⟩ := hf; rfl
def a7j (P : Program) : List Sh → List TypeId → Bool
 | [], [] => true
 | s :: l, t :: ts => Sh.okB P s t && a7j P l ts
 | _, _ => false
theorem open_args (K : Kids P T) (hz : ∀ t e, T t → P.underlying t = some (.slice e) → 0 < P.cellsOf e) {base : Nat} : ∀ {l : List Sh} {ts : List TypeId} {vs : List Value} {ds : List (DataW H)} {p : List MemPlace},
   a7j P l ts = true → (∀ t ∈ ts, T t) → (∀ (j : Nat) t v, ts[j]? = some t → vs[j]? = some v → Value.okWide P w .any base t v) → DataW.TrodAll enc P w 0 sp held ts vs ds p →
   RCs P w (old w) none ((ds.map toD).map AV.d) vs ∧ Sh.FitsL l (ds.map toD)
 | [], [], vs, ds, p, _, _, _, h => by
   obtain ⟨rfl, rfl, rfl⟩ := trodAll_nil h; simp [RCs, Sh.FitsL]
 | [], _ :: _, _, _, _, h, _, _, _ => by simp [a7j] at h
 | _ :: _, [], _, _, _, h, _, _, _ => by simp [a7j] at h
 | s :: l, t :: ts, vs, ds, p, hok, hT, hv, h => by
   simp only [a7j, Bool.and_eq_true] at hok; obtain ⟨v, vs1, d, ds1, a, b, rfl, rfl, rfl, ⟨n, h1⟩, h2⟩ := trodAll_cons h; have g1 := a6I K hz s (hT t (by simp)) hok.1 h1; have g2 := open_args K hz hok.2 (fun t' ht' => hT t' (by simp [ht'])) (fun j t' v' h1 h2 => hv (j + 1) t' v' (by simpa using h1) (by simpa using h2)) h2; have g3 := c4m hok.1 g1.2 (hv 0 t v rfl rfl); simp only [map_cons, RCs, Sh.FitsL]; exact ⟨⟨v, vs1, rfl, by simp only [RC]; exact ⟨g1.1, g3⟩, g2.1⟩, _, _, rfl, g1.2, g2.2⟩
end
theorem b6C {P : Program} {w : World} : ∀ {l : List (String × DataW Unit)} {ps : List MemPlace} {n : String} {d : DataW Unit}, DataW.LaidVars P w l ps → (n, d) ∈ l →
   ∃ g t cs fuel p, P.globalNamed n = some g ∧ (P.globals[g]?).map (·.type) = some t ∧ w.var? P n = some cs ∧ DataW.trod (fun _ => ()) P w 0 (fun _ => true) false fuel t cs.toList = some (d, p)
 | [], _, _, _, _, hm => by simp at hm
 | (m, e) :: r, ps, n, d, h, hm => by
   obtain ⟨g, t, cs, fuel, p, q, h1, h2, h3, h4, h5, _⟩ := h; rcases mem_cons.1 hm with hm | hm
   · simp only [Prod.mk.injEq] at hm; obtain ⟨rfl, rfl⟩ := hm; exact ⟨g, t, cs, fuel, p, h1, h2, h3, h4⟩
   · exact b6C h5 hm
theorem gl_of_laid {P : Program} {w : World} {T : TypeId → Prop} (K : Kids P T) (hz : ∀ t e, T t → P.underlying t = some (.slice e) → 0 < P.cellsOf e) {laid : List (String × DataW Unit)} (hm : laidMet P laid w) {dw : DataW Unit} {nm : String} {D0 : D} {sh : Sh}
   (hmem : (nm, dw) ∈ laid) (hd : toD dw = D0) {g t : Nat} (h1 : P.globalNamed nm = some g) (h2 : (P.globals[g]?).map (·.type) = some t) (hT : T t) (hok : Sh.okB P sh t = true) (hg : ∀ g' d, a8J P g' = some d → g' = g ∧ d = D0) : GL P w (old w) := by
 obtain ⟨ps, hv, _⟩ := hm; obtain ⟨g', t', cs, fuel, p, q1, q2, q3, q4⟩ := b6C hv hmem; rw [h1] at q1; obtain rfl : g = g' := Option.some.inj q1; rw [h2] at q2; obtain rfl : t = t' := Option.some.inj q2; intro g2 d hgd; obtain ⟨rfl, rfl⟩ := hg g2 d hgd; obtain ⟨hr, _⟩ := a6I (enc := fun _ => ()) K hz sh hT hok q4; rw [show toD (dw, p).1 = _ from hd] at hr; refine ⟨_, hr, fun k v hk => ?_⟩; simp only [World.var?, h1, Option.bind_some] at q3; have hh : ∃ ty fr, w.heap[g2]? = some (.cells cs ty fr) := by
   revert q3
   cases w.heap[g2]? with
   | none => simp
   | some o => cases o with
     | cells c ty fr => intro q; simp only [Option.some.injEq] at q; subst q; exact ⟨_, _, rfl⟩
     | _ => simp
 obtain ⟨ty, fr, hh⟩ := hh; refine ⟨?_, (Array.getElem?_eq_some_iff.1 hh).1⟩; simp only [World.cell?, hh]; simpa using hk
mutual
def D.lim (R : Nat) : D → Prop
 | .str s => length s ≤ R
 | .sl ds => ds.length ≤ R ∧ D.lims R ds
 | .agg ds => D.lims R ds
 | .ref d => D.lim R d
 | _ => True
def D.lims (R : Nat) : List D → Prop
 | [] => True
 | d :: ds => D.lim R d ∧ D.lims R ds
end
theorem D.lims_mem {R : Nat} : ∀ {l : List D}, D.lims R l ↔ ∀ d ∈ l, D.lim R d
 | [] => by simp [D.lims]
 | d :: l => by simp [D.lims, D.lims_mem (l := l)]
section
variable {H : Type} {enc : TypeId × Value → H} {P : Program} {w : World} {sp : Nat → Bool} {held : Bool} {T : TypeId → Prop} {R : Nat}
theorem a6r {e : TypeId} : ∀ {l : List (DataW H)} {d : DataW H} {y : Nat}, d ∈ l → y ∈ d.weights P e → y ∈ DataW.weightsAll P e l
 | d' :: l, d, y, h, hy => by
   simp only [DataW.weightsAll, mem_append]; rcases mem_cons.1 h with rfl | h
   · exact .inl hy
   · exact .inr (a6r h hy)
mutual
theorem b2G (K : Kids P T) (hb : ∀ t e, T t → P.underlying t = some (.slice e) → 0 < P.bytesOf e) : ∀ (s : Sh) {n : Nat} {t : TypeId} {cs : List Value} {x : DataW H × List MemPlace}, T t → Sh.okB P s t = true →
   DataW.trod enc P w 0 sp held n t cs = some x → (∀ y ∈ x.1.weights P t, y ≤ R) → D.lim R (toD x.1)
 | .bool, n, t, cs, x, hT, hok, h, hw => by
   simp only [Sh.okB] at hok; split at hok
   case h_2 => cases hok
   rename_i hu
   obtain ⟨b, rfl, rfl⟩ := DataW.trod_bool hu h; simp [toD, D.lim]
 | .int k, n, t, cs, x, hT, hok, h, hw => by
   simp only [Sh.okB] at hok; split at hok
   case h_2 => cases hok
   rename_i k' hu
   obtain ⟨m, rfl, rfl, _⟩ := DataW.trod_int hu h; simp [toD, D.lim]
 | .str, n, t, cs, x, hT, hok, h, hw => by
   simp only [Sh.okB] at hok; split at hok
   case h_2 => cases hok
   rename_i hu
   obtain ⟨s, rfl, rfl, _⟩ := DataW.trod_string hu h; simp only [toD, D.lim]; exact hw _ (by simp [DataW.weights])
 | .sl s, n, t, cs, x, hT, hok, h, hw => by
   simp only [Sh.okB] at hok; split at hok
   case h_2 => cases hok
   rename_i e hu
   have hTe := K.slice hT hu; rcases DataW.trod_slice hu h with ⟨rfl, rfl⟩ | ⟨a, len, cap, elems, rest, m, _, rfl, rfl, _, hl, hm, hlen, hel, _, _⟩
   · simp [toD, D.lim, D.lims]
   · have hD : toD (H := H) (.slice (elems.map (·.1)) (rest.map (·.1))) = .sl (elems.map fun y => toD y.1) := by
       simp [toD, a5n, Function.comp_def]
     simp only [DataW.weights, hu, mem_cons, mem_append] at hw; rw [hD]; simp only [D.lim, D.lims_mem]; refine ⟨?_, fun d hd => ?_⟩
     · have h1 := hw _ (.inl rfl); have h2 := hb t e hT hu; have h3 : elems.length * 1 ≤ (elems.length + rest.length) * P.bytesOf e := Nat.mul_le_mul (by omega) h2; simp only [length_map] at h1 ⊢; omega
     · obtain ⟨y, hy, rfl⟩ := mem_map.1 hd; obtain ⟨i, hi, rfl⟩ := mem_iff_getElem.1 hy; have h1 := hel i (by omega); rw [getElem?_eq_getElem hi, Option.bind_eq_some_iff] at h1; obtain ⟨c, _, h2⟩ := h1; exact b2G K hb s hTe hok h2 fun z hz => hw z (.inr (.inl (a6r (mem_map.2 ⟨_, hy, rfl⟩) hz)))
 | .agg l, n, t, cs, x, hT, hok, h, hw => by
   simp only [Sh.okB] at hok; split at hok
   case h_2 => cases hok
   rename_i fs hu
   obtain ⟨k1, _, _⟩ := K.struct hT hu; obtain ⟨xs, m, _, rfl, _, hxs, hf⟩ := DataW.trod_struct hu h; have hD : toD (H := H) (.agg (xs.map (·.1))) = .agg (xs.map fun y => toD y.1) := by simp [toD, a5n, Function.comp_def]
   simp only [DataW.weights, hu] at hw; rw [hD]; simp only [D.lim]; exact b5g K hb l (fs := fs.toList) (xs := xs) (g := fun f => (cs.drop f.offset).take (P.cellsOf f.type)) k1 hok (by simpa using hxs) (fun i f hi => hf i f (by simpa using hi)) hw
theorem b5g (K : Kids P T) (hb : ∀ t e, T t → P.underlying t = some (.slice e) → 0 < P.bytesOf e) : ∀ (l : List Sh) {n : Nat} {fs : List Field} {xs : List (DataW H × List MemPlace)} {g : Field → List Value},
   (∀ f ∈ fs, T f.type) → Sh.okBs P l fs = true → xs.length = fs.length → (∀ (i : Nat) (f : Field), fs[i]? = some f → DataW.trod enc P w 0 sp held n f.type (g f) = xs[i]?) →
   (∀ y ∈ DataW.weightsEach P (fs.map (·.type)) (xs.map (·.1)), y ≤ R) → D.lims R (xs.map fun y => toD y.1)
 | [], n, fs, xs, g, hT, hok, hl, hf, hw => by
   simp only [Sh.okBs, isEmpty_iff] at hok; subst hok; have : xs = [] := (by simpa using hl); subst this; simp [D.lims]
 | s :: l, n, fs, xs, g, hT, hok, hl, hf, hw => by
   cases fs with
   | nil => simp [Sh.okBs] at hok
   | cons f fs =>
     simp only [Sh.okBs, Bool.and_eq_true] at hok; cases xs with
     | nil => simp at hl
     | cons x xs =>
       have h0 := hf 0 f rfl; simp only [getElem?_cons_zero] at h0; simp only [map_cons, DataW.weightsEach, mem_append] at hw; simp only [map_cons, D.lims]; exact ⟨b2G K hb s (hT f (by simp)) hok.1 h0 fun y hy => hw y (.inl hy), b5g K hb l (fun f' hf' => hT f' (by simp [hf'])) hok.2 (by simpa using hl) (fun i f' hi => by simpa using hf (i + 1) f' (by simpa using hi)) fun y hy => hw y (.inr hy)⟩
end
theorem lim_args (K : Kids P T) (hb : ∀ t e, T t → P.underlying t = some (.slice e) → 0 < P.bytesOf e) : ∀ {l : List Sh} {ts : List TypeId} {vs : List Value} {ds : List (DataW H)} {p : List MemPlace},
   a7j P l ts = true → (∀ t ∈ ts, T t) → DataW.TrodAll enc P w 0 sp held ts vs ds p → (∀ y ∈ DataW.weightsEach P ts ds, y ≤ R) → D.lims R (ds.map toD)
 | [], [], vs, ds, p, _, _, h, _ => by
   obtain ⟨rfl, rfl, rfl⟩ := trodAll_nil h; simp [D.lims]
 | [], _ :: _, _, _, _, h, _, _, _ => by simp [a7j] at h
 | _ :: _, [], _, _, _, h, _, _, _ => by simp [a7j] at h
 | s :: l, t :: ts, vs, ds, p, hok, hT, h, hw => by
   simp only [a7j, Bool.and_eq_true] at hok; obtain ⟨v, vs1, d, ds1, a, b, rfl, rfl, rfl, ⟨n, h1⟩, h2⟩ := trodAll_cons h; simp only [DataW.weightsEach, mem_append] at hw; simp only [map_cons, D.lims]; exact ⟨b2G K hb s (hT t (by simp)) hok.1 h1 fun y hy => hw y (.inl hy), lim_args K hb hok.2 (fun t' ht' => hT t' (by simp [ht'])) h2 fun y hy => hw y (.inr hy)⟩
end
theorem bytes_full_of (P : Program) (h : ((List.range P.types.size).all fun t => match P.underlying t with | some (.slice e) => decide (0 < P.bytesOf e) | _ => true) = true) :
   ∀ t e, t < P.types.size → P.underlying t = some (.slice e) → 0 < P.bytesOf e := by
 intro t e hl ht; have := all_eq_true.1 h t (mem_range.2 hl); rw [ht] at this; simpa using this
theorem law_post {H : Type} {enc : TypeId × Value → H} {P : Program} {fn : Func} {s : ChangeSpec} {apart fresh handsOn F0 : Bool} {W W' : World} {args : Array Value} {ds gs : List (DataW H)} {before : List MemPlace} {tb : TypeId}
   (K : Kids P (· < P.types.size)) (hz : ∀ t e, t < P.types.size → P.underlying t = some (.slice e) → 0 < P.cellsOf e) (hts : ∀ t ∈ fn.params.toList, t < P.types.size)
   (hvars : s.vars = []) (hs : ds.length = fn.params.size → s.fn H ds = { results := [.lit (.bool true)], args := ds }) (hres : fn.resultTypes = #[tb]) (htb : P.underlying tb = some .bool)
   (hW : DataW.Whole enc P fn.params.toList s.vars apart W args.toList ds gs before) (hg : E8 W W' noB) :
   s.post enc P fn apart fresh handsOn F0 W args (.bool true) W' := by
 have hold : ∀ p ∈ before, (fun b => decide (b < W.heap.size)) p.block = true := fun p hp => by simpa using hW.lt p hp
 have hlt := hW.lt; obtain ⟨pa, pv, hA, hV, rfl, hz', hn⟩ := id hW; rw [hvars] at hV; obtain ⟨rfl, rfl⟩ := trodVars_none hV; simp only [append_nil] at *; have hlen : ds.length = fn.params.size := by
   have : ∀ {ts : List TypeId} {vs : List Value} {ds : List (DataW H)} {p : List MemPlace}, DataW.TrodAll enc P W 0 (fun _ => true) true ts vs ds p → ds.length = ts.length := by
     intro ts
     induction ts with
     | nil => intro vs ds p h; obtain ⟨_, rfl, _⟩ := trodAll_nil h; rfl
     | cons t ts ih => intro vs ds p h; obtain ⟨v, vs1, d, ds1, a, b, rfl, rfl, rfl, _, h2⟩ := trodAll_cons h; simp [ih h2]
   simpa using this hA
 have hfn := hs hlen; have hcell : ∀ b o, b < W.heap.size → W'.cell? ⟨b, o, none⟩ = W.cell? ⟨b, o, none⟩ := fun b o hb => by
   simp only [World.cell?, hg.block b hb (fun h => h)]
 have carry : ∀ {sp : Nat → Bool} {ts : List TypeId} {vs : List Value} {ds : List (DataW H)} {p : List MemPlace}, (∀ x ∈ p, x.block < W.heap.size) → DataW.TrodAll enc P W 0 sp true ts vs ds p → DataW.TrodAll enc P W' 0 sp true ts vs ds p := by
   intro sp ts
   induction ts with
   | nil => intro vs ds p _ h; obtain ⟨rfl, rfl, rfl⟩ := trodAll_nil h; rfl
   | cons t ts ih =>
     intro vs ds p hp h; obtain ⟨v, vs1, d, ds1, a, b, rfl, rfl, rfl, ⟨n, h1⟩, h2⟩ := trodAll_cons h; refine ⟨a, b, ⟨n, DataW.trod_carry n _ _ _ h1 fun x hx => ?_⟩, ih (fun x hx => hp x (by simp [hx])) h2, rfl⟩; have hb := hp x (by simp [hx]); cases x with
     | cell b o => exact hcell b o hb
     | map b => exact hg.block b hb (fun h => h)
 have hres' : ∀ (b : Nat) (sp : Nat → Bool) (hd : Bool), DataW.TrodAll enc P W' b sp hd fn.resultTypes.toList ((Value.bool true).resultList fn.resultTypes.size) (s.fn H ds).results [] := fun b sp hd => by
   rw [hfn, hres]; exact trodAll_mk1 (shut_bool htb true)
 have hargs : ∀ sp : Nat → Bool, (∀ p ∈ pa, sp p.block = true) → DataW.TrodAll enc P W' 0 sp true fn.params.toList args.toList (s.fn H ds).args pa := fun sp hsp => by
   rw [hfn]; exact carry hlt (hA.respare K hz hts hsp)
 have hvars' : ∀ sp : Nat → Bool, DataW.TrodVars enc P W' sp s.vars (s.fn H ds).vars [] := fun sp => by
   rw [hfn, hvars]; rfl
 have hkept : W.keptBut W' (· ∈ pa) := by
   have h0 := World.keptBut_refl W (· ∈ pa); refine ⟨hg.os, hg.output, fun i hi => ?_⟩; have := h0.2.2 i hi; rw [hg.block i hi (fun h => h)]; exact this
 have hfz : ∀ b o, b < W.heap.size → W'.frozen? ⟨b, o, none⟩ = W.frozen? ⟨b, o, none⟩ := fun b o hb => by
   simp only [World.frozen?, hg.block b hb (fun h => h)]
 refine ⟨ds, [], pa, [], pa, [], ?_, ?_, ?_, ?_, World.keptBut_mono (fun p hp => ⟨hp, ?_⟩) hkept, fun _ => ?_⟩
 · exact hW
 · simpa using hres' _ _ _
 · simpa using hargs _ hold
 · simpa using hvars' _
 · simpa using hp
 · refine ⟨?_, _, _, ([] ++ pa) ++ [], ⟨[] ++ pa, [], trodAll_append (by simpa using hargs _ (fun _ _ => rfl)) (by simpa using hres' _ _ _), by simpa using hvars' _, rfl, ?_, ?_⟩, ?_⟩
   · exact ok_one hres rfl (okWide_bool_mk htb true)
   · intro b off hp; have hp : MemPlace.cell b off ∈ pa := (by simpa using hp); rw [hfz b off (hlt _ hp)]; exact hz' b off hp
   · intro ha; simpa using hn ha
   · intro p hp _; simpa using hp
theorem witness_laid {H : Type} {enc : TypeId × Value → H} {C : Checked} {os : Os} {f : FuncId} {fn : Func} {s : OpenSpec} {conds : List PathCond} {apart : Bool} {laid : List (String × DataW Unit)} (modest : Bool) (w0 : World) (args : Array Value) (hos : w0.os = os)
   (hsh : (w0.forCall (fun _ _ => 0) ⟨#[], args, []⟩).Shaped C.prog)
   (hok : Input.okWideB C.prog (w0.forCall (fun _ _ => 0) ⟨#[], args, []⟩) f ⟨#[], args, []⟩ = true)
   (hrow : s.preRow enc C.prog fn conds apart laid (w0.forCall (fun _ _ => 0) ⟨#[], args, []⟩).memory args) :
   ∃ (w : World) (tape : Tape) (i : Input), w.os = os ∧ (w.forCall tape i).Shaped C.prog ∧ i.vars = [] ∧ Input.okWide C.prog (w.forCall tape i) .any w.heap.size f i ∧
     s.preRow enc C.prog fn conds apart laid (w.forCall tape i).memory i.args ∧ ({ modest := modest } : Assume).holds C.prog (lone (Frame.enter C.prog f i.args .normal) [] (w.forCall tape i)) :=
 ⟨w0, fun _ _ => 0, ⟨#[], args, []⟩, hos, hsh, (Input.okWide_of_okWideB (base := 0) hok).1, (Input.okWide_of_okWideB hok).2, hrow, by
   simp only [Assume.holds]; exact ⟨by simp, by simp, fun _ => Modest.zero, by simp, by simp⟩⟩
section
variable {H : Type} {enc : TypeId × Value → H} {P : Program} {w : World} {sp : Nat → Bool} {held : Bool} {T : TypeId → Prop}
end
end Go.Vw
namespace Go.Vw
open Go.RowKit Go.Proofs
variable {P : Program} {F : Nat → Bool} {w0 : World} {L0 : Nat → Nat → Prop} {row : Nat → Prop} {n : Nat} {K : St → Prop} {Q : Exit → Act → World → Prop}
 {w w' : World} {L L' : Nat → Nat → Prop} {O O' : Nat → Option Nat} {σ σ' : St} {a : Act} {o : Oper} {d : Nat} {v : Value} {tm : Nat → Value}
 {ops : Array Oper} {md : Region.Mode} {ds : List Nat}
def c5f (ops : Array Oper) (n : Nat) : Bool := (List.range ops.size).all fun t => decide (t ≤ n) || (List.range t).any fun j => decide (n ≤ j) && Region.waitsFor .any ops t j
def a4J (ops : Array Oper) (L : Array Bool) (n : Nat) : Nat → Nat → Array Bool → Bool
 | 0, _, listed => decide (listed = L) && (Region.ready .any ops listed).all fun j => decide (n ≤ j)
 | f + 1, k, listed => (Region.ready .any ops listed).contains k && Region.free .any ops listed k && a4J ops L n f (k + 1) (listed.setIfInBounds k true)
theorem b4g {n : Nat} {LL : Array Bool} {K : St → Prop} (Iv : Array Bool → Prop) (hset : ∀ listed j, Iv listed → j ∈ Region.ready .any ops listed → j < n → Iv (listed.setIfInBounds j true)) (hlt : ∀ listed, Iv listed → ∀ k, k < n → listed.getD k true = false → ∀ j ∈ Region.ready .any ops listed, j < n) :
   ∀ (l : List Oper) (k : Nat) (listed : Array Bool) (σ : St), (∀ o ∈ l, ∀ d, o.dst = some d → d ∈ ds) → (∀ j, j < l.length → l[j]? = ops[k + j]?) → k + l.length = n → Iv listed →
   a4J ops LL n l.length k listed = true → INV ds σ → a3c P F ops ds l K σ →
   b2J P F .any ops ds n (fun listed' σ' => (listed' = LL ∧ ∀ j ∈ Region.ready .any ops listed', n ≤ j) ∧ INV ds σ' ∧ K σ') l.length listed σ
 | [], k, listed, σ, _, _, hk, _, hB, hI, h => by
   have : k = n := (by simpa using hk); subst this; simp only [a4J, Bool.and_eq_true, decide_eq_true_eq, all_eq_true, length_nil] at hB; exact ⟨⟨hB.1, hB.2⟩, hI, h⟩
 | o :: l, k, listed, σ, hds, hl, hk, inv, hB, hI, h => by
   have h0 : ops[k]? = some o := by simpa using (hl 0 (by simp)).symm
   simp only [length_cons, a4J, Bool.and_eq_true] at hB; obtain ⟨⟨hr, hf⟩, hB'⟩ := hB; have hkn : k < n := by simp only [length_cons] at hk; omega
   have hr' : k ∈ Region.ready .any ops listed := (by simpa using hr); obtain ⟨d, x, hy, hK⟩ := a5D (fun d hd => hds o (by simp) d hd) h; exact b1L Iv hset h0 hkn hlt (fun listed' a' hL => hL.1.2) l.length listed σ inv (Region.free_spec h0 hf) hr' hI hy
     (b4g Iv hset hlt l (k + 1) _ _ (fun o ho => hds o (by simp [ho])) (fun j hj => by have := hl (j + 1) (by simp; omega); simpa [Nat.add_assoc, Nat.add_comm 1 j] using this) (by simp only [length_cons] at hk; omega) (hset _ _ inv hr' hkn) hB' (hI.setv hy.2.2.1) hK)
theorem b7c {k n : Nat} {listed : Array Bool} (hs : a2h ops k n = true) (hc : c5f ops n = true) (hn : n < ops.size) (inv : HeadInv .any ops n listed) (hk : ∀ i, i < k → listed.getD i false = true) :
   ∀ (d i : Nat), n - i = d → i < n → listed.getD i true = false → ∀ t, n ≤ t → t ∉ Region.ready .any ops listed := by
 intro d
 induction d using Nat.strongRecOn with
 | _ d ih =>
   intro i hd hi hun t ht hr; obtain ⟨_, ot, hot, hall⟩ := mem_ready.1 hr; have htlt : t < ops.size := (Array.getElem?_eq_some_iff.1 hot).1; by_cases htn : t = n
   · subst htn; have h1 := all_eq_true.1 hs i (mem_range.2 hi); simp only [Bool.or_eq_true, decide_eq_true_eq] at h1; rcases h1 with h1 | h1
     · have := hk i h1; rw [getD_both hun] at this; cases this
     obtain ⟨j, hj, hj2⟩ := any_eq_true.1 h1; simp only [Bool.and_eq_true, decide_eq_true_eq] at hj2; obtain ⟨oj, hoj, e, he, hb, hon⟩ := Region.waitsFor_spec hj2.2; have hjle : j ≤ t := by have := mem_range.1 hj; omega
     by_cases hjt : j = t
     · subst hjt; have : oj = ot := Option.some.inj (hoj.symm.trans hot); subst this; have h2 := hall e he hb; rw [hon, getD_both hun] at h2; cases h2
     · cases hl : listed.getD j false with
       | true =>
         have h2 := inv.closed j oj hoj hl e he hb; rw [hon, getD_both hun] at h2; cases h2
       | false =>
         have hjs : j < listed.size := by rw [inv.size]; omega
         exact ih (t - j) (by omega) j rfl (by omega) (getD_in hjs hl) t (Nat.le_refl _) hr
   · have h1 := all_eq_true.1 hc t (mem_range.2 htlt); simp only [Bool.or_eq_true, decide_eq_true_eq] at h1; rcases h1 with h1 | h1
     · omega
     · obtain ⟨j, hj, hj2⟩ := any_eq_true.1 h1; simp only [Bool.and_eq_true, decide_eq_true_eq] at hj2; have hjt := mem_range.1 hj; obtain ⟨o', ho', e, he, hb, hon⟩ := Region.waitsFor_spec hj2.2; have : o' = ot := Option.some.inj (ho'.symm.trans hot); subst this; have h2 := hall e he hb; rw [hon, getD_both (inv.tail j hj2.1 (by omega))] at h2; cases h2
def c4d (F : Nat → Bool) (ops : Array Oper) : Bool :=
 let n := S4 F ops.toList
 let k := min n (a9D ops)
 decide (n < ops.size) && a2h ops k n && c5f ops n && a4J ops (J1 n (Array.replicate ops.size false)) n (n - k) k (J1 k (Array.replicate ops.size false)) && (ops.toList.all fun o => match o.dst with
   | some d => decide (d < 1000000)
   | none => true)
def b9U (F : Nat → Bool) (ops : Array Oper) : OT := a2J ops (ops.size - S4 F ops.toList) (J1 (S4 F ops.toList) (Array.replicate ops.size false))
theorem b1A : ∀ l : List Oper, S4 F (l.take (S4 F l)) = S4 F l
 | [] => rfl
 | o :: l => by
   by_cases he : a4g F o.dst o.op = true
   · simp only [S4, if_pos he, take_zero]
   · simp only [S4, if_neg he, take_succ_cons]; rw [b1A l]
theorem c7L {id kk : Nat} {K : St → Prop} (hm : P.follows .mixedOrders = true) (hB : c4d F ops = true) (hdst : ∀ o ∈ ops.toList, ∀ d, o.dst = some d → d < kk)
   (h : B6 P w0 L0 row kk (fun σ => P3 P F ops (M0 F ops.toList) (ops.toList.take (S4 F ops.toList)) (aT P F ops K (b9U F ops)) (I3 (M0 F ops.toList) σ)) a w) (hQ : ∀ a w, B6 P w0 L0 row kk K a w → Q .normal a w) : (Code.region id ops true).wp P Q a w := by
 obtain ⟨L, O, σ, hR, hdef, hsz, h⟩ := h; simp only [c4d] at hB; unfold b9U at h; have hht := b1A (F := F) ops.toList; generalize hnn : S4 F ops.toList = nn at hB h hht; generalize hkk : min nn (a9D ops) = k at hB; simp only [Bool.and_eq_true, decide_eq_true_eq] at hB; obtain ⟨⟨⟨⟨h1', h2'⟩, h3'⟩, hlex⟩, hlt6⟩ := hB; have hle := b0v (F := F) ops.toList; rw [Array.length_toList, hnn] at hle; have hkn : k ≤ nn := (by omega); have hlate : ∀ i, i < k → a0K ops i = true := fun i hi => b1Q (by omega)
 have hds6 : ∀ d ∈ M0 F ops.toList, d < 1000000 := by
   intro d hd; rw [a5f] at hd; simp only [M5, mem_filterMap] at hd; obtain ⟨o, ho, hod⟩ := hd; have := all_eq_true.1 hlt6 o (mem_of_mem_take ho); simpa [hod] using this
 have hds : ∀ o ∈ ops.toList.take nn, ∀ d, o.dst = some d → d ∈ M0 F ops.toList := fun o ho d hd => by rw [a5f, hnn]; simp only [M5, mem_filterMap]; exact ⟨o, ho, hd⟩
 let Q0 : Exit → Act → World → Prop := fun e a w => e = .normal ∧ B6 P w0 L0 row kk K a w
 have hQp : ∀ ch a w, ¬ Q0 (.panic ch) a w := fun ch a w h => by cases h.1
 have hQl : ¬ LetsOut Q0 := fun ⟨a, w, h⟩ => by cases h.1
 refine wp_mono (Q := Q0) (wp_region_any hm ?_) (fun e a w ⟨he, hg⟩ => by subst he; exact hQ a w hg); generalize hw1 : ({ w with drawn := w.drawn + 1 } : World) = w1; have hR1 : Rel P w0 L0 row w1 L O (I3 (M0 F ops.toList) σ) (B4 a) := by rw [← hw1]; exact (hR.drew).clean _
 have h0 := a1l (F := F) _ _ h; rw [hht, take_take, Nat.min_self] at h0; have hdn : (ops.toList.take nn).drop nn = [] := drop_eq_nil_of_le (by simp only [length_take]; omega); rw [hdn] at h0; simp only [J5] at h0; have htl : (ops.toList.take nn).length = nn := by simp; omega
 have hdl : (ops.toList.drop nn).length = ops.size - nn := (by simp); have main : ∀ j, j ≤ k → ∀ a, B6 P w0 L0 row kk (fun σ => INV (M0 F ops.toList) σ ∧ a3c P F ops (M0 F ops.toList) ((ops.toList.take nn).drop (k - j)) (fun σ' => aT P F ops K (a2J ops (ops.size - nn) (J1 nn (Array.replicate ops.size false))) σ') σ) a w1 →
     wpAny P .any ops Q0 (ops.size - (k - j)) (J1 (k - j) (Array.replicate ops.size false)) a w1 := by
   intro j
   induction j with
   | zero =>
     intro _ a hg; simp only [Nat.sub_zero] at hg ⊢; obtain ⟨L1, O1, a0, hR2, hd2, hs2, hI, hv⟩ := hg; have inv0 := a8v hle k hkn hlate; have hk0 : ∀ i, i < k → (J1 k (Array.replicate ops.size false)).getD i false = true := fun i hi => a2z k i hi (by omega)
     have hlt : ∀ listed, HeadInv .any ops nn listed ∧ (∀ i, i < k → listed.getD i false = true) → ∀ i, i < nn → listed.getD i true = false → ∀ j ∈ Region.ready .any ops listed, j < nn := by
       intro listed ⟨inv, hk⟩ i hi hun j hj; rcases Nat.lt_or_ge j nn with h4 | h4
       · exact h4
       · exact absurd hj (b7c h2' h3' h1' inv hk _ i rfl hi hun j h4)
     have H := b4g (LL := J1 nn (Array.replicate ops.size false)) (P := P) (F := F) (ds := M0 F ops.toList) (K := fun σ' => aT P F ops K (a2J ops (ops.size - nn) (J1 nn (Array.replicate ops.size false))) σ') (fun listed => HeadInv .any ops nn listed ∧ ∀ i, i < k → listed.getD i false = true)
       (fun listed j ⟨h1, h2⟩ hj hjn => ⟨h1.set hj hjn, fun i hi => getD_set_true (h2 i hi)⟩) hlt ((ops.toList.take nn).drop k) k _ a0 (fun o ho => hds o (mem_of_mem_drop ho)) (fun j hj => by
         have hj' : k + j < nn := by simp at hj; omega
         simp [getElem?_drop, getElem?_take, hj']) (by simp; omega) ⟨inv0, hk0⟩ (by rw [length_drop, htl]; exact hlex) hI hv
     have := a5k (md := .any) (Q := Q0) (g := ops.size - nn) (k := kk) (w0 := w0) (L0 := L0) (row := row) hdst (fun listed a' w' hg => by
       obtain ⟨L1, O1, σ1, hR1, hd1, hs1, _, hseq, _, hv⟩ := hg; rw [hseq.1]; exact c2i (K := K) hdst (fun a w hg => ⟨rfl, hg⟩) _ _ _ _ ⟨L1, O1, σ1, hR1, hd1, hs1, hv⟩) _ _ a w1 ⟨L1, O1, a0, hR2, hd2, hs2, hI, H⟩
     rw [length_drop, htl, show nn - k + (ops.size - nn) = ops.size - k by omega] at this; exact this
   | succ j ih =>
     intro hj a hg; have hik : k - (j + 1) < k := (by omega); obtain ⟨d, t, oi, g1, g2, g3, g4, g5, g6, g7⟩ := a5l (hlate _ hik); have hsucc : k - j = k - (j + 1) + 1 := (by omega); have hstep : ops.size - (k - (j + 1)) = (ops.size - (k - j)) + 1 := (by omega); rw [hstep]; refine b1T hQp hQl g1 g2 g3 g4 g5 g6 g7 _ _ _ _ (a0Q _ _ (Nat.le_refl _) (by omega)) ?_; have hmk : (J1 (k - (j + 1)) (Array.replicate ops.size false)).setIfInBounds (k - (j + 1)) true = J1 (k - j) (Array.replicate ops.size false) := by rw [hsucc]; rfl
     rw [hmk]; refine ih (by omega) _ ?_; obtain ⟨L1, O1, σ1, hR2, hd2, hs2, hI, hv⟩ := hg; have hcons : (ops.toList.take nn).drop (k - (j + 1)) = oi :: (ops.toList.take nn).drop (k - j) := by
       rw [drop_eq_getElem_cons (by rw [htl]; omega), hsucc]; congr 1
       have : (ops.toList.take nn)[k - (j + 1)]? = some oi := by rw [getElem?_take, if_pos (by omega)]; simpa using g1
       exact (List.getElem?_eq_some_iff.1 this).2
     rw [hcons] at hv; have hmem : oi ∈ ops.toList := by rw [Array.mem_toList_iff]; exact Array.mem_of_getElem? g1
     have hmemt : oi ∈ ops.toList.take nn := mem_of_mem_drop (i := k - (j + 1)) (by rw [hcons]; simp); obtain ⟨d', x, ⟨y1, y2, y3, y4⟩, hK⟩ := a5D (hds oi hmemt) hv; obtain rfl : d = d' := by rw [g2] at y1; simpa using y1
     have hp : D3 P F oi.op d σ1 (fun y => y = x) := by
       rcases y4 with ⟨_, hp⟩ | ⟨hw, _⟩
       · exact hp
       · simp [O5, g5] at hw
     have hwp := a3n (K := fun τ => τ = put σ1 d x) (Q := fun _ _ _ => False) g2 (hdst oi hmem d g2) hs2 hd2 hR2 (a0h hp fun y hy => by rw [hy]); have hrun : (execOp a.eval oi).run P w1 = .ok (.value (a.eval (.tmp t))) w1 := (by simp [execOp, g3]); unfold Oper.wp at hwp; rw [hrun] at hwp; simp only [Oper.upon, g2] at hwp; obtain ⟨L2, O2, σ2, hR3, hd3, hs3, rfl⟩ := hwp; rw [R5 hI y2 y3] at hR3; exact ⟨L2, O2, _, hR3, hd3, hs3, hI.setv y3, hK⟩
 have := main k (Nat.le_refl _) a ⟨L, O, _, hR1, hdef, hsz, a3Q hds6, by rw [Nat.sub_self, drop_zero]; exact h0⟩; rw [Nat.sub_self] at this; exact this
end Go.Vw
namespace Go.Vw
open Go.RowKit Go.Proofs
def b9b (P : Program) (F : Nat → Bool) (ops : Array Oper) (l : List Oper) (ds : List Nat) (K : St → Prop) (σ : St) : Prop := P3 P F ops ds l (aT P F ops K (b9U F ops)) (I3 ds σ)
def O0 (P : Program) (F : Nat → Bool) : Code → (Exit → St → Prop) → St → Prop
 | .region id ops true, Q, σ => if F (16000000 + id) = true then b9b P F ops (ops.toList.take (S4 F ops.toList)) (M0 F ops.toList) (Q .normal) σ else vwp P F (.region id ops true) Q σ
 | .seq x y, Q, σ => O0 P F x (a2q (O0 P F y Q) Q) σ
 | .cond c x y, Q, σ => (match A0 σ c with
   | .d (.bool b) => (b = true → O0 P F x Q σ) ∧ (b = false → O0 P F y Q σ)
   | _ => False)
 | .block id c, Q, σ => O0 P F c (a1d id Q) σ
 | .loop c, Q, σ => a3L (O0 P F c) Q σ
 | c, Q, σ => vwp P F c Q σ
def a3X (F : Nat → Bool) (n : Nat) : Code → Bool
 | .region id ops true => if F (16000000 + id) = true then (ops.toList.all fun o => match o.dst with
   | some d => decide (d < n)
   | none => true) && c4d F ops else a0j F n (.region id ops true)
 | .seq x y | .cond _ x y => a3X F n x && a3X F n y
 | .block _ c | .loop c => a3X F n c
 | c => a0j F n c
variable {P : Program} {F : Nat → Bool} {w0 : World} {L0 : Nat → Nat → Prop} {row : Nat → Prop} {n : Nat} {K : St → Prop} {Q : Exit → St → Prop}
 {w w' : World} {L L' : Nat → Nat → Prop} {O O' : Nat → Option Nat} {σ σ' : St} {a : Act} {o : Oper} {d : Nat} {v : Value} {tm : Nat → Value}
theorem a3r (hm : P.follows .mixedOrders = true) : ∀ (c : Code) (Q : Exit → St → Prop) (a : Act) (w : World), a3X F n c = true → B6 P w0 L0 row n (O0 P F c Q) a w → c.wp P (post P w0 L0 row n Q) a w
 | .skip, Q, a, w, hok, h => K3 hm .skip Q a w hok h
 | .region id ops false, Q, a, w, hok, h => K3 hm (.region id ops false) Q a w hok h
 | .region id ops true, Q, a, w, hok, h => by
   simp only [a3X] at hok; by_cases hf : F (16000000 + id) = true
   · rw [if_pos hf] at hok; simp only [Bool.and_eq_true] at hok; have hdst : ∀ o ∈ ops.toList, ∀ d, o.dst = some d → d < n := fun o ho d hd => by
       have := all_eq_true.1 hok.1 o ho; simpa [hd] using this
     obtain ⟨L, O, σ, hR, hdef, hsz, hv⟩ := h; simp only [O0, if_pos hf, b9b] at hv; exact c7L hm hok.2 hdst ⟨L, O, σ, hR, hdef, hsz, hv⟩ (fun a w h => h)
   · rw [if_neg hf] at hok; obtain ⟨L, O, σ, hR, hdef, hsz, hv⟩ := h; simp only [O0, if_neg hf] at hv; exact K3 hm (.region id ops true) Q a w hok ⟨L, O, σ, hR, hdef, hsz, hv⟩
 | .seq x y, Q, a, w, hok, h => by
   simp only [a3X, Bool.and_eq_true] at hok; refine wp_seq (wp_mono (a3r hm x _ a w hok.1 h) ?_); intro e a' w' hg; cases e with
   | normal => exact a3r hm y Q a' w' hok.2 hg
   | exit id => exact hg
   | goto l => exact hg
   | ret => exact hg
   | panic ch => exact hg
   | outgrown => exact hg
 | .cond c x y, Q, a, w, hok, h => by
   simp only [a3X, Bool.and_eq_true] at hok; obtain ⟨L, O, σ, hR, hdef, hsz, hv⟩ := h; simp only [O0] at hv; split at hv
   · rename_i b hc
     have hcv := (E6 hR hc).bool_inv; exact wp_cond_split hcv (fun hb => a3r hm x Q a w hok.1 ⟨L, O, σ, hR, hdef, hsz, hv.1 hb⟩) (fun hb => a3r hm y Q a w hok.2 ⟨L, O, σ, hR, hdef, hsz, hv.2 hb⟩)
   · exact hv.elim
 | .block id c, Q, a, w, hok, h => by
   refine wp_block (wp_mono (a3r hm c _ a w hok h) ?_); intro e a' w' hg; cases e with
   | exit id' =>
     show if id' = id then post P w0 L0 row n Q .normal a' w' else post P w0 L0 row n Q (.exit id') a' w'
     have hg' : B6 P w0 L0 row n (fun σ => if id' = id then Q .normal σ else Q (.exit id') σ) a' w' := hg; split
     · exact hg'.mono fun σ h => by rwa [if_pos (by assumption)] at h
     · exact hg'.mono fun σ h => by rwa [if_neg (by assumption)] at h
   | normal => exact hg
   | goto l => exact hg
   | ret => exact hg
   | panic ch => exact hg
   | outgrown => exact hg
 | .loop c, Q, a, w, hok, h => by
   obtain ⟨L, O, σ, hR, hdef, hsz, I, k, h0, hI⟩ := h; refine wp_loop_ghost (fun m a w => B6 P w0 L0 row n (I m) a w) k ⟨L, O, σ, hR, hdef, hsz, h0⟩ ?_; intro m a' w' hg; refine wp_mono (a3r hm c _ a' w' hok (hg.mono fun τ hτ => hI m τ hτ)) ?_; intro e a2 w2 hg2; cases e with
   | normal =>
     obtain ⟨L2, O2, σ2, hR2, hd2, hs2, m', hm, hI2⟩ := hg2; exact ⟨m', hm, L2, O2, σ2, hR2, hd2, hs2, hI2⟩
   | exit id => exact hg2
   | goto l => exact hg2
   | ret => exact hg2
   | panic ch => exact hg2
   | outgrown => exact hg2
 | .exit id, Q, a, w, hok, h => K3 hm (.exit id) Q a w hok h
 | .ret, Q, a, w, hok, h => K3 hm (.ret) Q a w hok h
 | .rangeFunc .., Q, a, w, hok, h => K3 hm _ Q a w hok h
 | .scope x, Q, a, w, hok, h => K3 hm (.scope x) Q a w hok h
 | .label x, Q, a, w, hok, h => K3 hm (.label x) Q a w hok h
 | .goto x, Q, a, w, hok, h => K3 hm (.goto x) Q a w hok h
 | .refuse x, Q, a, w, hok, h => K3 hm (.refuse x) Q a w hok h
theorem b8E {f : FuncId} {fn : Func} {c : Code} {args : List AV} {t : Nat} {r : AV} (F : Nat → Bool) (hm : P.follows .mixedOrders = true) (hf : P.funcs[f]? = some fn) (hname : (fn.name == "runtime.NumGoroutine") = false) (hb : fn.body = some c) (hres : fn.results = #[.tmp t])
   (hargs : args.length ≤ fn.ntmps) (hok : a3X F fn.ntmps c = true) (harg : (args.all a6X) = true) (hone : a2K args = true)
   (h : O0 P F c (a8n t r) (a1N args)) : Ctr P f args r := by
 refine ⟨enters_of hf hname hb, fun w L og vals hlok hgl hog hrc => ?_⟩; have hl := hrc.length; refine calls_of_wp hf hb (wp_mono (a3r (n := fn.ntmps) hm c _ _ w hok ⟨L, _, a1N args, a6W hlok hgl hog hrc harg hone, rfl, ?_, h⟩) ?_)
 · simp; omega
 · rintro e a' w' ⟨L', O', σ', hR, hdef, hsz, he, hr⟩; obtain ⟨L2, og2, h1, h2, h3, _, h4⟩ := a9L hR hr; have hfin : a'.defers = [] ∧ ∃ v, (results fn a'.tmps).run P w' = .ok v w' ∧ (∃ v' L' og', Ending.returned v = .returned v' ∧ E8 w w' (E9 og) ∧ (∀ b q, L' b q → b < w'.heap.size) ∧ (∀ b q, b < w.heap.size → ¬ E9 og b → (L' b q ↔ L b q)) ∧
       (∀ g, og' = some g → g < w'.heap.size ∧ (w.heap.size ≤ g ∨ og = some g)) ∧ RC P w' L' og' r v') :=
     ⟨hdef, _, results_tmp hres _ _ _, _, L2, og2, rfl, hR.grown, h1, h2, h3, h4⟩
   rcases he with rfl | rfl
   · exact hfin
   · exact hfin
@[simp] theorem c9d : O0 P F .skip Q σ = Q .normal σ := by simp only [O0, vwp]
@[simp] theorem c8d (id : Nat) (ops : List Oper) : O0 P F (.region id ops.toArray false) Q σ = J5 P F ops.toArray ops (Q .normal) σ := by simp only [O0, vwp]
def a9w (b : Bool) (P : Program) (F : Nat → Bool) (id : Nat) (l : List Oper) (Q : Exit → St → Prop) (K : St → Prop) (σ : St) : Prop := if b = true then b9b P F l.toArray (l.take (S4 F l)) (M0 F l) K σ else vwp P F (.region id l.toArray true) Q σ
@[simp] theorem d0n (id : Nat) (l : List Oper) : a9w false P F id l Q K σ = vwp P F (.region id l.toArray true) Q σ := by simp only [a9w, Bool.false_eq_true, if_false]
@[simp] theorem d0t (id : Nat) (ops : List Oper) : O0 P F (.region id ops.toArray true) Q σ = a9w (F (16000000 + id)) P F id ops Q (Q .normal) σ := by simp only [O0, a9w]
def b6N (P : Program) (F : Nat → Bool) (ops : Array Oper) (l : List Oper) (ds : List Nat) (K : St → Prop) (σ : St) : Prop := P3 P F ops ds l K (I3 ds σ)
@[simp] theorem d5v (ops : Array Oper) (l : List Oper) (ds : List Nat) : b6N P F ops l ds K σ = P3 P F ops ds l K (I3 ds σ) := rfl
theorem d3t {id : Nat} {l : List Oper} (t : OT) (m : Nat) (ds : List Nat) (ht : b9U F l.toArray = t) (hh : S4 F l = m) (hs : M0 F l = ds) (h : b6N P F l.toArray (l.take m) ds (aT P F l.toArray K t) σ) : a9w true P F id l Q K σ := by
 subst ht hh hs; simpa only [a9w, if_true, b9b, b6N] using h
@[simp] theorem d1T (x y : Code) : O0 P F (.seq x y) Q σ = O0 P F x (a2q (O0 P F y Q) Q) σ := by simp only [O0]
@[simp] theorem d0P (c : Operand) (x y : Code) : O0 P F (.cond c x y) Q σ = (match A0 σ c with
   | .d (.bool b) => if b = true then O0 P F x Q σ else O0 P F y Q σ
   | _ => False) := by
 simp only [O0]; cases A0 σ c with
 | d x => cases x with
   | bool b => cases b <;> simp
   | _ => rfl
 | _ => rfl
@[simp] theorem c8x (id : Nat) (c : Code) : O0 P F (.block id c) Q σ = O0 P F c (a1d id Q) σ := by simp only [O0]
@[simp] theorem c8T (c : Code) : O0 P F (.loop c) Q σ = a3L (O0 P F c) Q σ := by simp only [O0]
@[simp] theorem c8P (id : Nat) : O0 P F (.exit id) Q σ = Q (.exit id) σ := by simp only [O0, vwp]
@[simp] theorem d2j : O0 P F .ret Q σ = Q .ret σ := by simp only [O0, vwp]
@[congr] theorem d6H {c : Code} (h : mkd (σ) = σ') : O0 P F c Q σ = O0 P F c Q σ' := by rw [B5] at h; subst h; rfl
@[congr] theorem d6G {b b' : Bool} {id : Nat} {l : List Oper} (hb : mkd b = b') : a9w b P F id l Q K σ = a9w b' P F id l Q K σ := by rw [B5] at hb; subst hb; rfl
@[congr] theorem d6a {ops : Array Oper} {l l' : List Oper} {ds ds' : List Nat} (hl : mkd l = l') (hd : mkd ds = ds') (h : mkd σ = σ') : b6N P F ops l ds K σ = b6N P F ops l' ds' K σ' := by rw [B5] at hl hd h; subst hl hd h; rfl
end Go.Vw