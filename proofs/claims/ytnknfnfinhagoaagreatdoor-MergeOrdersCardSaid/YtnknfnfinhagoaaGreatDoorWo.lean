/-
  The abstract walk through a translated function, part 3 of 4: its data, its operations, and that it is sound, for every program. No conditions beyond those that each theorem states.
-/import Derived.Test.YtnknfnfinhagoaaGreatDoorWn
import Derived.Shelf.GgSortFunc.RowK
import Derived.Shelf.GgSortFunc.InsertionK
import Derived.Test.YtnknfnfinhagoaaGreatDoorWm
import Derived.StepT
import Derived.Calls
import Derived.CallsIn
import Derived.Shelf.SlIter.Sorted
import Derived.Shelf.SlSortCmp.WholeK
import Derived.Shelf.SlSortCmp.Whole1
import Derived.ChangeSame
import Derived.ReadAgain
import Derived.Deep.DeepHandedRow
import Derived.Lay
import Derived.OpenShut
import Derived.RowKit
open List
set_option linter.unusedSimpArgs false
set_option linter.unusedVariables false
namespace Go.Vw
open Go.RowKit Go.Proofs
variable {P : Program} {F : Nat → Bool} {w0 : World} {L0 : Nat → Nat → Prop} {row : Nat → Prop} {n : Nat} {K : St → Prop} {Q : Exit → Act → World → Prop}
 {w w' : World} {L L' : Nat → Nat → Prop} {O O' : Nat → Option Nat} {σ σ' : St} {a : Act} {o : Oper} {d : Nat} {v : Value} {tm : Nat → Value}
 {ops : Array Oper} {md : Region.Mode} {ds : List Nat}
def I3 (ds : List Nat) (x : AV) : Bool :=
 match I0 x with
 | some j => !ds.contains j
 | none => true
def INV (ds : List Nat) (σ : St) : Prop := (∀ t, I3 ds (σ t) = true) ∧ ∀ d ∈ ds, d < 1000000
theorem M6 {x : AV} {j : Nat} (h : I3 ds x = true) (hj : I0 x = some j) : j ∉ ds := by
 simp only [I3, hj] at h; simpa using h
theorem a0J {x : AV} (h : I0 x ≠ some d) : E9 d x = x := by
 cases x with
 | bor j m e l => have : j ≠ d := fun e => h (by simp [I0, e]); simp [E9, this]
 | adr j p => have : j ≠ d := fun e => h (by simp [I0, e]); simp [E9, this]
 | eadr j i p => have : j ≠ d := fun e => h (by simp [I0, e]); simp [E9, this]
 | sub j i => have : j ≠ d := fun e => h (by simp [I0, e]); simp [E9, this]
 | _ => rfl
theorem S7 {x : AV} (hi : INV ds σ) (hd : d ∈ ds) (hx : I3 ds x = true) : put σ d x = B4 σ d x := by
 funext i
 simp only [put, B4]; split
 · exact a0J fun e => M6 hx e hd
 · exact a0J fun e => M6 (hi.1 i) e hd
theorem INV.setv {x : AV} (hi : INV ds σ) (hx : I3 ds x = true) : INV ds (B4 σ d x) := by
 refine ⟨fun t => ?_, hi.2⟩; simp only [Vw.B4]; split
 · exact hx
 · exact hi.1 t
def O7 (ops : Array Oper) (o : Oper) (σ : St) : Option Bool :=
 match o.guard with
 | none => some true
 | some (j, want) => match (ops[j]?).bind (·.dst) with
   | some t => (match σ t with
     | .d (.bool b) => some (b == want)
     | .tup [] => some false
     | _ => none)
   | none => none
def YV (P : Program) (F : Nat → Bool) (ops : Array Oper) (ds : List Nat) (o : Oper) (d : Nat) (σ : St) (x : AV) : Prop :=
 o.dst = some d ∧ d ∈ ds ∧ I3 ds x = true ∧ ((O7 ops o σ = some true ∧ D6 P F o.op d σ (fun y => y = x)) ∨ (O7 ops o σ = some false ∧ x = .tup []))
def aOp (P : Program) (F : Nat → Bool) (ops : Array Oper) (ds : List Nat) (i : Nat) (K : St → Prop) (σ : St) : Prop :=
 match ops[i]? with
 | none => K σ
 | some o => ∃ d x, YV P F ops ds o d σ x ∧ K (B4 σ d x)
theorem c2T {i : Nat} {K K' : St → Prop} (h : ∀ σ, K σ → K' σ) (hh : aOp P F ops ds i K σ) : aOp P F ops ds i K' σ := by
 unfold aOp at *; split at hh
 · exact h _ hh
 · rename_i o hi
   obtain ⟨d, x, h1, h2⟩ := hh; exact ⟨d, x, h1, h _ h2⟩
theorem a2B {x : AV} (hk : d ∉ o.looksAt ops) : O7 ops o (B4 σ d x) = O7 ops o σ := by
 unfold O7; split
 · rfl
 · rename_i j want hg
   split
   · rename_i t ht
     have : t ≠ d := by
       rintro rfl; exact hk (by simp [Oper.looksAt, hg, ht])
     simp only [B4, if_neg this]
   · rfl
theorem a0Z {x : AV} (hi : INV ds σ) (hd : d ∈ ds) (hk : d ∉ o.looksAt ops) : Agr o.op.operands.toList (B4 σ d x) σ := by
 refine ⟨fun y hy => ?_, fun j hj => ?_⟩
 rotate_left
 · have : j ≠ d := fun e => by have := hi.2 d hd; omega
   simp only [B4, if_neg this]
 have hne : ∀ t, y = .tmp t → t ≠ d := by
   rintro t rfl rfl; exact hk (by simp only [Oper.looksAt, mem_append, mem_filterMap]; exact .inl ⟨_, hy, rfl⟩)
 refine ⟨fun t ht => by simp only [B4, if_neg (hne t ht)], fun j hj => ?_⟩; have : j ≠ d := by
   rintro rfl; cases y with
   | tmp t =>
     have htd := hne t rfl; simp only [A0, B4, if_neg htd] at hj; have h1 := hi.1 t; cases hs : σ t <;> rw [hs] at hj h1 <;> simp only [rd, I0, Option.some.injEq] at hj
     case own => exact htd hj
     case box => exact htd hj
     case bor => subst hj; exact M6 h1 rfl hd
     case adr => subst hj; exact M6 h1 rfl hd
     case eadr => subst hj; exact M6 h1 rfl hd
     case sub => subst hj; exact M6 h1 rfl hd
     all_goals cases hj
   | const v =>
     simp only [A0] at hj; unfold a1o at hj; split at hj <;> simp [I0] at hj
   | func f => simp [A0, I0] at hj
   | global g => simp [A0, I0] at hj
 simp only [B4, if_neg this]
theorem YV.back {x y : AV} {e : Nat} (hi : INV ds σ) (hd : d ∈ ds) (hk : d ∉ o.looksAt ops) (h : YV P F ops ds o e (B4 σ d x) y) : YV P F ops ds o e σ y := by
 obtain ⟨h1, h2, h3, h4⟩ := h; rw [a2B hk] at h4; refine ⟨h1, h2, h3, ?_⟩; rcases h4 with ⟨h5, h6⟩ | h5
 · exact .inl ⟨h5, a9b (a0Z hi hd hk) h6⟩
 · exact .inr h5
theorem Agr.symm {xs : List Operand} (h : Agr xs σ σ') : Agr xs σ' σ := by
 refine ⟨fun x hx => ⟨fun t ht => ((h.1 x hx).1 t ht).symm, fun j hj => ?_⟩, fun j hj => (h.2 j hj).symm⟩; rw [← h.aval hx] at hj; exact ((h.1 x hx).2 j hj).symm
theorem YV.forth {x y : AV} {e : Nat} (hi : INV ds σ) (hd : d ∈ ds) (hk : d ∉ o.looksAt ops) (h : YV P F ops ds o e σ y) : YV P F ops ds o e (B4 σ d x) y := by
 obtain ⟨h1, h2, h3, h4⟩ := h; refine ⟨h1, h2, h3, ?_⟩; rw [a2B hk]; rcases h4 with ⟨h5, h6⟩ | h5
 · exact .inl ⟨h5, a9b (a0Z hi hd hk).symm h6⟩
 · exact .inr h5
theorem a0M {d e : Nat} {x y : AV} (h : d ≠ e) : B4 (B4 σ d x) e y = B4 (B4 σ e y) d x := by
 funext i
 simp only [B4]; by_cases h1 : i = d <;> by_cases h2 : i = e <;> simp_all
theorem c6s {j di : Nat} {oi oj : Oper} {x : AV} (hj : ops[j]? = some oj) (hap : oi.apart ops oj = true) (hi : INV ds σ) (hy : YV P F ops ds oi di σ x) {K : St → Prop} (h : aOp P F ops ds j K (B4 σ di x)) :
   aOp P F ops ds j (fun σ' => INV ds σ' ∧ YV P F ops ds oi di σ' x ∧ K (B4 σ' di x)) σ := by
 obtain ⟨h1, h2, h3⟩ := Oper.apart_spec hap; unfold aOp at *; simp only [hj] at *; obtain ⟨dj, u, hu, hK⟩ := h; refine ⟨dj, u, hu.back hi hy.2.1 (h1 di hy.1), hi.setv hu.2.2.1, hy.forth hi hu.2.1 (h3 dj hu.1), ?_⟩; rw [← a0M (fun e => h2 di hy.1 (by rw [hu.1, e]))]; exact hK
def b6w (P : Program) (F : Nat → Bool) (md : Region.Mode) (ops : Array Oper) (ds : List Nat) (n : Nat) (Lq : Array Bool → St → Prop) : Nat → Array Bool → St → Prop
 | 0, listed, σ => Lq listed σ
 | f + 1, listed, σ => Region.ready md ops listed ≠ [] ∧ ∀ i ∈ Region.ready md ops listed, i < n ∧ aOp P F ops ds i (b6w P F md ops ds n Lq f (listed.setIfInBounds i true)) σ
theorem b9P {n i di : Nat} {oi : Oper} {x : AV} {Lq : Array Bool → St → Prop} (Iv : Array Bool → Prop) (hset : ∀ listed j, Iv listed → j ∈ Region.ready md ops listed → j < n → Iv (listed.setIfInBounds j true)) (hi : ops[i]? = some oi) (hin : i < n)
   (hlt : ∀ listed, Iv listed → ∀ k, k < n → listed.getD k true = false → ∀ j ∈ Region.ready md ops listed, j < n) (hdone : ∀ listed σ, Lq listed σ → ∀ j ∈ Region.ready md ops listed, n ≤ j) :
   ∀ (f : Nat) (listed : Array Bool) (σ : St), Iv listed →
     (∀ j oj, ops[j]? = some oj → j ≠ i → listed.getD j true = false → (∀ e ∈ oj.after, Region.binds md e = true → e.on ≠ i) → oi.apart ops oj = true) →
     i ∈ Region.ready md ops listed → INV ds σ → YV P F ops ds oi di σ x →
     b6w P F md ops ds n Lq f (listed.setIfInBounds i true) (B4 σ di x) → b6w P F md ops ds n Lq (f + 1) listed σ := by
 intro f
 induction f with
 | zero =>
   intro listed σ inv _ hr hI hy H; have hun := (mem_ready.1 hr).1; refine ⟨fun h => (by rw [h] at hr; cases hr), fun j hj => ?_⟩; have hjn := hlt listed inv i hin hun j hj; refine ⟨hjn, ?_⟩; by_cases hji : j = i
   · subst hji; unfold aOp; simp only [hi]; exact ⟨di, x, hy, H⟩
   · have := hdone _ _ H j (ready_mono hj hji); omega
 | succ f ih =>
   intro listed σ inv hfree hr hI hy H; have hun := (mem_ready.1 hr).1; refine ⟨fun h => (by rw [h] at hr; cases hr), fun j hj => ?_⟩; have hjn := hlt listed inv i hin hun j hj; refine ⟨hjn, ?_⟩; by_cases hji : j = i
   · subst hji; unfold aOp; simp only [hi]; exact ⟨di, x, hy, H⟩
   · have h1 := (H.2 j (ready_mono hj hji)).2; obtain ⟨hjun, oj, hoj, hall⟩ := mem_ready.1 hj; have hnot : ∀ e ∈ oj.after, Region.binds md e = true → e.on ≠ i := fun e he hb heq => by
       have h1 := hall e he hb; rw [heq, getD_both hun] at h1; cases h1
     have h2 := c6s hoj (hfree j oj hoj hji hjun hnot) hI hy h1; have hfree' : ∀ k ok, ops[k]? = some ok → k ≠ i → (listed.setIfInBounds j true).getD k true = false →
         (∀ e ∈ ok.after, Region.binds md e = true → e.on ≠ i) → oi.apart ops ok = true := fun k ok hk hki hun hno => by
       refine hfree k ok hk hki ?_ hno; by_cases hjk : j = k
       · subst hjk; exact hjun
       · rw [getD_set_ne true hjk] at hun; exact hun
     refine c2T (fun a' h3 => ih (listed.setIfInBounds j true) a' (hset _ _ inv hj hjn) hfree' (ready_mono hr (Ne.symm hji)) h3.1 h3.2.1 ?_) h2; rw [Array.setIfInBounds_comm _ _ hji]; exact h3.2.2
def a4b (P : Program) (F : Nat → Bool) (ops : Array Oper) (ds : List Nat) : List Oper → (St → Prop) → St → Prop
 | [], K, σ => K σ
 | o :: rest, K, σ => A8 o.dst fun d => match o.guard with
   | none => D6 P F o.op d σ fun x => I3 ds x = true ∧ a4b P F ops ds rest K (B4 σ d x)
   | some (j, want) => A8 ((ops[j]?).bind (·.dst)) fun t => (match σ t with
     | .d (.bool b) => (b = want → D6 P F o.op d σ fun x => I3 ds x = true ∧ a4b P F ops ds rest K (B4 σ d x)) ∧ (b ≠ want → a4b P F ops ds rest K (B4 σ d (.tup [])))
     | .tup [] => a4b P F ops ds rest K (B4 σ d (.tup []))
     | _ => False)
theorem b4a {rest : List Oper} (hds : ∀ d, o.dst = some d → d ∈ ds) (h : a4b P F ops ds (o :: rest) K σ) : ∃ d x, YV P F ops ds o d σ x ∧ a4b P F ops ds rest K (B4 σ d x) := by
 simp only [a4b] at h; obtain ⟨d, hd, h⟩ := A4 h; refine ⟨d, ?_⟩; cases hg : o.guard with
 | none =>
   rw [hg] at h; obtain ⟨x, h1, h2, h3⟩ := a0L h; exact ⟨x, ⟨hd, hds d hd, h2, .inl ⟨by simp [O7, hg], h1⟩⟩, h3⟩
 | some g =>
   obtain ⟨j, want⟩ := g; rw [hg] at h; obtain ⟨t, ht, h⟩ := A4 h; split at h
   · rename_i b hb
     by_cases hbw : b = want
     · obtain ⟨x, h1, h2, h3⟩ := a0L (h.1 hbw); exact ⟨x, ⟨hd, hds d hd, h2, .inl ⟨by simp [O7, hg, ht, hb, hbw], h1⟩⟩, h3⟩
     · exact ⟨.tup [], ⟨hd, hds d hd, rfl, .inr ⟨by simp [O7, hg, ht, hb, hbw], rfl⟩⟩, h.2 hbw⟩
   · rename_i hb
     exact ⟨.tup [], ⟨hd, hds d hd, rfl, .inr ⟨by simp [O7, hg, ht, hb], rfl⟩⟩, h⟩
   · exact h.elim
theorem b6t {n g : Nat} {K : St → Prop} (Iv : Array Bool → Prop) (hset : ∀ listed j, Iv listed → j ∈ Region.ready md ops listed → j < n → Iv (listed.setIfInBounds j true)) (hlt : ∀ listed, Iv listed → ∀ k, k < n → listed.getD k true = false → ∀ j ∈ Region.ready md ops listed, j < n) :
   ∀ (l : List Oper) (k : Nat) (listed : Array Bool) (σ : St), (∀ o ∈ l, ∀ d, o.dst = some d → d ∈ ds) → (∀ j, j < l.length → l[j]? = ops[k + j]?) → k + l.length = n → Iv listed →
   Region.lexHead md ops g l.length k listed = true → INV ds σ → a4b P F ops ds l K σ →
   b6w P F md ops ds n (fun listed' σ' => Region.seqB md ops g n listed' = true ∧ INV ds σ' ∧ K σ') l.length listed σ
 | [], k, listed, σ, _, _, hk, _, hB, hI, h => by
   have : k = n := (by simpa using hk); subst this; exact ⟨by simpa [Region.lexHead] using hB, hI, h⟩
 | o :: l, k, listed, σ, hds, hl, hk, inv, hB, hI, h => by
   have h0 : ops[k]? = some o := by simpa using (hl 0 (by simp)).symm
   simp only [length_cons, Region.lexHead, Bool.and_eq_true] at hB; obtain ⟨⟨hr, hf⟩, hB'⟩ := hB; have hkn : k < n := by simp only [length_cons] at hk; omega
   have hr' : k ∈ Region.ready md ops listed := (by simpa using hr); obtain ⟨d, x, hy, hK⟩ := b4a (fun d hd => hds o (by simp) d hd) h; exact b9P Iv hset h0 hkn hlt (fun listed' a' hL => seqB_ready hL.1) l.length listed σ inv (Region.free_spec h0 hf) hr' hI hy
     (b6t Iv hset hlt l (k + 1) _ _ (fun o ho => hds o (by simp [ho])) (fun j hj => by have := hl (j + 1) (by simp; omega); simpa [Nat.add_assoc, Nat.add_comm 1 j] using this) (by simp only [length_cons] at hk; omega) (hset _ _ inv hr' hkn) hB' (hI.setv hy.2.2.1) hK)
theorem a3R (hR : Rel P w0 L0 row w L O σ (B5 a)) {b : Bool} (h : O7 ops o σ = some b) : Region.wanted o (yielded ops a.tmps) = b := by
 unfold O7 at h; cases hg : o.guard with
 | none => rw [hg] at h; simp only [Option.some.injEq] at h; subst h; simp [Region.wanted, hg]
 | some g =>
   obtain ⟨j, want⟩ := g; rw [hg] at h; simp only at h; cases ht : (ops[j]?).bind (·.dst) with
   | none => rw [ht] at h; cases h
   | some t =>
     rw [ht] at h; simp only at h; split at h
     · rename_i c hc
       simp only [Option.some.injEq] at h; have := a6u hR ht hc; simp only [Region.wanted, hg, this, ← h]; cases c <;> cases want <;> rfl
     · rename_i hc
       simp only [Option.some.injEq] at h; have := a5I hR ht hc; simp only [Region.wanted, hg, this, ← h]; rfl
     · cases h
theorem a7j {n g : Nat} {k : Nat} {Lq : Array Bool → St → Prop} (hdst : ∀ o ∈ ops.toList, ∀ d, o.dst = some d → d < k)
   (hL : ∀ listed a w, B8 P w0 L0 row k (fun σ => INV ds σ ∧ Lq listed σ) a w → wpAny P md ops Q g listed a w) :
   ∀ (f : Nat) (listed : Array Bool) (a : Act) (w : World), B8 P w0 L0 row k (fun σ => INV ds σ ∧ b6w P F md ops ds n Lq f listed σ) a w → wpAny P md ops Q (f + g) listed a w
 | 0, listed, a, w, h => by rw [Nat.zero_add]; exact hL _ _ _ h
 | f + 1, listed, a, w, h => by
   obtain ⟨L, O, σ, hR, hdef, hsz, hI, hne, hall⟩ := h; rw [show f + 1 + g = (f + g) + 1 by omega]; refine ⟨fun h0 => absurd h0 hne, fun i hi => ?_⟩; have hop := (hall i hi).2; unfold aOp at hop; unfold wpOp; split at hop
   · rename_i hoi
     simp only [hoi]; exact a7j hdst hL f _ a w ⟨L, O, σ, hR, hdef, hsz, hI, hop⟩
   · rename_i o hoi
     simp only [hoi]; obtain ⟨d, x, ⟨h1, h2, h3, h4⟩, hK⟩ := hop; have hmem : o ∈ ops.toList := by rw [Array.mem_toList_iff]; exact Array.mem_of_getElem? hoi
     have hlt := hdst o hmem; rcases h4 with ⟨hw, hp⟩ | ⟨hw, rfl⟩
     · rw [if_pos (a3R hR hw)]; refine .inl (Oper.wp_mono ?_ (a4S (K := fun τ => τ = put σ d x) h1 (hlt d h1) hsz hdef hR (a0Q hp fun y hy => by rw [hy]))); rintro a' w' ⟨L1, O1, σ1, hR1, hd1, hs1, rfl⟩; rw [S7 hI h2 h3] at hR1; exact a7j hdst hL f _ a' w' ⟨L1, O1, _, hR1, hd1, hs1, hI.setv h3, hK⟩
     · rw [if_neg (by rw [a3R hR hw]; simp)]; have hg := a3k (K := fun τ => τ = put σ d (.tup [])) hR hlt hsz hdef (by rw [h1]; rfl); obtain ⟨L1, O1, σ1, hR1, hd1, hs1, rfl⟩ := hg; rw [S7 hI h2 h3] at hR1; exact a7j hdst hL f _ _ w ⟨L1, O1, _, hR1, hd1, hs1, hI.setv h3, hK⟩
def F9 (ds : List Nat) (x : AV) : AV :=
 match x with
 | .bor j m e l => if ds.contains j then (if m then .undef else .d (.sl l)) else .bor j m e l
 | .adr j p => if ds.contains j then .undef else .adr j p
 | .eadr j i p => if ds.contains j then .undef else .eadr j i p
 | .sub j i => if ds.contains j then .undef else .sub j i
 | y => y
def K5 (ds : List Nat) (σ : St) : St := fun t => F9 ds (σ t)
theorem a5t (hb : ∀ d ∈ ds, d < 1000000) : INV ds (K5 ds σ) := by
 refine ⟨fun t => ?_, hb⟩; simp only [K5]; cases σ t with
 | bor j m e l =>
   simp only [F9]; by_cases h : ds.contains j = true
   · rw [if_pos h]; cases m <;> rfl
   · rw [if_neg h]; simpa [I3, I0] using h
 | adr j p =>
   simp only [F9]; by_cases h : ds.contains j = true
   · rw [if_pos h]; rfl
   · rw [if_neg h]; simpa [I3, I0] using h
 | eadr j i p =>
   simp only [F9]; by_cases h : ds.contains j = true
   · rw [if_pos h]; rfl
   · rw [if_neg h]; simpa [I3, I0] using h
 | sub j i =>
   simp only [F9]; by_cases h : ds.contains j = true
   · rw [if_pos h]; rfl
   · rw [if_neg h]; simpa [I3, I0] using h
 | _ => rfl
theorem Rel.clean (h : Rel P w0 L0 row w L O σ tm) (ds : List Nat) : Rel P w0 L0 row w L O (Vw.K5 ds σ) tm := by
 refine ⟨h.grown, h.lok, h.gl, h.old, fun i => ?_, h.inj, h.olt⟩; have h1 := h.slots i; have hown : ∀ {j m e l}, σ j = AV.own m e l → Vw.K5 ds σ j = .own m e l := fun hj => by simp only [Vw.K5, hj, F9]
 have hbox : ∀ {j b}, R8 (σ j) = some b → R8 (Vw.K5 ds σ j) = some b := fun {j b} hj => by
   simp only [Vw.K5]; cases hx : σ j <;> rw [hx] at hj <;> simp [R8] at hj <;> simpa [F9, R8] using hj
 have hown2 : ∀ {j y}, K0 (σ j) = some y → Vw.K5 ds σ j = σ j := fun {j y} hj => by
   simp only [Vw.K5]; cases hx : σ j <;> rw [hx] at hj <;> simp [K0] at hj <;> rfl
 show RA P w L O (Vw.K5 ds σ) tm (O i) (F9 ds (σ i)) (tm i)
 cases hx : σ i <;> rw [hx] at h1 <;> simp only [F9]
 case bor j m e l =>
   split
   · cases m with
     | true => simp [RA, RC]
     | false => exact RA.asD h.slots h1 rfl
   · exact ⟨hown h1.1, h1.2⟩
 case adr j p =>
   split
   · simp [RA, RC]
   · obtain ⟨b, g, off, e1, e2⟩ := h1; exact ⟨b, g, off, hbox e1, e2⟩
 case eadr j k p =>
   split
   · simp [RA, RC]
   · obtain ⟨e, l, g, sz, m, c, b, off, e1, e2⟩ := h1; exact ⟨e, l, g, sz, m, c, b, off, by rw [hown2 e1]; exact e1, by rw [hown2 e1]; exact e2⟩
 case sub j k =>
   split
   · simp [RA, RC]
   · obtain ⟨e, l, sz, e1, e2⟩ := h1; exact ⟨e, l, sz, by rw [hown2 e1]; exact e1, by rw [hown2 e1]; exact e2⟩
 all_goals exact h1
def a4Z (F : Nat → Bool) (d : Option Nat) : Op → Bool
 | .store _ _ _ => true
 | .call { callee := .builtin .append, .. } => true
 | .call { callee := .builtin .clear, .. } => true
 | .call { callee := .builtin .delete, .. } => true
 | .mapUpdate _ _ _ _ => true
 | .insert _ _ _ _ => true
 | .makeMap _ _ => true
 | .call { callee := .value _, .. } => match d with
   | some d => F (d + 3000000) || F (d + 4000000) || F (d + 5000000) || F (d + 17000000)
   | none => true
 | _ => false
def a2U (F : Nat → Bool) : List Oper → Nat
 | [] => 0
 | o :: l => if a4Z F o.dst o.op then 0 else a2U F l + 1
def N1 (l : List Oper) : List Nat := l.filterMap (·.dst)
def U0 (F : Nat → Bool) : List Oper → List Nat
 | [] => []
 | o :: l => if a4Z F o.dst o.op then [] else (match o.dst with
   | some d => d :: U0 F l
   | none => U0 F l)
theorem b0i : ∀ l : List Oper, U0 F l = N1 (l.take (a2U F l))
 | [] => rfl
 | o :: l => by
   simp only [U0, a2U]; by_cases he : a4Z F o.dst o.op = true
   · rw [if_pos he, if_pos he]; rfl
   · rw [if_neg he, if_neg he, take_succ_cons, b0i l]; cases ho : o.dst <;> simp [N1, ho]
def R9 (P : Program) (F : Nat → Bool) (ops : Array Oper) (ds : List Nat) : List Oper → (St → Prop) → St → Prop
 | [], K, σ => K σ
 | o :: rest, K, σ => if a4Z F o.dst o.op then K2 P F ops (o :: rest) K σ else A8 o.dst fun d => match o.guard with
   | none => D6 P F o.op d σ fun x => I3 ds x = true ∧ R9 P F ops ds rest K (B4 σ d x)
   | some (j, want) => A8 ((ops[j]?).bind (·.dst)) fun t => (match σ t with
     | .d (.bool b) => (b = want → D6 P F o.op d σ fun x => I3 ds x = true ∧ R9 P F ops ds rest K (B4 σ d x)) ∧ (b ≠ want → R9 P F ops ds rest K (B4 σ d (.tup [])))
     | .tup [] => R9 P F ops ds rest K (B4 σ d (.tup []))
     | _ => False)
theorem a2e : ∀ (l : List Oper) (σ : St), R9 P F ops ds l K σ → a4b P F ops ds (l.take (a2U F l)) (fun σ' => K2 P F ops (l.drop (a2U F l)) K σ') σ
 | [], σ, h => h
 | o :: l, σ, h => by
   simp only [R9] at h; by_cases he : a4Z F o.dst o.op = true
   · rw [if_pos he] at h; simp only [a2U, if_pos he, take_zero, drop_zero, a4b]; exact h
   · rw [if_neg he] at h; simp only [a2U, if_neg he, take_succ_cons, drop_succ_cons, a4b]; refine F8 h fun d h => ?_
     cases hg : o.guard with
     | none =>
       rw [hg] at h; exact a0Q h fun x hx => ⟨hx.1, a2e l _ hx.2⟩
     | some g =>
       obtain ⟨j, want⟩ := g; rw [hg] at h; refine F8 h fun t h => ?_
       split at h
       · exact ⟨fun e => a0Q (h.1 e) fun x hx => ⟨hx.1, a2e l _ hx.2⟩, fun e => a2e l _ (h.2 e)⟩
       · exact a2e l _ h
       · exact h.elim
def a1g (ops : Array Oper) (i : Nat) : Bool :=
 match ops[i]? with
 | some { dst := some d, op := .move (.tmp t), after, guard := none, .. } => after.isEmpty && Region.noSelect ops && (List.range ops.size).all fun j => j == i || (match ops[j]? with
   | some o => o.dst != some d && o.dst != some t && (!(o.looksAt ops).contains d || Region.waitsFor .any ops j i)
   | none => true)
 | _ => false
theorem a8k {i : Nat} (h : a1g ops i = true) : ∃ d t oi, ops[i]? = some oi ∧ oi.dst = some d ∧ oi.op = .move (.tmp t) ∧ oi.after = #[] ∧ oi.guard = none ∧ Region.noSelect ops = true ∧
   ∀ j o, ops[j]? = some o → j ≠ i → o.dst ≠ some d ∧ o.dst ≠ some t ∧ (d ∈ o.looksAt ops → Region.waitsFor .any ops j i = true) := by
 unfold a1g at h; split at h
 · rename_i d t ty pos after heq
   simp only [Bool.and_eq_true, Array.isEmpty_iff] at h; refine ⟨d, t, _, heq, rfl, rfl, h.1.1, rfl, h.1.2, fun j o ho hne => ?_⟩; have hj : j < ops.size := (Array.getElem?_eq_some_iff.1 ho).1; have := all_eq_true.1 h.2 j (mem_range.2 hj); simp only [ho, Bool.or_eq_true, beq_iff_eq, hne, false_or, Bool.and_eq_true, bne_iff_ne, ne_eq, Bool.not_eq_true', contains_eq_mem, decide_eq_false_iff_not] at this; exact ⟨this.1.1, this.1.2, fun hd => (this.2.resolve_left (fun h => h hd))⟩
 · cases h
theorem c5F {o : Oper} {a : Act} {K K' : Act → World → Prop} {Q' : Exit → Act → World → Prop} (hQ : ∀ ch a w, ¬ Q' (.panic ch) a w) (hL : ¬ LetsOut Q') (d : Nat) (v : Value) (he : execOp (a.put (some d) v).eval o = execOp a.eval o)
   (hK : ∀ (x : List Deferred) u w', K' (({ a with defers := x } : Act).put (some d) v |>.put o.dst u) w' → K (({ a with defers := x } : Act).put o.dst u) w') (h : o.wp P (a.put (some d) v) w K' Q') : o.wp P a w K Q' := by
 unfold Oper.wp at h ⊢; rw [he] at h; generalize (execOp a.eval o).run P w = res at h ⊢; unfold Oper.upon at h ⊢; split <;> simp only at h ⊢
 · exact hK a.defers _ _ h
 · exact hK a.defers _ _ h
 · exact hK _ _ _ h
 · refine h.mono ?_; intro e' w'' hh; cases e' with
   | returned u => exact hK a.defers _ _ hh
   | panicked ch => exact absurd hh (hQ _ _ _)
   | outgrown => exact absurd hh hL
 · exact h.mono fun u w'' hh => hK a.defers _ _ hh
 · exact absurd h (hQ _ _ _)
theorem b4A (h : Region.noSelect ops = true) {j : Nat} {o : Oper} (hj : ops[j]? = some o) : ∀ cs b, o.op ≠ .select cs b := by
 intro cs b e; unfold Region.noSelect at h; have := Array.all_eq_true'.1 h o (Array.mem_of_getElem? hj); rw [e] at this; simp at this
theorem b9U {i : Nat} {Q' : Exit → Act → World → Prop} (hQ : ∀ ch a w, ¬ Q' (.panic ch) a w) (hL : ¬ LetsOut Q') {d t : Nat} {oi : Oper} (hi : ops[i]? = some oi) (h1 : oi.dst = some d) (h2 : oi.op = .move (.tmp t)) (h3 : oi.after = #[]) (h4 : oi.guard = none) (h5 : Region.noSelect ops = true)
   (h6 : ∀ j o, ops[j]? = some o → j ≠ i → o.dst ≠ some d ∧ o.dst ≠ some t ∧ (d ∈ o.looksAt ops → Region.waitsFor .any ops j i = true)) :
   ∀ (f : Nat) (listed : Array Bool) (a : Act) (w : World), listed.getD i true = false →
     wpAny P .any ops Q' f (listed.setIfInBounds i true) (a.put (some d) (a.eval (.tmp t))) w → wpAny P .any ops Q' (f + 1) listed a w := by
 intro f
 induction f with
 | zero =>
   intro listed a w hun H; have hr : i ∈ Region.ready .any ops listed := mem_ready.2 ⟨hun, oi, hi, fun e he => by rw [h3] at he; simp at he⟩; refine ⟨fun h => (by rw [h] at hr; cases hr), fun j hj => ?_⟩; by_cases hji : j = i
   · subst hji; unfold wpOp; simp only [hi, Region.wanted, h4, if_true]; refine .inl ?_; have : (execOp a.eval oi).run P w = .ok (.value (a.eval (.tmp t))) w := (by simp [execOp, h2]); unfold Oper.wp; rw [this]; simp only [Oper.upon, h1]; exact H
   · have := ready_mono hj hji; rw [H.1] at this; cases this
 | succ f ih =>
   intro listed a w hun H; have hr : i ∈ Region.ready .any ops listed := mem_ready.2 ⟨hun, oi, hi, fun e he => by rw [h3] at he; simp at he⟩; refine ⟨fun h => (by rw [h] at hr; cases hr), fun j hj => ?_⟩; by_cases hji : j = i
   · subst hji; unfold wpOp; simp only [hi, Region.wanted, h4, if_true]; refine .inl ?_; have : (execOp a.eval oi).run P w = .ok (.value (a.eval (.tmp t))) w := (by simp [execOp, h2]); unfold Oper.wp; rw [this]; simp only [Oper.upon, h1]; exact H
   · have hstep := H.2 j (ready_mono hj hji); obtain ⟨hjun, oj, hoj, hall⟩ := mem_ready.1 hj; obtain ⟨g1, g2, g3⟩ := h6 j oj hoj hji; have hnl : d ∉ oj.looksAt ops := fun hd => by
       obtain ⟨o', ho', e, he, hb, hon⟩ := Region.waitsFor_spec (g3 hd); obtain rfl : oj = o' := Option.some.inj (hoj.symm.trans ho'); have := hall e he hb; rw [hon, getD_both hun] at this; cases this
     have hne : ∀ (x : List Deferred) (u : Value), (({ a with defers := x } : Act).put (some d) (a.eval (.tmp t))).put oj.dst u = (({ a with defers := x } : Act).put oj.dst u).put (some d) ((({ a with defers := x } : Act).put oj.dst u).eval (.tmp t)) := by
       intro x u; rw [Act.put_comm _ _ _ (fun d' hd' => by obtain rfl : d = d' := (by simpa using hd'); exact g1)]; congr 1
       rw [Act.eval_put (fun d' hd' e => by
         simp only [Operand.tmp.injEq] at e; subst e; exact g2 hd')]
       rfl
     have next : ∀ (x : List Deferred) (u : Value) (w' : World), wpAny P .any ops Q' f ((listed.setIfInBounds i true).setIfInBounds j true) ((({ a with defers := x } : Act).put (some d) (a.eval (.tmp t))).put oj.dst u) w' →
         wpAny P .any ops Q' (f + 1) (listed.setIfInBounds j true) (({ a with defers := x } : Act).put oj.dst u) w' := by
       intro x u w' hx; rw [hne x u, Array.setIfInBounds_comm _ _ (Ne.symm hji)] at hx; exact ih _ _ _ (by rw [getD_set_ne true hji]; exact hun) hx
     unfold wpOp at hstep ⊢; simp only [hoj] at hstep ⊢; have hy : Region.wanted oj (yielded ops (a.put (some d) (a.eval (.tmp t))).tmps) = Region.wanted oj (yielded ops a.tmps) := by
       unfold Region.wanted; cases hg : oj.guard with
       | none => rfl
       | some g =>
         obtain ⟨k, want⟩ := g; have : yielded ops (a.put (some d) (a.eval (.tmp t))).tmps k = yielded ops a.tmps k := by
           unfold yielded; cases hk : (ops[k]?).bind (·.dst) with
           | none => rfl
           | some s =>
             have hsd : d ≠ s := by
               rintro rfl; exact hnl (by simp [Oper.looksAt, hg, hk])
             simp [Act.put, Array.getElem?_setIfInBounds_ne hsd]
         simp only [this]
     rw [hy] at hstep; split
     · rename_i hw
       rw [if_pos hw] at hstep; rcases hstep with hstep | ⟨_, hstep⟩
       · exact .inl (c5F hQ hL d _ (execOp_put (ops := ops) oj (b4A h5 hoj) a (some d) _ (fun d' hd' => by obtain rfl : d = d' := (by simpa using hd'); exact hnl)) next hstep)
       · exact absurd hstep hL
     · rename_i hw
       rw [if_neg hw] at hstep; exact next a.defers undef w hstep
def b4D (ops : Array Oper) : Nat := ((List.range ops.size).takeWhile (a1g ops)).length
theorem b9h {i : Nat} (h : i < b4D ops) : a1g ops i = true := by
 have hmem : ((List.range ops.size).takeWhile (a1g ops))[i]? = some i := by
   have h1 : (List.range ops.size).takeWhile (a1g ops) <+: List.range ops.size := takeWhile_prefix _; obtain ⟨r, hr⟩ := h1; have h2 : (List.range ops.size)[i]? = ((List.range ops.size).takeWhile (a1g ops))[i]? := by
     conv => lhs; rw [← hr]
     exact getElem?_append_left h
   rw [← h2]; have h3 : i < (List.range ops.size).length := by rw [← hr]; simp only [length_append]; unfold b4D at h; omega
   rw [getElem?_range (by simpa using h3)]
 exact all_takeWhile (p := a1g ops) (l := List.range ops.size) |> fun h => all_eq_true.1 h i (mem_of_getElem? hmem)
def N7 : Nat → Array Bool → Array Bool
 | 0, l => l
 | k + 1, l => (N7 k l).setIfInBounds k true
def a3Q (ops : Array Oper) (k n : Nat) : Bool := (List.range n).all fun i => decide (i < k) || (List.range (n + 1)).any fun j => decide (i < j) && Region.waitsFor .any ops j i
theorem a5T {k n : Nat} {listed : Array Bool} (hs : a3Q ops k n = true) (hc : Region.chainB .any ops n = true) (hn : n < ops.size) (inv : HeadInv .any ops n listed) (hk : ∀ i, i < k → listed.getD i false = true) :
   ∀ (d i : Nat), n - i = d → i < n → listed.getD i true = false → ∀ t, n ≤ t → t ∉ Region.ready .any ops listed := by
 intro d
 induction d using Nat.strongRecOn with
 | _ d ih =>
   intro i hd hi hun t ht hr; obtain ⟨_, ot, hot, hall⟩ := mem_ready.1 hr; have htlt : t < ops.size := (Array.getElem?_eq_some_iff.1 hot).1; by_cases htn : t = n
   · subst htn; have h1 := all_eq_true.1 hs i (mem_range.2 hi); simp only [Bool.or_eq_true, decide_eq_true_eq] at h1; rcases h1 with h1 | h1
     · have := hk i h1; rw [getD_both hun] at this; cases this
     obtain ⟨j, hj, hj2⟩ := any_eq_true.1 h1; simp only [Bool.and_eq_true, decide_eq_true_eq] at hj2; obtain ⟨oj, hoj, e, he, hb, hon⟩ := Region.waitsFor_spec hj2.2; have hjle : j ≤ t := by have := mem_range.1 hj; omega
     by_cases hjt : j = t
     · subst hjt; have : oj = ot := Option.some.inj (hoj.symm.trans hot); subst this; have h2 := hall e he hb; rw [hon, getD_both hun] at h2; cases h2
     · cases hl : listed.getD j false with
       | true =>
         have h2 := inv.closed j oj hoj hl e he hb; rw [hon, getD_both hun] at h2; cases h2
       | false =>
         have hjs : j < listed.size := by rw [inv.size]; omega
         exact ih (t - j) (by omega) j rfl (by omega) (getD_in hjs hl) t (Nat.le_refl _) hr
   · have h1 := all_eq_true.1 hc t (mem_range.2 htlt); simp only [Bool.or_eq_true, decide_eq_true_eq] at h1; rcases h1 with h1 | h1
     · omega
     · obtain ⟨o', ho', e, he, hb, hon⟩ := Region.waitsFor_spec h1; have : o' = ot := Option.some.inj (ho'.symm.trans hot); subst this; have h2 := hall e he hb; rw [hon, getD_both (inv.tail (t - 1) (by omega) (by omega))] at h2; cases h2
def b4S (F : Nat → Bool) (ops : Array Oper) : Bool :=
 let n := a2U F ops.toList
 let k := min n (b4D ops)
 (decide (n = ops.size) || (decide (n < ops.size) && a3Q ops k n && Region.chainB .any ops n)) &&
 Region.lexHead .any ops (ops.size - n) (n - k) k (N7 k (Array.replicate ops.size false)) && (ops.toList.all fun o => match o.dst with
   | some d => decide (d < 1000000)
   | none => true)
theorem b4Z : ∀ (l : List Oper), a2U F l ≤ l.length
 | [] => Nat.le_refl _
 | o :: l => by simp only [a2U]; split <;> simp; have := b4Z l; omega
theorem b1r (s : Nat) : ∀ m, (N7 m (Array.replicate s false)).size = s
 | 0 => by simp [N7]
 | m + 1 => by simp [N7, b1r s m]
theorem a1y {s : Nat} : ∀ (m i : Nat), m ≤ i → i < s → (N7 m (Array.replicate s false)).getD i true = false
 | 0, i, _, hi => getD_in (by simpa [N7] using hi) (getD_replicate_false _ _)
 | m + 1, i, h, hi => by
   simp only [N7]; rw [getD_set_ne true (by omega)]; exact a1y m i (by omega) hi
theorem a3t {s : Nat} : ∀ (m i : Nat), i < m → i < s → (N7 m (Array.replicate s false)).getD i false = true
 | 0, i, h, _ => by omega
 | m + 1, i, h, hi => by
   simp only [N7]; by_cases him : m = i
   · subst him; have := b1r s m; simp [this, hi]
   · rw [getD_set_ne false him]; exact a3t m i (by omega) hi
theorem b3h {nn : Nat} (hn : nn ≤ ops.size) : ∀ (m : Nat), m ≤ nn → (∀ i, i < m → a1g ops i = true) → HeadInv .any ops nn (N7 m (Array.replicate ops.size false))
 | 0, _, _ => ⟨by simp [N7], fun j oj _ hl => (by simp only [N7] at hl; rw [getD_replicate_false] at hl; cases hl), fun t _ ht => a1y 0 t (Nat.zero_le _) ht⟩
 | m + 1, hm, hl => by
   have ih := b3h hn m (by omega) (fun i hi => hl i (by omega)); obtain ⟨d, t, oi, g1, g2, g3, g4, g5, g6, g7⟩ := a8k (hl m (by omega)); refine ih.set (mem_ready.2 ⟨a1y m m (Nat.le_refl _) (by omega), oi, g1, fun e he => ?_⟩) (by omega); rw [g4] at he; simp at he
theorem c6f {id kk : Nat} {K : St → Prop} (hm : P.follows .mixedOrders = true) (hB : b4S F ops = true) (hdst : ∀ o ∈ ops.toList, ∀ d, o.dst = some d → d < kk)
   (h : B8 P w0 L0 row kk (fun σ => R9 P F ops (U0 F ops.toList) ops.toList K (K5 (U0 F ops.toList) σ)) a w) (hQ : ∀ a w, B8 P w0 L0 row kk K a w → Q .normal a w) : (Code.region id ops true).wp P Q a w := by
 obtain ⟨L, O, σ, hR, hdef, hsz, h⟩ := h; simp only [b4S] at hB; generalize hnn : a2U F ops.toList = nn at hB; generalize hkk : min nn (b4D ops) = k at hB; simp only [Bool.and_eq_true, Bool.or_eq_true, decide_eq_true_eq] at hB; obtain ⟨⟨hcase, hlex⟩, hlt6⟩ := hB; have hle := b4Z (F := F) ops.toList; rw [Array.length_toList, hnn] at hle; have hkn : k ≤ nn := (by omega); have hlate : ∀ i, i < k → a1g ops i = true := fun i hi => b9h (by omega)
 have hds6 : ∀ d ∈ U0 F ops.toList, d < 1000000 := by
   intro d hd; rw [b0i] at hd; simp only [N1, mem_filterMap] at hd; obtain ⟨o, ho, hod⟩ := hd; have := all_eq_true.1 hlt6 o (mem_of_mem_take ho); simpa [hod] using this
 have hds : ∀ o ∈ ops.toList.take nn, ∀ d, o.dst = some d → d ∈ U0 F ops.toList := fun o ho d hd => by rw [b0i, hnn]; simp only [N1, mem_filterMap]; exact ⟨o, ho, hd⟩
 let Q0 : Exit → Act → World → Prop := fun e a w => e = .normal ∧ B8 P w0 L0 row kk K a w
 have hQp : ∀ ch a w, ¬ Q0 (.panic ch) a w := fun ch a w h => by cases h.1
 have hQl : ¬ LetsOut Q0 := fun ⟨a, w, h⟩ => by cases h.1
 refine wp_mono (Q := Q0) (wp_region_any hm ?_) (fun e a w ⟨he, hg⟩ => by subst he; exact hQ a w hg); generalize hw1 : ({ w with drawn := w.drawn + 1 } : World) = w1; have hR1 : Rel P w0 L0 row w1 L O (K5 (U0 F ops.toList) σ) (B5 a) := by rw [← hw1]; exact (hR.drew).clean _
 have h0 := a2e (F := F) _ _ h; rw [hnn] at h0; have htl : (ops.toList.take nn).length = nn := by simp; omega
 have hdl : (ops.toList.drop nn).length = ops.size - nn := (by simp); have main : ∀ j, j ≤ k → ∀ a, B8 P w0 L0 row kk (fun σ => INV (U0 F ops.toList) σ ∧ a4b P F ops (U0 F ops.toList) ((ops.toList.take nn).drop (k - j)) (fun σ' => K2 P F ops (ops.toList.drop nn) K σ') σ) a w1 →
     wpAny P .any ops Q0 (ops.size - (k - j)) (N7 (k - j) (Array.replicate ops.size false)) a w1 := by
   intro j
   induction j with
   | zero =>
     intro _ a hg; simp only [Nat.sub_zero] at hg ⊢; obtain ⟨L1, O1, a0, hR2, hd2, hs2, hI, hv⟩ := hg; have inv0 := b3h hle k hkn hlate; have hk0 : ∀ i, i < k → (N7 k (Array.replicate ops.size false)).getD i false = true := fun i hi => a3t k i hi (by omega)
     have hlt : ∀ listed, HeadInv .any ops nn listed ∧ (∀ i, i < k → listed.getD i false = true) → ∀ i, i < nn → listed.getD i true = false → ∀ j ∈ Region.ready .any ops listed, j < nn := by
       intro listed ⟨inv, hk⟩ i hi hun j hj; rcases hcase with h1 | ⟨⟨h1, h2⟩, h3⟩
       · obtain ⟨_, o, ho, _⟩ := mem_ready.1 hj; rw [h1]; exact (Array.getElem?_eq_some_iff.1 ho).1
       · rcases Nat.lt_or_ge j nn with h4 | h4
         · exact h4
         · exact absurd hj (a5T h2 h3 h1 inv hk _ i rfl hi hun j h4)
     have H := b6t (md := .any) (g := ops.size - nn) (P := P) (F := F) (ds := U0 F ops.toList) (K := fun σ' => K2 P F ops (ops.toList.drop nn) K σ') (fun listed => HeadInv .any ops nn listed ∧ ∀ i, i < k → listed.getD i false = true)
       (fun listed j ⟨h1, h2⟩ hj hjn => ⟨h1.set hj hjn, fun i hi => getD_set_true (h2 i hi)⟩) hlt ((ops.toList.take nn).drop k) k _ a0 (fun o ho => hds o (mem_of_mem_drop ho)) (fun j hj => by
         have hj' : k + j < nn := by simp at hj; omega
         simp [getElem?_drop, getElem?_take, hj']) (by simp; omega) ⟨inv0, hk0⟩ (by rw [length_drop, htl]; exact hlex) hI hv
     have := a7j (md := .any) (Q := Q0) (g := ops.size - nn) (k := kk) (w0 := w0) (L0 := L0) (row := row) hdst (fun listed a' w' hg => by
       obtain ⟨L1, O1, σ1, hR1, hd1, hs1, _, hseq, _, hv⟩ := hg; have := wpAny_of_seq (md := .any) (Q' := Q0) (P := P) (ops.toList.drop nn) nn listed a' w' (fun j => by simp [getElem?_drop]) (by rw [hdl]; exact hseq)
         (a5Y (ops.toList.drop nn) a' w' (fun o ho d hd => hdst o (mem_of_mem_drop ho) d hd) ⟨L1, O1, σ1, hR1, hd1, hs1, hv⟩ (fun a w hg => ⟨rfl, hg⟩))
       rwa [hdl] at this) _ _ a w1 ⟨L1, O1, a0, hR2, hd2, hs2, hI, H⟩
     rw [length_drop, htl, show nn - k + (ops.size - nn) = ops.size - k by omega] at this; exact this
   | succ j ih =>
     intro hj a hg; have hik : k - (j + 1) < k := (by omega); obtain ⟨d, t, oi, g1, g2, g3, g4, g5, g6, g7⟩ := a8k (hlate _ hik); have hsucc : k - j = k - (j + 1) + 1 := (by omega); have hstep : ops.size - (k - (j + 1)) = (ops.size - (k - j)) + 1 := (by omega); rw [hstep]; refine b9U hQp hQl g1 g2 g3 g4 g5 g6 g7 _ _ _ _ (a1y _ _ (Nat.le_refl _) (by omega)) ?_; have hmk : (N7 (k - (j + 1)) (Array.replicate ops.size false)).setIfInBounds (k - (j + 1)) true = N7 (k - j) (Array.replicate ops.size false) := by rw [hsucc]; rfl
     rw [hmk]; refine ih (by omega) _ ?_; obtain ⟨L1, O1, σ1, hR2, hd2, hs2, hI, hv⟩ := hg; have hcons : (ops.toList.take nn).drop (k - (j + 1)) = oi :: (ops.toList.take nn).drop (k - j) := by
       rw [drop_eq_getElem_cons (by rw [htl]; omega), hsucc]; congr 1
       have : (ops.toList.take nn)[k - (j + 1)]? = some oi := by rw [getElem?_take, if_pos (by omega)]; simpa using g1
       exact (List.getElem?_eq_some_iff.1 this).2
     rw [hcons] at hv; have hmem : oi ∈ ops.toList := by rw [Array.mem_toList_iff]; exact Array.mem_of_getElem? g1
     have hmemt : oi ∈ ops.toList.take nn := mem_of_mem_drop (i := k - (j + 1)) (by rw [hcons]; simp); obtain ⟨d', x, ⟨y1, y2, y3, y4⟩, hK⟩ := b4a (hds oi hmemt) hv; obtain rfl : d = d' := by rw [g2] at y1; simpa using y1
     have hp : D6 P F oi.op d σ1 (fun y => y = x) := by
       rcases y4 with ⟨_, hp⟩ | ⟨hw, _⟩
       · exact hp
       · simp [O7, g5] at hw
     have hwp := a4S (K := fun τ => τ = put σ1 d x) (Q := fun _ _ _ => False) g2 (hdst oi hmem d g2) hs2 hd2 hR2 (a0Q hp fun y hy => by rw [hy]); have hrun : (execOp a.eval oi).run P w1 = .ok (.value (a.eval (.tmp t))) w1 := (by simp [execOp, g3]); unfold Oper.wp at hwp; rw [hrun] at hwp; simp only [Oper.upon, g2] at hwp; obtain ⟨L2, O2, σ2, hR3, hd3, hs3, rfl⟩ := hwp; rw [S7 hI y2 y3] at hR3; exact ⟨L2, O2, _, hR3, hd3, hs3, hI.setv y3, hK⟩
 have := main k (Nat.le_refl _) a ⟨L, O, _, hR1, hdef, hsz, a5t hds6, by rw [Nat.sub_self, drop_zero]; exact h0⟩; rw [Nat.sub_self] at this; exact this
end Go.Vw
namespace Go.Vw
open Go.RowKit Go.Proofs
variable {P : Program} {F : Nat → Bool} {w0 : World} {L0 : Nat → Nat → Prop} {row : Nat → Prop} {n : Nat} {K : St → Prop} {Q : Exit → Act → World → Prop}
 {w : World} {a : Act} {ops : Array Oper}
inductive OT where
 | leaf
 | stuck
 | node (l : List (Nat × OT))
mutual
def aT (P : Program) (F : Nat → Bool) (ops : Array Oper) (K : St → Prop) : OT → St → Prop
 | .leaf, σ => K σ
 | .stuck, _ => False
 | .node l, σ => aTL P F ops K l σ
def aTL (P : Program) (F : Nat → Bool) (ops : Array Oper) (K : St → Prop) : List (Nat × OT) → St → Prop
 | [], _ => True
 | (i, t) :: l, σ => (match ops[i]? with
   | none => aT P F ops K t σ
   | some o => K2 P F ops [o] (aT P F ops K t) σ) ∧ aTL P F ops K l σ
end
def a6e (ops : Array Oper) : Nat → Array Bool → OT
 | 0, listed => if Region.ready .any ops listed = [] then .leaf else .stuck
 | g + 1, listed => if Region.ready .any ops listed = [] then .leaf else .node ((Region.ready .any ops listed).map fun i => (i, a6e ops g (listed.setIfInBounds i true)))
theorem c5j {o : Oper} {K' : Act → World → Prop} (hdst : ∀ d, o.dst = some d → d < n) (h : B8 P w0 L0 row n (K2 P F ops [o] K) a w) (hQ : ∀ a w, B8 P w0 L0 row n K a w → K' a w) :
   if Region.wanted o (yielded ops a.tmps) then o.wp P a w K' Q ∨ (o.asks P a w ∧ LetsOut Q) else K' (a.put o.dst undef) w := by
 have hrest : ∀ a w, B8 P w0 L0 row n (K2 P F ops [] K) a w → K' a w := fun a w hg => hQ a w hg
 obtain ⟨L, O, σ, hR, hdef, hsz, hv⟩ := h; simp only [K2] at hv; have run : vop P F o K σ → o.wp P a w K' Q := fun hv => by
   have h1 : o.wp P a w (B8 P w0 L0 row n K) Q := a4C hdst hsz hdef hR hv; exact Oper.wp_mono hQ h1
 cases hg : o.guard with
 | none =>
   rw [hg] at hv; simp only [Region.wanted, hg, if_true]; exact .inl (run hv)
 | some g =>
   obtain ⟨j, want⟩ := g; rw [hg] at hv; obtain ⟨t, ht, hv⟩ := A4 hv; split at hv
   · rename_i b hb
     have hy := a6u hR ht hb; by_cases hbw : b = want
     · have : Region.wanted o (yielded ops a.tmps) = true := (by simp [Region.wanted, hg, hy, hbw]); rw [if_pos this]; exact .inl (run (hv.1 hbw))
     · have : ¬ Region.wanted o (yielded ops a.tmps) = true := (by simp [Region.wanted, hg, hy, hbw]); rw [if_neg this]; exact hQ _ _ (a3k hR hdst hsz hdef (hv.2 hbw))
   · rename_i hb
     have hy := a5I hR ht hb; have : ¬ Region.wanted o (yielded ops a.tmps) = true := (by simp [Region.wanted, hg, hy]); rw [if_neg this]; exact hQ _ _ (a3k hR hdst hsz hdef hv)
   · exact hv.elim
theorem b7N : ∀ {l : List (Nat × OT)} {σ : St}, aTL P F ops K l σ → ∀ {i : Nat} {t : OT}, (i, t) ∈ l → (match ops[i]? with
   | none => aT P F ops K t σ
   | some o => K2 P F ops [o] (aT P F ops K t) σ)
 | [], _, _, _, _, hm => by simp at hm
 | x :: l, σ, h, i, t, hm => by
   simp only [aTL] at h; rcases mem_cons.1 hm with rfl | hm
   · exact h.1
   · exact b7N h.2 hm
theorem c7s (hdst : ∀ o ∈ ops.toList, ∀ d, o.dst = some d → d < n) (hQ : ∀ a w, B8 P w0 L0 row n K a w → Q .normal a w) :
   ∀ (g : Nat) (listed : Array Bool) (a : Act) (w : World), B8 P w0 L0 row n (aT P F ops K (a6e ops g listed)) a w → wpAny P .any ops Q g listed a w := by
 intro g
 induction g with
 | zero =>
   intro listed a w h; rw [a6e] at h; split at h
   · rename_i hr
     simp only [aT] at h; exact ⟨hr, hQ a w h⟩
   · simp only [aT] at h; obtain ⟨_, _, _, _, _, _, hf⟩ := h; exact hf.elim
 | succ g ih =>
   intro listed a w h; rw [a6e] at h; split at h
   · rename_i hr
     simp only [aT] at h; refine ⟨fun _ => hQ a w h, fun i hi => ?_⟩; rw [hr] at hi; cases hi
   · rename_i hr
     refine ⟨fun h0 => absurd h0 hr, fun i hi => ?_⟩; simp only [aT] at h; obtain ⟨L, O, σ, hR, hdef, hsz, hv⟩ := h; have h1 := b7N hv (i := i) (t := a6e ops g (listed.setIfInBounds i true)) (mem_map.2 ⟨i, hi, rfl⟩); unfold wpOp; split at h1
     · rename_i ho
       rw [ho]; exact ih _ _ _ ⟨L, O, σ, hR, hdef, hsz, h1⟩
     · rename_i o ho
       rw [ho]; simp only; exact c5j (hdst o (Array.mem_toList_iff.2 (Array.mem_of_getElem? ho))) ⟨L, O, σ, hR, hdef, hsz, h1⟩ (fun a w hg => ih _ _ _ hg)
end Go.Vw
namespace Go.Vw
open Go.RowKit Go.Proofs
variable {P : Program} {F : Nat → Bool} {w0 : World} {L0 : Nat → Nat → Prop} {row : Nat → Prop} {n : Nat} {K : St → Prop} {Q : Exit → Act → World → Prop}
 {w w' : World} {L L' : Nat → Nat → Prop} {O O' : Nat → Option Nat} {σ σ' : St} {a : Act} {o : Oper} {d : Nat} {v : Value} {tm : Nat → Value}
 {ops : Array Oper} {ds : List Nat}
def wrO (o : Oper) : Option Nat :=
 match o.dst with
 | some d => some d
 | none => (match o.op with
   | .store _ (.tmp s) _ => some s
   | _ => none)
def T9 (F : Nat → Bool) (o : Oper) : Option Nat :=
 match o.dst with
 | none => none
 | some d => (match o.op with
   | .call { callee := .builtin .append, args, argTypes := _ } => (match args.toList with
     | .tmp s :: _ => some s
     | _ => none)
   | .call { callee := .value (.func _), args, argTypes := _ } => if F (19000000 + d) = true then (match args.toList with
     | [.tmp s] => some s
     | _ => none) else none
   | .assign (.tmp t) => some t
   | .move (.tmp t) => if F (18000000 + d) = true then some t else none
   | _ => none)
def wrS (F : Nat → Bool) (o : Oper) : List Nat := (wrO o).toList ++ (T9 F o).toList
def kl (s : Option Nat) (σ : St) : St := match s with
 | some s => B4 σ s .undef
 | none => σ
def W4 (F : Nat → Bool) (o : Oper) (d : Nat) (x : AV) (σ : St) : St := B4 (kl (T9 F o) σ) d x
def a4K (F : Nat → Bool) (ops : Array Oper) (x y : Oper) : Bool :=
 (wrO x).isSome && (wrO y).isSome && ((wrS F x).all fun d => !(y.looksAt ops).contains d && !(wrS F y).contains d) && ((wrS F y).all fun e => !(x.looksAt ops).contains e)
def b4L (F : Nat → Bool) (ops : Array Oper) (n : Nat) : Bool := (List.range n).all fun k => match ops[k]? with
 | some o => o.guard.isNone && (match wrO o with
   | some d => decide (d < 1000000) && (match T9 F o with
     | some s => decide (s < 1000000) && decide (s ≠ d)
     | none => true)
   | none => false) && (o.after.all fun e => !Region.binds .any e || decide (e.on < k)) && ((List.range k).all fun j => Region.waitsFor .any ops k j || (match ops[j]? with
   | some oj => a4K F ops oj o
   | none => false))
 | none => false
def c7V (F : Nat → Bool) (o : Oper) : Bool := match o.dst with
 | some d => !F (15000000 + d)
 | none => false
def a5R (F : Nat → Bool) : List Oper → List Oper
 | [] => []
 | o :: l => if c7V F o = true then o :: a5R F l else []
def a4l (F : Nat → Bool) : List Oper → List Oper
 | [] => []
 | o :: l => if c7V F o = true then a4l F l else o :: l
theorem b6u (F : Nat → Bool) : ∀ l : List Oper, a5R F l ++ a4l F l = l
 | [] => rfl
 | o :: l => by
   simp only [a5R, a4l]; split
   · rw [cons_append, b6u F l]
   · rfl
def a2Z (F : Nat → Bool) (b : Bool) (l : List Oper) : List Oper := if b = true then a5R F l else l
def a8G (F : Nat → Bool) (b : Bool) (l : List Oper) : List Oper := if b = true then a4l F l else []
theorem c5M (F : Nat → Bool) (b : Bool) (l : List Oper) : a2Z F b l ++ a8G F b l = l := by
 cases b
 · simp [a2Z, a8G]
 · simpa [a2Z, a8G] using b6u F l
def c4U (F : Nat → Bool) (ops : Array Oper) (n : Nat) : Bool := b4L F ops n && (decide (n = ops.size) || (decide (n < ops.size) && a3Q ops 0 n && Region.chainB .any ops n)) && Region.seqB .any ops (ops.size - n) n (N7 n (Array.replicate ops.size false))
def b8m (F : Nat → Bool) (b : Bool) (ops : Array Oper) : Bool := c4U F ops (a2Z F b ops.toList).length
def wrs (F : Nat → Bool) (l : List Oper) : List Nat := l.flatMap (wrS F)
def a8W : Op → Option TypeId
 | .alloc e => some e
 | _ => none
def b5m (P : Program) (F : Nat → Bool) (op : Op) (d : Nat) (σ : St) (C : AV → Prop) : Prop :=
 match op with
 | .call { callee := .builtin .append, args, argTypes } => (match args.toList, argTypes.toList with
   | [.tmp s, y], [t, t'] => t' = t ∧ A8 (H3 P t) fun e => (match σ s with
     | .own true e' l => e' = e ∧ A8 (esz P e) fun z => A8 (P8 (A0 σ y)) fun ds => (∀ u ∈ ds, B6 u = z.1) ∧ (l.length + ds.length) * z.2 ≤ 140737488355328 ∧ l.length + ds.length ≤ 140737488355328 ∧ C (.own (F d) e (l ++ ds))
     | _ => False)
   | _, _ => False)
 | .assign (.tmp t) => (match σ t with
   | .own m e l => C (.own m e l)
   | _ => D6 P F (.assign (.tmp t)) d σ C)
 | .move (.tmp t) => if F (18000000 + d) = true then (match σ t with
   | .own true e l => C (.own true e l)
   | _ => False) else D6 P F (.move (.tmp t)) d σ C
 | .call { callee := .value (.func g), args, argTypes } => if F (19000000 + d) = true then (match args.toList with
   | [.tmp s] => (match σ s with
     | .own true e l => ∃ r, Ctr P g [.own true e l] r ∧ C (N9 (F d) r)
     | _ => False)
   | _ => False) else D6 P F (.call { callee := .value (.func g), args, argTypes }) d σ C
 | op => D6 P F op d σ C
def F5 (P : Program) (F : Nat → Bool) (ds : List Nat) : List Oper → (St → Prop) → St → Prop
 | [], K, σ => K σ
 | o :: rest, K, σ => match o.dst with
   | some d => (match a8W o.op with
     | some e => if F (d + 1000000) = true then False else A8 (D3 P e) fun z => F5 P F ds rest K (B4 σ d (.box z))
     | none => b5m P F o.op d σ fun x => I3 ds x = true ∧ F5 P F ds rest K (W4 F o d x σ))
   | none => (match o.op with
     | .store t (.tmp s) y => (match σ s with
       | .box b => A8 (asD (A0 σ y)) fun u => B6 u = B6 b ∧ D4 P t = some (B6 u) ∧ F5 P F ds rest K (B4 σ s (.box u))
       | _ => False)
     | _ => False)
def b9b (P : Program) (F : Nat → Bool) (o : Oper) (d : Nat) (σ : St) (x : AV) : Prop :=
 (o.dst = some d ∧ D6 P F o.op d σ (fun y => y = x)) ∨
 (o.dst = some d ∧ ∃ e z, o.op = .alloc e ∧ F (d + 1000000) = false ∧ D3 P e = some z ∧ x = .box z) ∨
 (o.dst = none ∧ ∃ t y b u, o.op = .store t (.tmp d) y ∧ σ d = .box b ∧ asD (A0 σ y) = some u ∧ B6 u = B6 b ∧ D4 P t = some (B6 u) ∧ x = .box u) ∨
 (o.dst = some d ∧ ∃ args ts s y t e l z ds, o.op = .call { callee := .builtin .append, args, argTypes := ts } ∧ args.toList = [.tmp s, y] ∧ ts.toList = [t, t] ∧ H3 P t = some e ∧ σ s = .own true e l ∧ esz P e = some z ∧ P8 (A0 σ y) = some ds ∧ (∀ u ∈ ds, B6 u = z.1) ∧ (l.length + ds.length) * z.2 ≤ 140737488355328 ∧ l.length + ds.length ≤ 140737488355328 ∧ x = .own (F d) e (l ++ ds)) ∨
 (o.dst = some d ∧ ∃ t m e l, (o.op = .assign (.tmp t) ∨ (o.op = .move (.tmp t) ∧ F (18000000 + d) = true)) ∧ σ t = .own m e l ∧ x = .own m e l) ∨
 (o.dst = some d ∧ ∃ g args ts s e l r, o.op = .call { callee := .value (.func g), args, argTypes := ts } ∧ F (19000000 + d) = true ∧ args.toList = [.tmp s] ∧ σ s = .own true e l ∧ Ctr P g [.own true e l] r ∧ x = N9 (F d) r)
def XV (P : Program) (F : Nat → Bool) (ds : List Nat) (o : Oper) (d : Nat) (σ : St) (x : AV) : Prop := wrO o = some d ∧ (∀ s ∈ wrS F o, s ∈ ds) ∧ I3 ds x = true ∧ b9b P F o d σ x
theorem a1K {o : Oper} {d : Nat} (h : wrO o = some d) : d ∈ wrS F o := by simp [wrS, h]
theorem a0W {o : Oper} {d : Nat} (h : T9 F o = some d) : d ∈ wrS F o := by simp [wrS, h]
theorem c2S {op : Op} {C : AV → Prop} (h : b5m P F op d σ C) : (∃ x, D6 P F op d σ (fun y => y = x) ∧ C x) ∨
   (∃ args ts s y t e l z ds, op = .call { callee := .builtin .append, args, argTypes := ts } ∧ args.toList = [.tmp s, y] ∧ ts.toList = [t, t] ∧ H3 P t = some e ∧ σ s = .own true e l ∧ esz P e = some z ∧ P8 (A0 σ y) = some ds ∧ (∀ u ∈ ds, B6 u = z.1) ∧ (l.length + ds.length) * z.2 ≤ 140737488355328 ∧ l.length + ds.length ≤ 140737488355328 ∧ C (.own (F d) e (l ++ ds))) ∨
   (∃ t m e l, (op = .assign (.tmp t) ∨ (op = .move (.tmp t) ∧ F (18000000 + d) = true)) ∧ σ t = .own m e l ∧ C (.own m e l)) ∨
   (∃ g args ts s e l r, op = .call { callee := .value (.func g), args, argTypes := ts } ∧ F (19000000 + d) = true ∧ args.toList = [.tmp s] ∧ σ s = .own true e l ∧ Ctr P g [.own true e l] r ∧ C (N9 (F d) r)) := by
 unfold b5m at h; split at h
 · rename_i args ts
   split at h
   · rename_i s y t t' ha ht
     obtain ⟨rfl, h⟩ := h; obtain ⟨e, he, h⟩ := A4 h; split at h
     · rename_i e' l hs
       obtain ⟨rfl, h⟩ := h; obtain ⟨z, hz, h⟩ := A4 h; obtain ⟨ds, hds, h1, h2, h3, h4⟩ := A4 h; exact .inr (.inl ⟨args, ts, s, y, _, _, l, z, ds, rfl, ha, ht, he, hs, hz, hds, h1, h2, h3, h4⟩)
     · exact h.elim
   · exact h.elim
 · rename_i t
   split at h
   · rename_i m e l ht
     exact .inr (.inr (.inl ⟨t, m, e, l, .inl rfl, ht, h⟩))
   · exact .inl (a0L h)
 · rename_i t
   split at h
   · rename_i hF
     split at h
     · rename_i e l ht
       exact .inr (.inr (.inl ⟨t, true, e, l, .inr ⟨rfl, hF⟩, ht, h⟩))
     · exact h.elim
   · exact .inl (a0L h)
 · rename_i g args ts
   split at h
   · rename_i hF
     split at h
     · rename_i s ha
       split at h
       · rename_i e l hs
         obtain ⟨r, hr, h⟩ := h; exact .inr (.inr (.inr ⟨g, args, ts, s, e, l, r, rfl, hF, ha, hs, hr, h⟩))
       · exact h.elim
     · exact h.elim
   · exact .inl (a0L h)
 · exact .inl (a0L h)
theorem c0R {rest : List Oper} (hds : ∀ s ∈ wrS F o, s ∈ ds) (h : F5 P F ds (o :: rest) K σ) : ∃ d x, XV P F ds o d σ x ∧ F5 P F ds rest K (W4 F o d x σ) := by
 simp only [F5] at h; cases hd : o.dst with
 | some d =>
   rw [hd] at h; simp only at h; have hw : wrO o = some d := (by simp [wrO, hd]); cases ha : a8W o.op with
   | some e =>
     rw [ha] at h; simp only at h; split at h
     · exact h.elim
     · rename_i hF
       obtain ⟨z, hz, h⟩ := A4 h; have he : o.op = .alloc e := by
         unfold a8W at ha; split at ha
         · rename_i e' ho; simp only [Option.some.injEq] at ha; rw [ho, ha]
         · cases ha
       have hk : T9 F o = none := (by simp [T9, hd, he]); exact ⟨d, .box z, ⟨hw, hds, rfl, .inr (.inl ⟨hd, e, z, he, by simpa using hF, hz, rfl⟩)⟩, by simpa [W4, hk, kl] using h⟩
   | none =>
     rw [ha] at h; rcases c2S h with ⟨x, h1, h2, h3⟩ | ⟨args, ts, s, y, t, e, l, z, ds', h1, h2, h3, h4, h5, h6, h7, h8, h9, h10, h11, h12⟩ | ⟨t, m, e, l, h1, h2, h3, h4⟩ | ⟨g, args, ts, s, e, l, r, h1, h2, h3, h4, h5, h6, h7⟩
     · exact ⟨d, x, ⟨hw, hds, h2, .inl ⟨hd, h1⟩⟩, h3⟩
     · exact ⟨d, _, ⟨hw, hds, h11, .inr (.inr (.inr (.inl ⟨hd, args, ts, s, y, t, e, l, z, ds', h1, h2, h3, h4, h5, h6, h7, h8, h9, h10, rfl⟩)))⟩, h12⟩
     · exact ⟨d, _, ⟨hw, hds, h3, .inr (.inr (.inr (.inr (.inl ⟨hd, t, m, e, l, h1, h2, rfl⟩))))⟩, h4⟩
     · exact ⟨d, _, ⟨hw, hds, h6, .inr (.inr (.inr (.inr (.inr ⟨hd, g, args, ts, s, e, l, r, h1, h2, h3, h4, h5, rfl⟩))))⟩, h7⟩
 | none =>
   rw [hd] at h; simp only at h; split at h
   · rename_i t s y ho
     split at h
     · rename_i b hb
       obtain ⟨u, hu, h1, h2, h3⟩ := A4 h; have hw : wrO o = some s := (by simp [wrO, hd, ho]); have hk : T9 F o = none := (by simp [T9, hd]); exact ⟨s, .box u, ⟨hw, hds, rfl, .inr (.inr (.inl ⟨hd, t, y, b, u, ho, hb, hu, h1, h2, rfl⟩))⟩, by simpa [W4, hk, kl] using h3⟩
     · exact h.elim
   · exact h.elim
theorem b9b.agr {e : Nat} {y : AV} (hA : Agr o.op.operands.toList σ σ') (h : b9b P F o e σ y) : b9b P F o e σ' y := by
 rcases h with ⟨h1, h2⟩ | h | ⟨h1, t, z, b, u, h2, h3, h4, h5, h6, h7⟩ | ⟨h1, args, ts, s, z, t, e', l, q, ds', h2, h3, h4, h5, h6, h7, h8, h9⟩ | ⟨h1, t, m, e', l, h2, h3, h4⟩ | ⟨h1, g, args, ts, s, e', l, r, h2, h3, h4, h5, h6, h7⟩
 · exact .inl ⟨h1, a9b hA h2⟩
 · exact .inr (.inl h)
 · refine .inr (.inr (.inl ⟨h1, t, z, b, u, h2, ?_, ?_, h5, h6, h7⟩))
   · rw [← (hA.1 (.tmp e) (by rw [h2]; simp [Op.operands])).1 e rfl]; exact h3
   · rw [← hA.aval (x := z) (by rw [h2]; simp [Op.operands])]; exact h4
 · refine .inr (.inr (.inr (.inl ⟨h1, args, ts, s, z, t, e', l, q, ds', h2, h3, h4, h5, ?_, h7, ?_, h9⟩)))
   · rw [← (hA.1 (.tmp s) (by rw [h2]; simp [Op.operands, Call.operands, h3])).1 s rfl]; exact h6
   · rw [← hA.aval (x := z) (by rw [h2]; simp [Op.operands, Call.operands, h3])]; exact h8
 · refine .inr (.inr (.inr (.inr (.inl ⟨h1, t, m, e', l, h2, ?_, h4⟩)))); rw [← (hA.1 (.tmp t) (by rcases h2 with h2 | ⟨h2, _⟩ <;> rw [h2] <;> simp [Op.operands])).1 t rfl]; exact h3
 · refine .inr (.inr (.inr (.inr (.inr ⟨h1, g, args, ts, s, e', l, r, h2, h3, h4, ?_, h6, h7⟩)))); rw [← (hA.1 (.tmp s) (by rw [h2]; simp [Op.operands, Call.operands, h4])).1 s rfl]; exact h5
theorem Agr.trans {xs : List Operand} {σ1 σ2 σ3 : St} (h : Agr xs σ1 σ2) (h' : Agr xs σ2 σ3) : Agr xs σ1 σ3 :=
 ⟨fun x hx => ⟨fun t ht => ((h.1 x hx).1 t ht).trans ((h'.1 x hx).1 t ht), fun j hj => ((h.1 x hx).2 j hj).trans ((h'.1 x hx).2 j (by rw [← h.aval hx]; exact hj))⟩, fun j hj => (h.2 j hj).trans (h'.2 j hj)⟩
theorem INV.xset {oi : Oper} {x : AV} (hi : INV ds σ) (hx : I3 ds x = true) : INV ds (W4 F oi d x σ) := by
 unfold Vw.W4 kl; split
 · exact (hi.setv rfl).setv hx
 · exact hi.setv hx
theorem b5q {oi : Oper} {x : AV} (hi : INV ds σ) (hw : wrO oi = some d) (hds : ∀ s ∈ wrS F oi, s ∈ ds) (hk : ∀ s ∈ wrS F oi, s ∉ o.looksAt ops) : Agr o.op.operands.toList (W4 F oi d x σ) σ := by
 unfold W4 kl; split
 · rename_i s hs
   exact (a0Z (hi.setv rfl) (hds d (a1K hw)) (hk d (a1K hw))).trans (a0Z hi (hds s (a0W hs)) (hk s (a0W hs)))
 · exact a0Z hi (hds d (a1K hw)) (hk d (a1K hw))
theorem XV.back {x y : AV} {e : Nat} {oi : Oper} (hi : INV ds σ) (hw : wrO oi = some d) (hds : ∀ s ∈ wrS F oi, s ∈ ds) (hk : ∀ s ∈ wrS F oi, s ∉ o.looksAt ops) (h : XV P F ds o e (W4 F oi d x σ) y) : XV P F ds o e σ y := ⟨h.1, h.2.1, h.2.2.1, h.2.2.2.agr (b5q hi hw hds hk)⟩
theorem XV.forth {x y : AV} {e : Nat} {oi : Oper} (hi : INV ds σ) (hw : wrO oi = some d) (hds : ∀ s ∈ wrS F oi, s ∈ ds) (hk : ∀ s ∈ wrS F oi, s ∉ o.looksAt ops) (h : XV P F ds o e σ y) : XV P F ds o e (W4 F oi d x σ) y := ⟨h.1, h.2.1, h.2.2.1, h.2.2.2.agr (by
 have h2 := b5q (x := x) hi hw hds hk; exact ⟨fun z hz => ⟨fun t ht => ((h2.1 z hz).1 t ht).symm, fun j hj => ((h2.1 z hz).2 j (by rw [h2.aval hz]; exact hj)).symm⟩, fun j hj => (h2.2 j hj).symm⟩)⟩
def xOp (P : Program) (F : Nat → Bool) (ops : Array Oper) (ds : List Nat) (i : Nat) (K : St → Prop) (σ : St) : Prop :=
 match ops[i]? with
 | none => K σ
 | some o => ∃ d x, XV P F ds o d σ x ∧ K (W4 F o d x σ)
theorem c3E {i : Nat} {K K' : St → Prop} (h : ∀ σ, K σ → K' σ) (hh : xOp P F ops ds i K σ) : xOp P F ops ds i K' σ := by
 unfold xOp at *; split at hh
 · exact h _ hh
 · obtain ⟨d, x, h1, h2⟩ := hh; exact ⟨d, x, h1, h _ h2⟩
theorem b7o {x y : Oper} (h : a4K F ops x y = true) : (∀ s ∈ wrS F x, s ∉ y.looksAt ops ∧ s ∉ wrS F y) ∧ ∀ s ∈ wrS F y, s ∉ x.looksAt ops := by
 unfold a4K at h; simp only [Bool.and_eq_true, all_eq_true, Bool.not_eq_true', contains_eq_mem, decide_eq_false_iff_not] at h; exact ⟨h.1.2, h.2⟩
theorem c5N {a b : Option Nat} (h : ∀ s t, a = some s → b = some t → s ≠ t) : kl a (kl b σ) = kl b (kl a σ) := by
 cases a with
 | none => rfl
 | some s => cases b with
   | none => rfl
   | some t => exact a0M fun e => h s t rfl rfl e.symm
theorem b7Z {a : Option Nat} {x : AV} (h : ∀ s, a = some s → s ≠ d) : kl a (B4 σ d x) = B4 (kl a σ) d x := by
 cases a with
 | none => rfl
 | some s => exact a0M fun e => h s rfl e.symm
theorem c0o {oi oj : Oper} {di dj : Nat} {x u : AV} (hi : wrO oi = some di) (hj : wrO oj = some dj) (h : ∀ s ∈ wrS F oi, s ∉ wrS F oj) : W4 F oi di x (W4 F oj dj u σ) = W4 F oj dj u (W4 F oi di x σ) := by
 unfold W4; rw [b7Z (fun s hs e => h s (a0W hs) (by rw [e]; exact a1K hj)), b7Z (fun s hs e => h di (a1K hi) (by rw [← e]; exact a0W hs)), c5N (fun s t hs ht e => h s (a0W hs) (by rw [e]; exact a0W ht))]; exact a0M fun e => h di (a1K hi) (by rw [← e]; exact a1K hj)
theorem c6v {j di : Nat} {oi oj : Oper} {x : AV} (hj : ops[j]? = some oj) (hap : a4K F ops oi oj = true) (hi : INV ds σ) (hy : XV P F ds oi di σ x) {K : St → Prop} (h : xOp P F ops ds j K (W4 F oi di x σ)) :
   xOp P F ops ds j (fun σ' => INV ds σ' ∧ XV P F ds oi di σ' x ∧ K (W4 F oi di x σ')) σ := by
 obtain ⟨h1, h2⟩ := b7o hap; unfold xOp at *; simp only [hj] at *; obtain ⟨dj, u, hu, hK⟩ := h; refine ⟨dj, u, hu.back hi hy.1 hy.2.1 (fun s hs => (h1 s hs).1), hi.xset hu.2.2.1, hy.forth hi hu.1 hu.2.1 h2, ?_⟩; rw [c0o hy.1 hu.1 (fun s hs => (h1 s hs).2)]; exact hK
def b3g (P : Program) (F : Nat → Bool) (ops : Array Oper) (ds : List Nat) (nn : Nat) (Lq : Array Bool → St → Prop) : Nat → Array Bool → St → Prop
 | 0, listed, σ => Lq listed σ
 | f + 1, listed, σ => Region.ready .any ops listed ≠ [] ∧ ∀ i ∈ Region.ready .any ops listed, i < nn ∧ xOp P F ops ds i (b3g P F ops ds nn Lq f (listed.setIfInBounds i true)) σ
theorem b8s {nn i di : Nat} {oi : Oper} {x : AV} {Lq : Array Bool → St → Prop} (Iv : Array Bool → Prop) (hset : ∀ listed j, Iv listed → j ∈ Region.ready .any ops listed → j < nn → Iv (listed.setIfInBounds j true)) (hi : ops[i]? = some oi) (hin : i < nn)
   (hlt : ∀ listed, Iv listed → ∀ k, k < nn → listed.getD k true = false → ∀ j ∈ Region.ready .any ops listed, j < nn) (hdone : ∀ listed σ, Lq listed σ → ∀ j ∈ Region.ready .any ops listed, nn ≤ j) :
   ∀ (f : Nat) (listed : Array Bool) (σ : St), Iv listed →
     (∀ j oj, ops[j]? = some oj → j < nn → j ≠ i → listed.getD j true = false → (∀ e ∈ oj.after, Region.binds .any e = true → e.on ≠ i) → a4K F ops oi oj = true) →
     i ∈ Region.ready .any ops listed → INV ds σ → XV P F ds oi di σ x →
     b3g P F ops ds nn Lq f (listed.setIfInBounds i true) (W4 F oi di x σ) → b3g P F ops ds nn Lq (f + 1) listed σ := by
 intro f
 induction f with
 | zero =>
   intro listed σ inv _ hr hI hy H; have hun := (mem_ready.1 hr).1; refine ⟨fun h => (by rw [h] at hr; cases hr), fun j hj => ?_⟩; have hjn := hlt listed inv i hin hun j hj; refine ⟨hjn, ?_⟩; by_cases hji : j = i
   · subst hji; unfold xOp; simp only [hi]; exact ⟨di, x, hy, H⟩
   · have := hdone _ _ H j (ready_mono hj hji); omega
 | succ f ih =>
   intro listed σ inv hfree hr hI hy H; have hun := (mem_ready.1 hr).1; refine ⟨fun h => (by rw [h] at hr; cases hr), fun j hj => ?_⟩; have hjn := hlt listed inv i hin hun j hj; refine ⟨hjn, ?_⟩; by_cases hji : j = i
   · subst hji; unfold xOp; simp only [hi]; exact ⟨di, x, hy, H⟩
   · have h1 := (H.2 j (ready_mono hj hji)).2; obtain ⟨hjun, oj, hoj, hall⟩ := mem_ready.1 hj; have hnot : ∀ e ∈ oj.after, Region.binds .any e = true → e.on ≠ i := fun e he hb heq => by
       have h1 := hall e he hb; rw [heq, getD_both hun] at h1; cases h1
     have h2 := c6v hoj (hfree j oj hoj hjn hji hjun hnot) hI hy h1; have hfree' : ∀ k ok, ops[k]? = some ok → k < nn → k ≠ i → (listed.setIfInBounds j true).getD k true = false →
         (∀ e ∈ ok.after, Region.binds .any e = true → e.on ≠ i) → a4K F ops oi ok = true := fun k ok hk hkn hki hun hno => by
       refine hfree k ok hk hkn hki ?_ hno; by_cases hjk : j = k
       · subst hjk; exact hjun
       · rw [getD_set_ne true hjk] at hun; exact hun
     refine c3E (fun a' h3 => ih (listed.setIfInBounds j true) a' (hset _ _ inv hj hjn) hfree' (ready_mono hr (Ne.symm hji)) h3.1 h3.2.1 ?_) h2; rw [Array.setIfInBounds_comm _ _ hji]; exact h3.2.2
theorem a4h {nn : Nat} (h : b4L F ops nn = true) {k : Nat} (hk : k < nn) : ∃ o d, ops[k]? = some o ∧ o.guard = none ∧ wrO o = some d ∧ (∀ s ∈ wrS F o, s < 1000000) ∧ (∀ s, T9 F o = some s → s ≠ d) ∧ (∀ e ∈ o.after, Region.binds .any e = true → e.on < k) ∧
   ∀ j, j < k → Region.waitsFor .any ops k j = true ∨ ∃ oj, ops[j]? = some oj ∧ a4K F ops oj o = true := by
 have h1 := all_eq_true.1 h k (mem_range.2 hk); split at h1
 · rename_i o ho
   simp only [Bool.and_eq_true, Option.isNone_iff_eq_none] at h1; obtain ⟨⟨⟨g1, g2⟩, g3⟩, g4⟩ := h1; split at g2
   · rename_i d hd
     simp only [Bool.and_eq_true, decide_eq_true_eq] at g2; refine ⟨o, d, ho, g1, hd, fun s hs => ?_, fun s hs => ?_, fun e he hb => ?_, fun j hj => ?_⟩
     · simp only [wrS, hd, Option.toList, cons_append, nil_append, mem_cons] at hs; rcases hs with rfl | hs
       · exact g2.1
       · cases hk2 : T9 F o with
         | none => rw [hk2] at hs; simp at hs
         | some t =>
           rw [hk2] at hs g2; simp only [mem_singleton] at hs; subst hs; have := g2.2; simp only [Bool.and_eq_true, decide_eq_true_eq] at this; exact this.1
     · rw [hs] at g2; have := g2.2; simp only [Bool.and_eq_true, decide_eq_true_eq] at this; exact this.2
     · have := Array.all_eq_true'.1 g3 e he; simpa [hb] using this
     · have := all_eq_true.1 g4 j (mem_range.2 hj); simp only [Bool.or_eq_true] at this; rcases this with h | h
       · exact .inl h
       · split at h
         · rename_i oj hoj; exact .inr ⟨oj, hoj, h⟩
         · cases h
   · cases g2
 · cases h1
theorem b6C {nn : Nat} (hs : b4L F ops nn = true) (hn : nn ≤ ops.size) (hcase : nn = ops.size ∨ (nn < ops.size ∧ a3Q ops 0 nn = true ∧ Region.chainB .any ops nn = true)) (hds : ∀ o ∈ ops.toList.take nn, ∀ s ∈ wrS F o, s ∈ ds) :
   ∀ (m k : Nat) (σ : St), k + m = nn → HeadInv .any ops nn (N7 k (Array.replicate ops.size false)) → INV ds σ → F5 P F ds ((ops.toList.take nn).drop k) K σ →
     b3g P F ops ds nn (fun listed' σ' => listed' = N7 nn (Array.replicate ops.size false) ∧ INV ds σ' ∧ K σ') m (N7 k (Array.replicate ops.size false)) σ
 | 0, k, σ, hk, inv, hI, h => by
   have : k = nn := (by omega); subst this; rw [drop_eq_nil_of_le (by simp; omega)] at h; exact ⟨rfl, hI, h⟩
 | m + 1, k, σ, hk, inv, hI, h => by
   have hkn : k < nn := (by omega); have hlt : k < ops.size := (by omega); obtain ⟨o, d0, ho, hg, hw, hd6, _, hedge, _⟩ := a4h hs hkn; have htl : (ops.toList.take nn).length = nn := by simp; omega
   have hcons : (ops.toList.take nn).drop k = o :: (ops.toList.take nn).drop (k + 1) := by
     rw [drop_eq_getElem_cons (by rw [htl]; exact hkn)]; congr 1
     have : (ops.toList.take nn)[k]? = some o := by rw [getElem?_take, if_pos hkn]; simpa using ho
     exact (List.getElem?_eq_some_iff.1 this).2
   rw [hcons] at h; have hmem : o ∈ ops.toList.take nn := mem_of_mem_drop (i := k) (by rw [hcons]; simp); obtain ⟨d, x, hy, hK⟩ := c0R (hds o hmem) h; have hr : k ∈ Region.ready .any ops (N7 k (Array.replicate ops.size false)) := mem_ready.2 ⟨a1y k k (Nat.le_refl _) hlt, o, ho, fun e he hb => a3t k _ (hedge e he hb) (by have := hedge e he hb; omega)⟩; refine b8s (HeadInv .any ops nn) (fun listed j h1 hj hjn => h1.set hj hjn) ho hkn (fun listed inv k' hk' hun' j hj => ?_) (fun listed σ hL j hj => ?_) m _ σ inv (fun j oj hoj hjn hjk hun hno => ?_) hr hI hy ?_
   · rcases hcase with h1 | ⟨h1, h2, h3⟩
     · obtain ⟨_, o', ho', _⟩ := mem_ready.1 hj; rw [h1]; exact (Array.getElem?_eq_some_iff.1 ho').1
     · rcases Nat.lt_or_ge j nn with h4 | h4
       · exact h4
       · exact absurd hj (a5T h2 h3 h1 inv (fun i hi => absurd hi (Nat.not_lt_zero i)) _ k' rfl hk' hun' j h4)
   · obtain ⟨rfl, _⟩ := hL; rcases Nat.lt_or_ge j nn with h4 | h4
     · have h5 := a3t (s := ops.size) nn j h4 (by omega); rw [getD_both (mem_ready.1 hj).1] at h5; cases h5
     · exact h4
   · have hkj : k < j := by
       rcases Nat.lt_or_ge j k with h1 | h1
       · have := a3t (s := ops.size) k j h1 (by omega); rw [getD_both hun] at this; cases this
       · omega
     obtain ⟨oj', _, hoj', _, _, _, _, _, hpair⟩ := a4h hs hjn; obtain rfl : oj = oj' := Option.some.inj (hoj.symm.trans hoj'); rcases hpair k hkj with h1 | ⟨ok, hok, h1⟩
     · obtain ⟨o', ho', e, he, hb, hon⟩ := Region.waitsFor_spec h1; obtain rfl : oj = o' := Option.some.inj (hoj.symm.trans ho'); exact absurd hon (hno e he hb)
     · obtain rfl : o = ok := Option.some.inj (ho.symm.trans hok); exact h1
   · exact b6C hs hn hcase hds m (k + 1) _ (by omega) (inv.set hr hkn) (hI.xset hy.2.2.1) hK
theorem b0s {nn g : Nat} {Lq : Array Bool → St → Prop} (hs : b4L F ops nn = true) (hdst : ∀ o ∈ ops.toList, ∀ d, o.dst = some d → d < n) 
   (hL : ∀ listed a w, B8 P w0 L0 row n (fun σ => INV ds σ ∧ Lq listed σ) a w → wpAny P .any ops Q g listed a w) :
   ∀ (f : Nat) (listed : Array Bool) (a : Act) (w : World), B8 P w0 L0 row n (fun σ => INV ds σ ∧ b3g P F ops ds nn Lq f listed σ) a w → wpAny P .any ops Q (f + g) listed a w
 | 0, listed, a, w, h => by rw [Nat.zero_add]; exact hL _ _ _ h
 | f + 1, listed, a, w, h => by
   obtain ⟨L, O, σ, hR, hdef, hsz, hI, hne, hall⟩ := h; rw [show f + 1 + g = (f + g) + 1 by omega]; refine ⟨fun h0 => absurd h0 hne, fun i hi => ?_⟩; have hin := (hall i hi).1; have hop := (hall i hi).2; unfold xOp at hop; unfold wpOp; split at hop
   · rename_i hoi
     simp only [hoi]; exact b0s hs hdst hL f _ a w ⟨L, O, σ, hR, hdef, hsz, hI, hop⟩
   · rename_i o hoi
     simp only [hoi]; obtain ⟨d, x, ⟨h1, h2, h3, h4⟩, hK⟩ := hop; have hlt := hdst o (by rw [Array.mem_toList_iff]; exact Array.mem_of_getElem? hoi); obtain ⟨o', d', ho', hg, hw', _, hkd, _⟩ := a4h hs hin; obtain rfl : o = o' := Option.some.inj (hoi.symm.trans ho'); obtain rfl : d = d' := Option.some.inj (h1.symm.trans hw'); have hdd := h2 d (a1K h1); rw [if_pos (by simp [Region.wanted, hg])]; refine .inl (Oper.wp_mono (K := B8 P w0 L0 row n (fun τ => τ = put σ d x ∨ ∃ s, T9 F o = some s ∧ (τ = put (put σ s .undef) d x ∨ ∃ b e l, x = .own b e l ∧ τ = put (put σ s .undef) d (.own true e l)))) ?_ ?_)
     · rintro a' w' ⟨L1, O1, σ1, hR1, hd1, hs1, hσ⟩; have key : ∃ L2 O2, Rel P w0 L0 row w' L2 O2 (W4 F o d x σ) (B5 a') := by
         rcases hσ with rfl | ⟨s, hs', rfl | ⟨b, e, l, rfl, rfl⟩⟩
         · rw [S7 hI hdd h3] at hR1; cases hk : T9 F o with
           | none => exact ⟨L1, O1, by simpa [W4, hk, kl] using hR1⟩
           | some s =>
             have h5 := hR1.forget s; rw [S7 (hI.setv h3) (h2 s (a0W hk)) rfl, a0M (fun e => hkd s hk e.symm)] at h5; exact ⟨L1, _, by simpa [W4, hk, kl] using h5⟩
         · rw [S7 hI (h2 s (a0W hs')) rfl, S7 (hI.setv rfl) hdd h3] at hR1; exact ⟨L1, O1, by simpa [W4, hs', kl] using hR1⟩
         · rw [S7 hI (h2 s (a0W hs')) rfl, S7 (hI.setv rfl) hdd rfl] at hR1; obtain ⟨L2, h6⟩ := hR1.demote (t := d) (e := e) (l := l) (by simp [B4]) b; rw [S7 ((hI.setv rfl).setv rfl) hdd rfl] at h6; have h7 : B4 (B4 (B4 σ s .undef) d (.own true e l)) d (.own b e l) = B4 (B4 σ s .undef) d (.own b e l) := by
             funext i; simp only [B4]; split <;> rfl
           rw [h7] at h6; exact ⟨L2, O1, by simpa [W4, hs', kl] using h6⟩
       obtain ⟨L2, O2, hR2⟩ := key; exact b0s hs hdst hL f _ a' w' ⟨L2, O2, _, hR2, hd1, hs1, hI.xset h3, hK⟩
     · rcases h4 with ⟨e1, hp⟩ | ⟨e1, e, z, e2, e3, e4, rfl⟩ | ⟨e1, t, y, b, u, e2, e3, e4, e5, e6, rfl⟩ | ⟨e1, args, ts, s, y, t, e, l, z, ds', e2, e3, e4, e5, e6, e7, e8, e9, e10, e11, rfl⟩ | ⟨e1, t, m, e, l, e2, e3, rfl⟩ | ⟨e1, g, args, ts, s, e, l, r, e2, e3, e4, e5, e6, rfl⟩
       · exact a4S (K := fun τ => τ = put σ d x ∨ ∃ s, T9 F o = some s ∧ (τ = put (put σ s .undef) d x ∨ ∃ b e l, x = .own b e l ∧ τ = put (put σ s .undef) d (.own true e l))) e1 (hlt d e1) hsz hdef hR (a0Q hp fun y hy => by rw [hy]; exact .inl rfl)
       · refine a4C (F := F) hlt hsz hdef hR ?_; simp only [vop, e1, M1, e2, e3, e4, A8]; simp
       · refine a4C (F := F) hlt hsz hdef hR ?_; have ex : A0 σ (.tmp d) = .adr d [] := (by simp only [A0, e3, rd]); simp only [vop, e1, e2, a4W, ex, e3, D.get, D.upd, e4, A8]; exact ⟨e5, e6, by simp⟩
       · refine a4C (F := F) hlt hsz hdef hR ?_; have ex : A0 σ (.tmp s) = .bor s true e l := (by simp only [A0, e6, rd]); have hk : T9 F o = some s := (by simp [T9, e1, e2, e3]); simp only [vop, e1, M1, e2, a4w, e3, e4, ex, e5, e7, c6D e8, A8, if_true, left]; exact ⟨trivial, e9, e10, e11, .inr ⟨s, hk, .inr ⟨_, _, _, rfl, rfl⟩⟩⟩
       · have hk : T9 F o = some t := by rcases e2 with e2 | ⟨e2, e4⟩ <;> simp [T9, e1, e2, *]
         exact a7X e1 (hlt d e1) hsz hdef hR (e2.imp id (·.1)) e3 (.inr ⟨t, hk, .inl rfl⟩)
       · have hk : T9 F o = some s := (by simp [T9, e1, e2, e3, e4]); have ex : A0 σ (.tmp s) = .bor s true e l := (by simp only [A0, e5, rd]); have hel : M7 σ args.toList = [s] := (by simp only [e4, M7, ex]); refine b5B e1 (hlt d e1) hsz hdef hR e2 (caps := []) rfl (by simp) (xa := [.own true e l]) (by simp only [e4, Y2, b2H, ex]) (by rw [hel]; simp) (by simpa using e6) (F d) ?_; rw [hel]; exact .inr ⟨s, hk, .inl rfl⟩
theorem c5Z {id : Nat} {b : Bool} (hm : P.follows .mixedOrders = true) (hs : b8m F b ops = true) (hdst : ∀ o ∈ ops.toList, ∀ d, o.dst = some d → d < n)
   (h : B8 P w0 L0 row n (fun σ => F5 P F (wrs F (a2Z F b ops.toList)) (a2Z F b ops.toList) (fun σ' => K2 P F ops (a8G F b ops.toList) K σ') (K5 (wrs F (a2Z F b ops.toList)) σ)) a w) (hQ : ∀ a w, B8 P w0 L0 row n K a w → Q .normal a w) : (Code.region id ops true).wp P Q a w := by
 obtain ⟨L, O, σ, hR, hdef, hsz, hv⟩ := h; have happ := c5M F b ops.toList; unfold b8m c4U at hs; generalize hl : (a2Z F b ops.toList).length = nn at hs; simp only [Bool.and_eq_true, Bool.or_eq_true, decide_eq_true_eq] at hs; obtain ⟨⟨hp, hcase⟩, hseq⟩ := hs; have hn : nn ≤ ops.size := by
   have := congrArg length happ; simp only [length_append, Array.length_toList] at this; omega
 have htake : ops.toList.take nn = a2Z F b ops.toList := by
   conv => lhs; rw [← happ]
   rw [← hl]; exact take_left
 have hdrop : ops.toList.drop nn = a8G F b ops.toList := by
   conv => lhs; rw [← happ]
   rw [← hl]; exact drop_left
 rw [← htake, ← hdrop] at hv; have hds6 : ∀ d ∈ wrs F (ops.toList.take nn), d < 1000000 := fun d hd => by
   simp only [wrs, mem_flatMap] at hd; obtain ⟨o, ho, hd⟩ := hd; obtain ⟨k, hk⟩ := mem_iff_getElem?.1 ho; rw [getElem?_take] at hk; split at hk
   · rename_i hkn
     have hk' : ops[k]? = some o := (by simpa using hk); obtain ⟨o', d', ho', _, hw, hlt, _⟩ := a4h hp hkn; obtain rfl : o = o' := Option.some.inj (hk'.symm.trans ho'); exact hlt d hd
   · cases hk
 have hcase' : nn = ops.size ∨ (nn < ops.size ∧ a3Q ops 0 nn = true ∧ Region.chainB .any ops nn = true) := by
   rcases hcase with h1 | ⟨⟨h1, h2⟩, h3⟩
   · exact .inl h1
   · exact .inr ⟨h1, h2, h3⟩
 have hdl : (ops.toList.drop nn).length = ops.size - nn := (by simp); have hI := a5t (σ := σ) hds6; have H := b6C (P := P) (F := F) (ds := wrs F (ops.toList.take nn)) (K := fun σ' => K2 P F ops (ops.toList.drop nn) K σ') hp hn hcase' (fun o ho d hd => mem_flatMap.2 ⟨o, ho, hd⟩) nn 0 _ (by omega)
   ⟨by simp [N7], fun j oj _ hl => (by simp only [N7] at hl; rw [getD_replicate_false] at hl; cases hl), fun t _ ht => a1y 0 t (Nat.zero_le _) ht⟩ hI (by rw [drop_zero]; exact hv)
 let Q0 : Exit → Act → World → Prop := fun e a w => e = .normal ∧ B8 P w0 L0 row n K a w
 refine wp_mono (Q := Q0) (wp_region_any hm ?_) (fun e a w ⟨he, hg⟩ => by subst he; exact hQ a w hg); have := b0s (Q := Q0) (g := ops.size - nn) (w0 := w0) (L0 := L0) (row := row) hp hdst (fun listed a' w' hg => by
   obtain ⟨L1, O1, σ1, hR1, hd1, hs1, _, rfl, _, hv1⟩ := hg; have := wpAny_of_seq (md := .any) (Q' := Q0) (P := P) (ops.toList.drop nn) nn (N7 nn (Array.replicate ops.size false)) a' w' (fun j => by simp [getElem?_drop]) (by rw [hdl]; exact hseq)
     (a5Y (ops.toList.drop nn) a' w' (fun o ho d hd => hdst o (mem_of_mem_drop ho) d hd) ⟨L1, O1, σ1, hR1, hd1, hs1, hv1⟩ (fun a w hg => ⟨rfl, hg⟩))
   rwa [hdl] at this) _ _ a _ ⟨L, O, K5 (wrs F (ops.toList.take nn)) σ, hR.drew.clean _, hdef, hsz, hI, H⟩
 rw [show nn + (ops.size - nn) = ops.size by omega] at this; exact this
end Go.Vw
namespace Go.Vw
open Go.RowKit Go.Proofs
def a5E (body : (Exit → St → Prop) → St → Prop) (Q : Exit → St → Prop) (σ : St) : Prop :=
 ∃ (I : Nat → St → Prop) (k : Nat), I k σ ∧ ∀ m τ, I m τ → body (a3G (fun τ' => ∃ m', m' < m ∧ I m' τ') Q) τ
def b5r (b : Bool) (N : St → Prop) (σ : St) : Prop := if b = true then ∃ t e l, σ t = .own true e l ∧ N (put σ t (.own false e l)) else N σ
def b6b (b : Bool) (P : Program) (F : Nat → Bool) (ops : Array Oper) (K N : St → Prop) (σ : St) : Prop := if b = true then ∃ K', aT P F ops K' (a6e ops ops.size (Array.replicate ops.size false)) σ ∧ ∀ σ', K' σ' → K σ' else N σ
def a8g (b bT : Bool) (P : Program) (F : Nat → Bool) (ops : Array Oper) (K N : St → Prop) (σ : St) : Prop := if b = true then F5 P F (wrs F (a2Z F bT ops.toList)) (a2Z F bT ops.toList) (fun σ' => K2 P F ops (a8G F bT ops.toList) K σ') (K5 (wrs F (a2Z F bT ops.toList)) σ) else N σ
def vwp (P : Program) (F : Nat → Bool) : Code → (Exit → St → Prop) → St → Prop
 | .skip, Q, σ => Q .normal σ
 | .region _ ops false, Q, σ => K2 P F ops ops.toList (Q .normal) σ
 | .region id ops true, Q, σ => a8g (F (9000000 + id)) (F (14000000 + id)) P F ops (Q .normal) (b6b (F (8000000 + id)) P F ops (Q .normal) (b5r (F (7000000 + id)) (fun σ => R9 P F ops (U0 F ops.toList) ops.toList (Q .normal) (K5 (U0 F ops.toList) σ)))) σ
 | .seq x y, Q, σ => vwp P F x (a3G (vwp P F y Q) Q) σ
 | .cond c x y, Q, σ => (match A0 σ c with
   | .d (.bool b) => (b = true → vwp P F x Q σ) ∧ (b = false → vwp P F y Q σ)
   | _ => False)
 | .block id c, Q, σ => vwp P F c (a2u id Q) σ
 | .loop c, Q, σ => a5E (vwp P F c) Q σ
 | .exit id, Q, σ => Q (.exit id) σ
 | .ret, Q, σ => Q .ret σ
 | _, _, _ => False
def a0U (F : Nat → Bool) (n : Nat) : Code → Bool
 | .region id ops dr => (ops.toList.all fun o => match o.dst with
   | some d => decide (d < n)
   | none => true) && (!dr || (if F (9000000 + id) = true then b8m F (F (14000000 + id)) ops else F (8000000 + id) || b4S F ops))
 | .seq x y | .cond _ x y => a0U F n x && a0U F n y
 | .block _ c | .loop c => a0U F n c
 | _ => true
variable {P : Program} {F : Nat → Bool} {w0 : World} {L0 : Nat → Nat → Prop} {row : Nat → Prop} {n : Nat} {K : St → Prop} {Q : Exit → Act → World → Prop}
 {w w' : World} {L L' : Nat → Nat → Prop} {O O' : Nat → Option Nat} {σ σ' : St} {a : Act} {o : Oper} {d : Nat} {v : Value} {tm : Nat → Value}
def post (P : Program) (w0 : World) (L0 : Nat → Nat → Prop) (row : Nat → Prop) (n : Nat) (Q : Exit → St → Prop) : Exit → Act → World → Prop := fun e a w => B8 P w0 L0 row n (Q e) a w
theorem R6 (hm : P.follows .mixedOrders = true) : ∀ (c : Code) (Q : Exit → St → Prop) (a : Act) (w : World), a0U F n c = true → B8 P w0 L0 row n (vwp P F c Q) a w → c.wp P (post P w0 L0 row n Q) a w
 | .skip, Q, a, w, _, h => wp_skip h
 | .region _ ops false, Q, a, w, hok, h => by
   simp only [a0U, Bool.and_eq_true] at hok; refine wp_region_list (a5Y ops.toList a w (fun o ho d hd => ?_) h (fun a w h => h)); have := all_eq_true.1 hok.1 o ho; simpa [hd] using this
 | .region id ops true, Q, a, w, hok, h => by
   simp only [a0U, Bool.and_eq_true, Bool.not_true, Bool.false_or] at hok; have hdst : ∀ o ∈ ops.toList, ∀ d, o.dst = some d → d < n := fun o ho d hd => by
     have := all_eq_true.1 hok.1 o ho; simpa [hd] using this
   by_cases h9 : F (9000000 + id) = true
   · rw [if_pos h9] at hok; obtain ⟨L, O, σ, hR, hdef, hsz, hv⟩ := h; simp only [vwp, a8g, h9, if_true] at hv; exact c5Z hm hok.2 hdst ⟨L, O, σ, hR, hdef, hsz, hv⟩ (fun a w h => h)
   rw [if_neg h9] at hok; simp only [Bool.or_eq_true] at hok; by_cases h8 : F (8000000 + id) = true
   · obtain ⟨L, O, σ, hR, hdef, hsz, hv⟩ := h; simp only [vwp, a8g, if_neg h9, b6b, h8, if_true] at hv; obtain ⟨K', hv, hk⟩ := hv; exact wp_region_any hm (c7s (K := K') hdst (fun a w ⟨L, O, σ, hR, hdef, hsz, h⟩ => ⟨L, O, σ, hR, hdef, hsz, hk σ h⟩) _ _ _ _ ⟨L, O, σ, hR.drew, hdef, hsz, hv⟩)
   have hB : b4S F ops = true := by
     rcases hok.2 with h | h
     · exact absurd h h8
     · exact h
   have h : B8 P w0 L0 row n (fun σ => R9 P F ops (U0 F ops.toList) ops.toList (Q .normal) (K5 (U0 F ops.toList) σ)) a w := by
     obtain ⟨L, O, σ, hR, hdef, hsz, hv⟩ := h; simp only [vwp, a8g, if_neg h9, b6b, if_neg h8, b5r] at hv; split at hv
     · obtain ⟨t, e, l, ht, hv⟩ := hv; obtain ⟨L', hR'⟩ := hR.demote ht false; exact ⟨L', O, _, hR', hdef, hsz, hv⟩
     · exact ⟨L, O, σ, hR, hdef, hsz, hv⟩
   exact c6f hm hB hdst h (fun a w h => h)
 | .seq x y, Q, a, w, hok, h => by
   simp only [a0U, Bool.and_eq_true] at hok; refine wp_seq (wp_mono (R6 hm x _ a w hok.1 h) ?_); intro e a' w' hg; cases e with
   | normal => exact R6 hm y Q a' w' hok.2 hg
   | exit id => exact hg
   | goto l => exact hg
   | ret => exact hg
   | panic ch => exact hg
   | outgrown => exact hg
 | .cond c x y, Q, a, w, hok, h => by
   simp only [a0U, Bool.and_eq_true] at hok; obtain ⟨L, O, σ, hR, hdef, hsz, hv⟩ := h; simp only [vwp] at hv; split at hv
   · rename_i b hc
     have hcv := (F0 hR hc).bool_inv; exact wp_cond_split hcv (fun hb => R6 hm x Q a w hok.1 ⟨L, O, σ, hR, hdef, hsz, hv.1 hb⟩) (fun hb => R6 hm y Q a w hok.2 ⟨L, O, σ, hR, hdef, hsz, hv.2 hb⟩)
   · exact hv.elim
 | .block id c, Q, a, w, hok, h => by
   refine wp_block (wp_mono (R6 hm c _ a w hok h) ?_); intro e a' w' hg; cases e with
   | exit id' =>
     show if id' = id then post P w0 L0 row n Q .normal a' w' else post P w0 L0 row n Q (.exit id') a' w'
     have hg' : B8 P w0 L0 row n (fun σ => if id' = id then Q .normal σ else Q (.exit id') σ) a' w' := hg; split
     · exact hg'.mono fun σ h => by rwa [if_pos (by assumption)] at h
     · exact hg'.mono fun σ h => by rwa [if_neg (by assumption)] at h
   | normal => exact hg
   | goto l => exact hg
   | ret => exact hg
   | panic ch => exact hg
   | outgrown => exact hg
 | .loop c, Q, a, w, hok, h => by
   obtain ⟨L, O, σ, hR, hdef, hsz, I, k, h0, hI⟩ := h; refine wp_loop_ghost (fun m a w => B8 P w0 L0 row n (I m) a w) k ⟨L, O, σ, hR, hdef, hsz, h0⟩ ?_; intro m a' w' hg; refine wp_mono (R6 hm c _ a' w' hok (hg.mono fun τ hτ => hI m τ hτ)) ?_; intro e a2 w2 hg2; cases e with
   | normal =>
     obtain ⟨L2, O2, σ2, hR2, hd2, hs2, m', hm, hI2⟩ := hg2; exact ⟨m', hm, L2, O2, σ2, hR2, hd2, hs2, hI2⟩
   | exit id => exact hg2
   | goto l => exact hg2
   | ret => exact hg2
   | panic ch => exact hg2
   | outgrown => exact hg2
 | .exit id, Q, a, w, _, h => wp_exit h
 | .ret, Q, a, w, _, h => wp_ret h
 | .rangeFunc .., Q, a, w, _, h => by obtain ⟨_, _, _, _, _, _, h⟩ := h; simp only [vwp] at h
 | .scope _, Q, a, w, _, h => by obtain ⟨_, _, _, _, _, _, h⟩ := h; simp only [vwp] at h
 | .label _, Q, a, w, _, h => by obtain ⟨_, _, _, _, _, _, h⟩ := h; simp only [vwp] at h
 | .goto _, Q, a, w, _, h => by obtain ⟨_, _, _, _, _, _, h⟩ := h; simp only [vwp] at h
 | .refuse _, Q, a, w, _, h => by obtain ⟨_, _, _, _, _, _, h⟩ := h; simp only [vwp] at h
def a0a (x r : AV) : Prop :=
 match r with
 | .d y => (match x with
   | .own true _ l => y = .sl l
   | .bor _ true _ l => y = .sl l
   | _ => asD x = some y)
 | .own m e l => (match x with
   | .own m' e' l' => m' = m ∧ e' = e ∧ l' = l
   | .bor _ m' e' l' => m' = m ∧ e' = e ∧ l' = l
   | _ => False)
 | .undef => True
 | _ => False
theorem E5.seen {og : Option Nat} {e : TypeId} {l : List D} {v : Value} (hlok : ∀ b q, L b q → b < w.heap.size) (hog : ∀ g, og = some g → g < w.heap.size) (h : E5 P w L og true e l v) :
   ∃ L', RepV w L' (.sl l) v ∧ (∀ c q, L' c q → c < w.heap.size) ∧ (∀ c q, some c ≠ og → (L' c q ↔ L c q)) ∧ Ext w L w L' := by
 have h' : RC P w L og (.own true e l) v := h; obtain ⟨L', h1, h2, h3, h4⟩ := h'.demote false hlok hog; have h1' : E5 P w L' og false e l v := h1; exact ⟨L', h1'.at_, h2, h3, h4⟩
theorem b7y (hR : Rel P w0 L0 row w L O σ tm) {t : Nat} {r : AV} (h : a0a (σ t) r) :
   ∃ L' og', (∀ b q, L' b q → b < w.heap.size) ∧ (∀ b q, b < w0.heap.size → ¬ row b → (L' b q ↔ L0 b q)) ∧ (∀ g, og' = some g → g < w.heap.size ∧ (w0.heap.size ≤ g ∨ row g)) ∧ Ext w L w L' ∧ RC P w L' og' r (tm t) := by
 have h1 := hR.slots t; have keep : ∀ og', (∀ g, og' = some g → g < w.heap.size ∧ (w0.heap.size ≤ g ∨ row g)) → RC P w L og' r (tm t) →
     ∃ L' og', (∀ b q, L' b q → b < w.heap.size) ∧ (∀ b q, b < w0.heap.size → ¬ row b → (L' b q ↔ L0 b q)) ∧ (∀ g, og' = some g → g < w.heap.size ∧ (w0.heap.size ≤ g ∨ row g)) ∧ Ext w L w L' ∧ RC P w L' og' r (tm t) :=
   fun og' hg hr => ⟨L, og', hR.lok, hR.old, hg, fun _ _ h => ⟨h, fun _ hv => hv⟩, hr⟩
 have seen : ∀ (j : Nat) (e : TypeId) (l : List D), E5 P w L (O j) true e l (tm t) → r = .d (.sl l) →
     ∃ L' og', (∀ b q, L' b q → b < w.heap.size) ∧ (∀ b q, b < w0.heap.size → ¬ row b → (L' b q ↔ L0 b q)) ∧ (∀ g, og' = some g → g < w.heap.size ∧ (w0.heap.size ≤ g ∨ row g)) ∧ Ext w L w L' ∧ RC P w L' og' r (tm t) := by
   rintro j e l ho rfl; obtain ⟨L', g1, g2, g3, g4⟩ := ho.seen hR.lok (fun g hg => (hR.olt j g hg).1); refine ⟨L', none, g2, fun b q hb hr => ?_, by simp, g4, by simpa only [RC] using g1⟩; refine (g3 b q (fun e => ?_)).trans (hR.old b q hb hr); rcases (hR.olt j b e.symm).2 with h2 | h2
   · omega
   · exact hr h2
 cases r with
 | d y =>
   have other : asD (σ t) = some y → RepV w L y (tm t) := fun h => RA.asD hR.slots h1 h
   simp only [a0a] at h; split at h
   · rename_i e l hx
     subst h; rw [hx] at h1; exact seen t e l h1 rfl
   · rename_i j e l hx
     subst h; rw [hx] at h1; obtain ⟨h2, h3⟩ := h1; have h4 := hR.slots j; rw [h2] at h4; exact seen j e l (by rw [h3]; exact h4) rfl
   · exact keep none (by simp) (by simpa only [RC] using other h)
 | own m e l =>
   simp only [a0a] at h; split at h
   · rename_i m' e' l' hx
     obtain ⟨rfl, rfl, rfl⟩ := h; rw [hx] at h1; exact keep (O t) (fun g hg => hR.olt t g hg) h1
   · rename_i j m' e' l' hx
     obtain ⟨rfl, rfl, rfl⟩ := h; rw [hx] at h1; obtain ⟨h2, h3⟩ := h1; have h4 := hR.slots j; rw [h2] at h4; exact keep (O j) (fun g hg => hR.olt j g hg) (by rw [h3]; exact h4)
   · exact h.elim
 | undef => exact keep none (by simp) (by simp [RC])
 | _ => exact h.elim
def a5r (args : List AV) : St := fun i => match args[i]? with
 | some x => x
 | none => .undef
def a6P : AV → Bool
 | .own _ _ _ => true
 | _ => false
def b1M : AV → Bool
 | .d _ => true
 | .own true _ _ => true
 | _ => false
theorem RCs.length {og : Option Nat} : ∀ {xs : List AV} {vs : List Value}, RCs P w L og xs vs → vs.length = xs.length
 | [], _, h => by simp only [RCs] at h; subst h; rfl
 | x :: xs, _, h => by
   simp only [RCs] at h; obtain ⟨v, us, rfl, h1, h2⟩ := h; simp [RCs.length h2]
def a4M : List AV → Bool
 | [] => true
 | x :: xs => if a6P x then xs.all (fun y => !a6P y) else a4M xs
theorem b4q : ∀ {args : List AV} {i j : Nat} {x y : AV}, a4M args = true → args[i]? = some x → args[j]? = some y → a6P x = true → a6P y = true → i = j
 | [], i, _, _, _, _, h, _, _, _ => by simp at h
 | z :: zs, i, j, x, y, h, hx, hy, h1, h2 => by
   simp only [a4M] at h; split at h
   · have hz : ∀ (k : Nat) (u : AV), zs[k]? = some u → a6P u = false := fun k u hk => by
       have := all_eq_true.1 h u (mem_of_getElem? hk); simpa using this
     cases i <;> cases j
     · rfl
     · simp only [getElem?_cons_succ] at hy; rw [hz _ _ hy] at h2; cases h2
     · simp only [getElem?_cons_succ] at hx; rw [hz _ _ hx] at h1; cases h1
     · simp only [getElem?_cons_succ] at hx; rw [hz _ _ hx] at h1; cases h1
   · rename_i hz
     cases i with
     | zero => simp only [getElem?_cons_zero, Option.some.injEq] at hx; subst hx; exact absurd h1 hz
     | succ i =>
       cases j with
       | zero => simp only [getElem?_cons_zero, Option.some.injEq] at hy; subst hy; exact absurd h2 hz
       | succ j =>
         simp only [getElem?_cons_succ] at hx hy; rw [b4q h hx hy h1 h2]
def b4O (args : List AV) (og : Option Nat) : Nat → Option Nat := fun i => match args[i]? with
 | some x => if a6P x then og else none
 | none => none
theorem b6g {og : Option Nat} {args : List AV} {vals : List Value} {k : Nat} (hlok : ∀ b q, L b q → b < w.heap.size) (hgl : GL P w L) (hog : ∀ g, og = some g → g < w.heap.size ∧ ∀ q, ¬ L g q) (h : RCs P w L og args vals)
   (harg : (args.all b1M) = true) (hone : a4M args = true) :
   Rel P w L (F2 og) w L (b4O args og) (a5r args) (B5 { tmps := vals.toArray ++ Array.replicate k undef, defers := [] }) := by
 refine ⟨F1.refl w _, hlok, hgl, fun _ _ _ _ => Iff.rfl, fun i => ?_, fun i j g hi hj => ?_, fun i g hi => ?_⟩
 · simp only [b4O, a5r]; cases hx : args[i]? with
   | none => simp [RA, RC]
   | some x =>
     obtain ⟨v, hv, hr⟩ := h.get hx; have htm : B5 { tmps := vals.toArray ++ Array.replicate k undef, defers := [] } i = v := by
       have hl : i < vals.length := (List.getElem?_eq_some_iff.1 hv).1; simp only [B5, Array.getD_eq_getD_getElem?]; rw [Array.getElem?_append_left (by simpa using hl)]; simp [hv]
     rw [htm]; have ha := all_eq_true.1 harg x (mem_of_getElem? hx); cases x <;> simp [b1M] at ha <;> simp only [a6P, Bool.false_eq_true, if_false, if_true]
     case d y => exact hr
     case own m e l => exact hr
 · simp only [b4O] at hi hj; split at hi
   · rename_i x hx
     split at hi
     · rename_i h1
       split at hj
       · rename_i y hy
         split at hj
         · rename_i h2
           exact b4q hone hx hy h1 h2
         · cases hj
       · cases hj
     · cases hi
   · cases hi
 · simp only [b4O] at hi; split at hi
   · split at hi
     · exact ⟨(hog g hi).1, .inr hi⟩
     · cases hi
   · cases hi
def b2y (t : Nat) (r : AV) : Exit → St → Prop := fun e σ => (e = .ret ∨ e = .normal) ∧ a0a (σ t) r
def b4N (t u : Nat) (r : AV) (y : D) : Exit → St → Prop := fun e σ => (e = .ret ∨ e = .normal) ∧ a0a (σ t) r ∧ asD (σ u) = some y
theorem c1s {f : FuncId} {fn : Func} {c : Code} {args : List AV} {t : Nat} {r : AV} (F : Nat → Bool) (hm : P.follows .mixedOrders = true) (hf : P.funcs[f]? = some fn) (hname : (fn.name == "runtime.NumGoroutine") = false) (hb : fn.body = some c) (hres : fn.results = #[.tmp t])
   (hargs : args.length ≤ fn.ntmps) (hok : a0U F fn.ntmps c = true) (harg : (args.all b1M) = true) (hone : a4M args = true)
   (h : vwp P F c (b2y t r) (a5r args)) : Ctr P f args r := by
 refine ⟨enters_of hf hname hb, fun w L og vals hlok hgl hog hrc => ?_⟩; have hl := hrc.length; refine calls_of_wp hf hb (wp_mono (R6 (n := fn.ntmps) hm c _ _ w hok ⟨L, _, a5r args, b6g hlok hgl hog hrc harg hone, rfl, ?_, h⟩) ?_)
 · simp; omega
 · rintro e a' w' ⟨L', O', σ', hR, hdef, hsz, he, hr⟩; obtain ⟨L2, og2, h1, h2, h3, _, h4⟩ := b7y hR hr; have hfin : a'.defers = [] ∧ ∃ v, (results fn a'.tmps).run P w' = .ok v w' ∧ (∃ v' L' og', Ending.returned v = .returned v' ∧ F1 w w' (F2 og) ∧ (∀ b q, L' b q → b < w'.heap.size) ∧ (∀ b q, b < w.heap.size → ¬ F2 og b → (L' b q ↔ L b q)) ∧
       (∀ g, og' = some g → g < w'.heap.size ∧ (w.heap.size ≤ g ∨ og = some g)) ∧ RC P w' L' og' r v') :=
     ⟨hdef, _, results_tmp hres _ _ _, _, L2, og2, rfl, hR.grown, h1, h2, h3, h4⟩
   rcases he with rfl | rfl
   · exact hfin
   · exact hfin
def A7 (args hs : List AV) : St := fun i => if 1000000 ≤ i then (match hs[i - 1000000]? with
   | some x => x
   | none => .undef) else (match args[i]? with
   | some x => x
   | none => .undef)
def b5x : AV → Bool
 | .d _ => true
 | _ => false
def a1Z (σ : St) (t : Nat) (r : AV) : Prop :=
 match σ t with
 | .d y => r = .d y
 | .nils => r = .d (.sl [])
 | .own m e l => r = .own m e l
 | .bor _ m e l => r = .own m e l
 | .tup [] => r = .tup []
 | _ => False
def b2D (t : Nat) (Post : AV → List AV → Prop) : Exit → St → Prop := fun e σ => (e = .ret ∨ e = .normal) ∧ ∃ (r : AV) (ks : List Nat), ks.Nodup ∧ (∀ k ∈ ks, isH (σ k) = true) ∧ a1Z σ t r ∧ Post r (ks.map σ)
theorem a7G {args hs : List AV} {vals : List Value} {k : Nat} (hlok : ∀ b q, L b q → b < w.heap.size) (hgl : GL P w L) (h : RCs P w L none args vals) (harg : (args.all b5x) = true) (hh : ∀ x ∈ hs, RH P w L x) (hap : K3 (hs.map C0)) (hblt : ∀ x ∈ hs, ∀ g, C0 x = some g → g < w.heap.size) :
   Rel P w L (fun b => some b ∈ hs.map C0) w L (fun i => if 1000000 ≤ i then (hs[i - 1000000]?).bind C0 else none) (A7 args hs) (B5 { tmps := vals.toArray ++ Array.replicate k undef, defers := [] }) := by
 refine ⟨F1.refl w _, hlok, hgl, fun _ _ _ _ => Iff.rfl, fun i => ?_, fun i j g hi hj => ?_, fun i g hi => ?_⟩
 · simp only [A7]; by_cases hi : 1000000 ≤ i
   · simp only [hi, if_true]; cases hx : hs[i - 1000000]? with
     | none => simp [RA, RC]
     | some x =>
       obtain ⟨h1, h2⟩ := hh x (mem_of_getElem? hx); simp only [Option.bind_some]; cases x <;> simp [isH] at h1 <;> exact h2
   · simp only [hi, if_false]; cases hx : args[i]? with
     | none => simp [RA, RC]
     | some x =>
       obtain ⟨v, hv, hr⟩ := h.get hx; have htm : B5 { tmps := vals.toArray ++ Array.replicate k undef, defers := [] } i = v := by
         have hl : i < vals.length := (List.getElem?_eq_some_iff.1 hv).1; simp only [B5, Array.getD_eq_getD_getElem?]; rw [Array.getElem?_append_left (by simpa using hl)]; simp [hv]
       rw [htm]; have ha := all_eq_true.1 harg x (mem_of_getElem? hx); cases x <;> simp [b5x] at ha
       exact hr
 · have key : ∀ (l : List (Option Nat)), K3 l → ∀ (i j g : Nat), l[i]? = some (some g) → l[j]? = some (some g) → i = j := by
     intro l
     induction l with
     | nil => intro _ i j g h; simp at h
     | cons x xs ih =>
       intro ha i j g h1 h2; cases i <;> cases j
       · rfl
       · simp only [getElem?_cons_zero, getElem?_cons_succ, Option.some.injEq] at h1 h2; exact absurd (mem_of_getElem? h2) (ha.1 g h1)
       · simp only [getElem?_cons_zero, getElem?_cons_succ, Option.some.injEq] at h1 h2; exact absurd (mem_of_getElem? h1) (ha.1 g h2)
       · simp only [getElem?_cons_succ] at h1 h2; rw [ih ha.2 _ _ g h1 h2]
   split at hi
   · split at hj
     · have conv : ∀ i, (hs[i - 1000000]?).bind C0 = some g → (hs.map C0)[i - 1000000]? = some (some g) := by
         intro i h; rw [getElem?_map]; cases hx : hs[i - 1000000]? with
         | none => rw [hx] at h; cases h
         | some x => rw [hx] at h; simpa using h
       have := key _ hap _ _ g (conv i hi) (conv j hj); omega
     · cases hj
   · cases hi
 · split at hi
   · cases hx : hs[i - 1000000]? with
     | none => rw [hx] at hi; cases hi
     | some x =>
       rw [hx] at hi; simp only [Option.bind_some] at hi; have hm := mem_of_getElem? hx; exact ⟨hblt x hm g hi, .inr (mem_map.2 ⟨x, hm, hi⟩)⟩
   · cases hi
theorem RH.lt {x : AV} (h : RH P w L x) {g : Nat} (hg : C0 x = some g) : g < w.heap.size := by
 obtain ⟨h1, h2⟩ := h; cases x <;> simp [isH] at h1
 case hs u e l =>
   obtain ⟨css, sz, f1, f2, f3, f4, f5⟩ : E5 P w L (C0 (.hs u e l)) true e l u := h2; rcases f4.2 with ⟨hv, _⟩ | ⟨g', cap, cur, hv, hh, _⟩
   · subst hv; simp [C0, Value.ownBlock] at hg
   · subst hv; obtain rfl : g' = g := by simpa [C0, Value.ownBlock] using hg
     exact (Array.getElem?_eq_some_iff.1 hh).1
 case hb u e y =>
   obtain ⟨g', C, e1, e2, e3, _⟩ : Z9 w L (C0 (.hb u e y)) e y u := h2; rw [hg] at e1; obtain rfl : g = g' := by simpa using e1
   exact (Array.getElem?_eq_some_iff.1 e3).1
 case hm u kt m E =>
   obtain ⟨g', m', es, clk, e1, e2, e3, _⟩ : a1z P w L (C0 (.hm u kt m E)) kt m E u := h2; rw [hg] at e1; obtain rfl : g = g' := by simpa using e1
   exact (Array.getElem?_eq_some_iff.1 e3).1
theorem a1P {f : FuncId} {fn : Func} {c : Code} {args hs : List AV} {t : Nat} {Post : AV → List AV → Prop} (F : Nat → Bool) (hm : P.follows .mixedOrders = true) (hf : P.funcs[f]? = some fn) (hname : (fn.name == "runtime.NumGoroutine") = false) (hb : fn.body = some c) (hres : fn.results = #[.tmp t])
   (hargs : args.length ≤ fn.ntmps) (hok : a0U F fn.ntmps c = true) (harg : (args.all b5x) = true)
   (h : vwp P F c (b2D t Post) (A7 args hs)) : H5 P f args hs Post := by
 refine ⟨enters_of hf hname hb, fun w L vals hlok hgl hrc hh hap => ?_⟩; have hl := hrc.length; refine calls_of_wp hf hb (wp_mono (R6 (n := fn.ntmps) hm c _ _ w hok ⟨L, _, A7 args hs, a7G hlok hgl hrc harg hh hap (fun x hx g hg => (hh x hx).lt hg), rfl, ?_, h⟩) ?_)
 · simp; omega
 · rintro e a' w' ⟨L', O', σ', hR, hdef, hsz, he, r, ks, hnd, hks, hr, hpost⟩; have hks' : ∀ k ∈ ks, RH P w' L' (σ' k) ∧ ∀ g, C0 (σ' k) = some g → O' k = some g := by
     intro k hk; have hs := hR.slots k; have hH := hks k hk; have hrc : RC P w' L' (O' k) (σ' k) (B5 a' k) := by
       cases hx : σ' k <;> rw [hx] at hs hH <;> simp [isH] at hH <;> exact hs
     exact hrc.self hH
   obtain ⟨og, o1, o2, o3⟩ : ∃ og, RC P w' L' og r (B5 a' t) ∧ (∀ g, og = some g → ∃ j, O' j = some g ∧ isH (σ' j) = false) ∧ True := by
     have hs := hR.slots t; unfold a1Z at hr; cases hx : σ' t <;> rw [hx] at hr hs
     case d y => subst hr; exact ⟨none, hs, by simp, trivial⟩
     case nils => subst hr; refine ⟨none, ?_, by simp, trivial⟩; simp only [RC]; rw [show B5 a' t = .slice none 0 0 from hs]; exact a4y
     case own m e l => subst hr; exact ⟨O' t, hs, fun g hg => ⟨t, hg, by rw [hx]; rfl⟩, trivial⟩
     case bor j m e l =>
       subst hr; obtain ⟨h2, h3⟩ := hs; have h4 := hR.slots j; rw [h2] at h4; exact ⟨O' j, by rw [h3]; exact h4, fun g hg => ⟨j, hg, by rw [h2]; rfl⟩, trivial⟩
     case tup l =>
       cases l with
       | nil => subst hr; obtain ⟨vs, h1, h2⟩ := hs; exact ⟨none, by simp only [RC]; exact ⟨vs, h1, by simp only [RCs] at h2 ⊢; exact h2⟩, by simp, trivial⟩
       | cons x l => exact hr.elim
     all_goals exact hr.elim
   have hmap : ∀ g, some g ∈ (ks.map σ').map C0 → ∃ k ∈ ks, O' k = some g := by
     intro g hg; simp only [map_map, mem_map, Function.comp_apply] at hg; obtain ⟨k, hk, hg⟩ := hg; exact ⟨k, hk, (hks' k hk).2 g hg⟩
   have hapart : ∀ (l : List Nat), l.Nodup → (∀ k ∈ l, ∀ g, C0 (σ' k) = some g → O' k = some g) → K3 ((l.map σ').map C0) := by
     intro l
     induction l with
     | nil => intro _ _; trivial
     | cons k l ih =>
       intro hn ho; rw [nodup_cons] at hn; refine ⟨fun g hg hm => ?_, ih hn.2 (fun k hk => ho k (by simp [hk]))⟩; simp only [map_map, mem_map, Function.comp_apply] at hm; obtain ⟨k', hk', hg'⟩ := hm; have e1 := ho k (by simp) g hg; have e2 := ho k' (by simp [hk']) g hg'; exact hn.1 (by rw [hR.inj k k' g e1 e2]; exact hk')
   have hfin : a'.defers = [] ∧ ∃ v, (results fn a'.tmps).run P w' = .ok v w' ∧ (∃ v' L' og r hs', Ending.returned v = .returned v' ∧ F1 w w' (fun b => some b ∈ hs.map C0) ∧ (∀ b q, L' b q → b < w'.heap.size) ∧ (∀ b q, b < w.heap.size → some b ∉ hs.map C0 → (L' b q ↔ L b q)) ∧
     (∀ g, some g ∈ og :: hs'.map C0 → g < w'.heap.size ∧ (w.heap.size ≤ g ∨ some g ∈ hs.map C0)) ∧ K3 (og :: hs'.map C0) ∧ RC P w' L' og r v' ∧ (∀ x ∈ hs', RH P w' L' x) ∧ Post r hs') := by
     refine ⟨hdef, _, results_tmp hres _ _ _, _, L', og, r, ks.map σ', rfl, hR.grown, hR.lok, hR.old, fun g hg => ?_, ⟨fun g hg hm => ?_, hapart ks hnd (fun k hk => (hks' k hk).2)⟩, o1, fun x hx => ?_, hpost⟩
     · rcases mem_cons.1 hg with hg | hg
       · obtain ⟨j, hj, _⟩ := o2 g hg.symm; exact hR.olt j g hj
       · obtain ⟨k, _, hk⟩ := hmap g hg; exact hR.olt k g hk
     · obtain ⟨j, hj, hjH⟩ := o2 g hg; obtain ⟨k, hkm, hk⟩ := hmap g hm; have := hks k hkm; rw [hR.inj k j g hk hj] at this; rw [hjH] at this; cases this
     · obtain ⟨k, hk, rfl⟩ := mem_map.1 hx; exact (hks' k hk).1
   rcases he with rfl | rfl
   · exact hfin
   · exact hfin
end Go.Vw
namespace Go.Vw
def mkd {α : Sort _} (x : α) : α := x
theorem c5m {α : Sort _} (x y : α) (h : x = y) : mkd x = y := by unfold mkd; exact h
@[simp] theorem B7 {α : Sort _} (x : α) : mkd x = x := c5m x x (Eq.symm (Eq.symm rfl))
@[simp] theorem d5S (σ : St) (d : Nat) (x : AV) (i : Nat) : put σ d x i = if i = d then E9 d x else E9 d (σ i) := rfl
@[simp] theorem d3x (l : List AV) (i : Nat) : a5r l i = match l[i]? with
 | some x => x
 | none => .undef := rfl
def a9k (P : Program) (F : Nat → Bool) (ops : Array Oper) (l : List Oper) (ds : List Nat) (K : St → Prop) (σ : St) : Prop := R9 P F ops ds l K (K5 ds σ)
def b0K (b b' : Bool) (P : Program) (F : Nat → Bool) (ops : Array Oper) (l : List Oper) (ds : List Nat) (K : St → Prop) (σ : St) : Prop := b6b b P F ops K (b5r b' (a9k P F ops l ds K)) σ
def b2Z (b : Bool) (P : Program) (F : Nat → Bool) (ops : Array Oper) (l : List Oper) (ds : List Nat) (K : St → Prop) (σ : St) : Prop := b5r b (a9k P F ops l ds K) σ
def a7P (P : Program) (F : Nat → Bool) (l : List Oper) (ds : List Nat) (K : St → Prop) (σ : St) : Prop := F5 P F ds l K (K5 ds σ)
def a5K (b9 bT b b' : Bool) (P : Program) (F : Nat → Bool) (l : List Oper) (ds : List Nat) (K : St → Prop) (σ : St) : Prop := a8g b9 bT P F l.toArray K (b0K b b' P F l.toArray l ds K) σ
def a8Y (P : Program) (F : Nat → Bool) (ops : Array Oper) (l r : List Oper) (ds : List Nat) (K : St → Prop) (σ : St) : Prop := F5 P F ds l (K2 P F ops r K) (K5 ds σ)
section
variable {P : Program} {F : Nat → Bool} {Q : Exit → St → Prop} {K : St → Prop} {σ : St}
@[simp] theorem c9X (ops : Array Oper) (l : List Oper) (ds : List Nat) : b2Z false P F ops l ds K σ = a9k P F ops l ds K σ := by simp [b2Z, b5r]
@[simp] theorem d1I : vwp P F .skip Q σ = Q .normal σ := by simp only [vwp]
@[simp] theorem c8h (id : Nat) (ops : List Oper) : vwp P F (.region id ops.toArray false) Q σ = K2 P F ops.toArray ops (Q .normal) σ := by simp only [vwp]
@[simp] theorem d0m (b : Bool) (ops : Array Oper) (l : List Oper) (ds : List Nat) : b0K false b P F ops l ds K σ = b2Z b P F ops l ds K σ := by simp [b0K, b2Z, b6b]
@[simp] theorem d0x (bT b b' : Bool) (l : List Oper) (ds : List Nat) : a5K false bT b b' P F l ds K σ = b0K b b' P F l.toArray l ds K σ := by simp [a5K, a8g]
@[simp] theorem d1v (b b' : Bool) (l : List Oper) (ds : List Nat) : a5K true false b b' P F l ds K σ = a7P P F l (wrs F l) K σ := by simp only [a5K, a8g, a7P, a2Z, a8G, if_true, Bool.false_eq_true, if_false]; rfl
@[simp] theorem d0O (b b' : Bool) (l : List Oper) (ds : List Nat) : a5K true true b b' P F l ds K σ = a8Y P F l.toArray (a5R F l) (a4l F l) (wrs F (a5R F l)) K σ := by simp only [a5K, a8g, a8Y, a2Z, a8G, if_true]
@[simp] theorem d1o (ops : Array Oper) (l r : List Oper) (ds : List Nat) : a8Y P F ops l r ds K σ = F5 P F ds l (K2 P F ops r K) (K5 ds σ) := rfl
@[simp] theorem d2Y : a5R F [] = [] := rfl
@[simp] theorem d2f (d : Nat) (op : Op) (ty : TypeId) (pos : String) (after : Array Edge) (g : Option (Nat × Bool)) (rest : List Oper) : a5R F ({ dst := some d, op, type := ty, pos, after, guard := g } :: rest) = if (!F (15000000 + d)) = true then { dst := some d, op, type := ty, pos, after, guard := g } :: a5R F rest else [] := rfl
@[simp] theorem d1a (op : Op) (ty : TypeId) (pos : String) (after : Array Edge) (g : Option (Nat × Bool)) (rest : List Oper) : a5R F ({ dst := none, op, type := ty, pos, after, guard := g } :: rest) = [] := rfl
@[simp] theorem d2o : a4l F [] = [] := rfl
@[simp] theorem c9t (d : Nat) (op : Op) (ty : TypeId) (pos : String) (after : Array Edge) (g : Option (Nat × Bool)) (rest : List Oper) : a4l F ({ dst := some d, op, type := ty, pos, after, guard := g } :: rest) = if (!F (15000000 + d)) = true then a4l F rest else { dst := some d, op, type := ty, pos, after, guard := g } :: rest := rfl
@[simp] theorem c9Y (op : Op) (ty : TypeId) (pos : String) (after : Array Edge) (g : Option (Nat × Bool)) (rest : List Oper) : a4l F ({ dst := none, op, type := ty, pos, after, guard := g } :: rest) = { dst := none, op, type := ty, pos, after, guard := g } :: rest := rfl
@[simp] theorem d1A (l : List Oper) (ds : List Nat) : a7P P F l ds K σ = F5 P F ds l K (K5 ds σ) := rfl
@[simp] theorem d4I : wrs F [] = [] := rfl
@[simp] theorem d2D (o : Oper) (rest : List Oper) : wrs F (o :: rest) = wrS F o ++ wrs F rest := rfl
attribute [simp] wrS wrO T9
@[simp] theorem d1P (id : Nat) (ops : List Oper) : vwp P F (.region id ops.toArray true) Q σ = a5K (F (9000000 + id)) (F (14000000 + id)) (F (8000000 + id)) (F (7000000 + id)) P F ops (U0 F ops) (Q .normal) σ := by simp only [vwp, a5K, b0K]; rfl
@[simp] theorem d1l : U0 F [] = [] := rfl
@[simp] theorem c9i (d : Nat) (op : Op) (ty : TypeId) (pos : String) (after : Array Edge) (g : Option (Nat × Bool)) (rest : List Oper) :
   U0 F ({ dst := some d, op, type := ty, pos, after, guard := g } :: rest) = if a4Z F (some d) op then [] else d :: U0 F rest := rfl
@[simp] theorem c8U (op : Op) (ty : TypeId) (pos : String) (after : Array Edge) (g : Option (Nat × Bool)) (rest : List Oper) :
   U0 F ({ dst := none, op, type := ty, pos, after, guard := g } :: rest) = if a4Z F none op then [] else U0 F rest := rfl
@[simp] theorem d4o (ops : Array Oper) (l : List Oper) (ds : List Nat) : a9k P F ops l ds K σ = R9 P F ops ds l K (K5 ds σ) := rfl
@[simp] theorem d2W (x y : Code) : vwp P F (.seq x y) Q σ = vwp P F x (a3G (vwp P F y Q) Q) σ := by simp only [vwp]
@[simp] theorem d2k (c : Operand) (x y : Code) : vwp P F (.cond c x y) Q σ = (match A0 σ c with
   | .d (.bool b) => if b = true then vwp P F x Q σ else vwp P F y Q σ
   | _ => False) := by
 simp only [vwp]; cases A0 σ c with
 | d x => cases x with
   | bool b => cases b <;> simp
   | _ => rfl
 | _ => rfl
@[simp] theorem c8Z (id : Nat) (c : Code) : vwp P F (.block id c) Q σ = vwp P F c (a2u id Q) σ := by simp only [vwp]
@[simp] theorem d1D (c : Code) : vwp P F (.loop c) Q σ = a5E (vwp P F c) Q σ := by simp only [vwp]
@[simp] theorem d1e (id : Nat) : vwp P F (.exit id) Q σ = Q (.exit id) σ := by simp only [vwp]
@[simp] theorem d3h : vwp P F .ret Q σ = Q .ret σ := by simp only [vwp]
@[simp] theorem d5h (N : St → Prop) : a3G N Q .normal σ = N σ := rfl
@[simp] theorem d4J (N : St → Prop) : a3G N Q .ret σ = Q .ret σ := rfl
@[simp] theorem d4R (N : St → Prop) (id : Nat) : a3G N Q (.exit id) σ = Q (.exit id) σ := rfl
@[simp] theorem c9b (id : Nat) : a2u id Q .normal σ = Q .normal σ := rfl
@[simp] theorem d0h (id : Nat) : a2u id Q .ret σ = Q .ret σ := rfl
@[simp] theorem c9Q (id id' : Nat) : a2u id Q (.exit id') σ = if id' = id then Q .normal σ else Q (.exit id') σ := rfl
@[simp] theorem d3A (ops : Array Oper) : K2 P F ops [] K σ = K σ := rfl
@[simp] theorem d0S (ops : Array Oper) (dst : Option Tmp) (op : Op) (ty : TypeId) (pos : String) (after : Array Edge) (rest : List Oper) :
   K2 P F ops ({ dst, op, type := ty, pos, after, guard := none } :: rest) K σ = vop P F { dst, op, type := ty, pos, after, guard := none } (K2 P F ops rest K) σ := rfl
@[simp] theorem c8K (ops : Array Oper) (dst : Option Tmp) (op : Op) (ty : TypeId) (pos : String) (after : Array Edge) (j : Nat) (want : Bool) (rest : List Oper) :
   K2 P F ops ({ dst, op, type := ty, pos, after, guard := some (j, want) } :: rest) K σ = A8 ((ops[j]?).bind (·.dst)) fun t => (match σ t with
     | .d (.bool b) => if b = want then vop P F { dst, op, type := ty, pos, after, guard := some (j, want) } (K2 P F ops rest K) σ else K2 P F ops rest K (b2T σ dst)
     | .tup [] => K2 P F ops rest K (b2T σ dst)
     | _ => False) := by
 simp only [K2]; congr 1
 funext t
 cases σ t with
 | d x => cases x with
   | bool b => by_cases hb : b = want <;> simp [hb]
   | _ => rfl
 | tup l => cases l <;> rfl
 | _ => rfl
def M0 (ds : List Nat) (d : Nat) (N : St → Prop) (σ : St) (x : AV) : Prop := I3 ds x = true ∧ N (B4 σ d x)
@[simp] theorem d2R (ds : List Nat) (d : Nat) (N : St → Prop) (x : AV) : M0 ds d N σ x = (I3 ds x = true ∧ N (B4 σ d x)) := rfl
@[simp] theorem d3n (ds : List Nat) : F5 P F ds [] K σ = K σ := rfl
@[simp] theorem d0C (ds : List Nat) (d : Nat) (e ty : TypeId) (pos : String) (after : Array Edge) (g : Option (Nat × Bool)) (rest : List Oper) :
   F5 P F ds ({ dst := some d, op := .alloc e, type := ty, pos, after, guard := g } :: rest) K σ = if F (d + 1000000) = true then False else A8 (D3 P e) fun z => F5 P F ds rest K (B4 σ d (.box z)) := rfl
@[simp] theorem d1p (ds : List Nat) (d : Nat) (t : Nat) (ty : TypeId) (pos : String) (after : Array Edge) (g : Option (Nat × Bool)) (rest : List Oper) :
   F5 P F ds ({ dst := some d, op := .move (.tmp t), type := ty, pos, after, guard := g } :: rest) K σ = (if F (18000000 + d) = true then (match σ t with
     | .own true e l => M0 ds d (F5 P F ds rest K) (B4 σ t .undef) (.own true e l)
     | _ => False) else D6 P F (.move (.tmp t)) d σ (M0 ds d (F5 P F ds rest K) σ)) := by
 simp only [F5, a8W, b5m, W4, T9, kl]; split
 · cases σ t with
   | own m e l => cases m <;> rfl
   | _ => rfl
 · rfl
@[simp] theorem c9W (ds : List Nat) (d : Nat) (v : Value) (ty : TypeId) (pos : String) (after : Array Edge) (g : Option (Nat × Bool)) (rest : List Oper) :
   F5 P F ds ({ dst := some d, op := .move (.const v), type := ty, pos, after, guard := g } :: rest) K σ = D6 P F (.move (.const v)) d σ (M0 ds d (F5 P F ds rest K) σ) := rfl
@[simp] theorem d0I (ds : List Nat) (d : Nat) (v : FuncId) (ty : TypeId) (pos : String) (after : Array Edge) (g : Option (Nat × Bool)) (rest : List Oper) :
   F5 P F ds ({ dst := some d, op := .move (.func v), type := ty, pos, after, guard := g } :: rest) K σ = D6 P F (.move (.func v)) d σ (M0 ds d (F5 P F ds rest K) σ) := rfl
@[simp] theorem d0a (ds : List Nat) (d : Nat) (v : Nat) (ty : TypeId) (pos : String) (after : Array Edge) (g : Option (Nat × Bool)) (rest : List Oper) :
   F5 P F ds ({ dst := some d, op := .move (.global v), type := ty, pos, after, guard := g } :: rest) K σ = D6 P F (.move (.global v)) d σ (M0 ds d (F5 P F ds rest K) σ) := rfl
@[simp] theorem c8F (ds : List Nat) (d : Nat) (t : Nat) (ty : TypeId) (pos : String) (after : Array Edge) (g : Option (Nat × Bool)) (rest : List Oper) :
   F5 P F ds ({ dst := some d, op := .assign (.tmp t), type := ty, pos, after, guard := g } :: rest) K σ = (match σ t with
     | .own m e l => M0 ds d (F5 P F ds rest K) (B4 σ t .undef) (.own m e l)
     | _ => D6 P F (.assign (.tmp t)) d σ (M0 ds d (F5 P F ds rest K) (B4 σ t .undef))) := rfl
@[simp] theorem c6O (ds : List Nat) (d : Nat) (v : Value) (ty : TypeId) (pos : String) (after : Array Edge) (g : Option (Nat × Bool)) (rest : List Oper) :
   F5 P F ds ({ dst := some d, op := .assign (.const v), type := ty, pos, after, guard := g } :: rest) K σ = D6 P F (.assign (.const v)) d σ (M0 ds d (F5 P F ds rest K) σ) := rfl
@[simp] theorem c7x (ds : List Nat) (d : Nat) (v : FuncId) (ty : TypeId) (pos : String) (after : Array Edge) (g : Option (Nat × Bool)) (rest : List Oper) :
   F5 P F ds ({ dst := some d, op := .assign (.func v), type := ty, pos, after, guard := g } :: rest) K σ = D6 P F (.assign (.func v)) d σ (M0 ds d (F5 P F ds rest K) σ) := rfl
@[simp] theorem c6V (ds : List Nat) (d : Nat) (v : Nat) (ty : TypeId) (pos : String) (after : Array Edge) (g : Option (Nat × Bool)) (rest : List Oper) :
   F5 P F ds ({ dst := some d, op := .assign (.global v), type := ty, pos, after, guard := g } :: rest) K σ = D6 P F (.assign (.global v)) d σ (M0 ds d (F5 P F ds rest K) σ) := rfl
@[simp] theorem d1u (ds : List Nat) (d : Nat) (c x y : Operand) (ty : TypeId) (pos : String) (after : Array Edge) (g : Option (Nat × Bool)) (rest : List Oper) :
   F5 P F ds ({ dst := some d, op := .pick c x y, type := ty, pos, after, guard := g } :: rest) K σ = D6 P F (.pick c x y) d σ (M0 ds d (F5 P F ds rest K) σ) := rfl
@[simp] theorem d2b (ds : List Nat) (d : Nat) (t : TypeId) (x : Operand) (ty : TypeId) (pos : String) (after : Array Edge) (g : Option (Nat × Bool)) (rest : List Oper) :
   F5 P F ds ({ dst := some d, op := .load t x, type := ty, pos, after, guard := g } :: rest) K σ = D6 P F (.load t x) d σ (M0 ds d (F5 P F ds rest K) σ) := rfl
@[simp] theorem c8V (ds : List Nat) (d : Nat) (t : TypeId) (ps : Array (Nat × Operand)) (ty : TypeId) (pos : String) (after : Array Edge) (g : Option (Nat × Bool)) (rest : List Oper) :
   F5 P F ds ({ dst := some d, op := .build t ps, type := ty, pos, after, guard := g } :: rest) K σ = D6 P F (.build t ps) d σ (M0 ds d (F5 P F ds rest K) σ) := rfl
@[simp] theorem c5d (ds : List Nat) (d : Nat) (t : TypeId) (len : Nat) (ps : Array (Nat × Operand)) (ty : TypeId) (pos : String) (after : Array Edge) (g : Option (Nat × Bool)) (rest : List Oper) :
   F5 P F ds ({ dst := some d, op := .buildSlice t len ps, type := ty, pos, after, guard := g } :: rest) K σ = D6 P F (.buildSlice t len ps) d σ (M0 ds d (F5 P F ds rest K) σ) := rfl
@[simp] theorem c6K (ds : List Nat) (d : Nat) (x : Operand) (ty : TypeId) (pos : String) (after : Array Edge) (g : Option (Nat × Bool)) (rest : List Oper) :
   F5 P F ds ({ dst := some d, op := .nilCheck x, type := ty, pos, after, guard := g } :: rest) K σ = D6 P F (.nilCheck x) d σ (M0 ds d (F5 P F ds rest K) σ) := rfl
@[simp] theorem c6e (ds : List Nat) (d : Nat) (s : TypeId) (x : Operand) (f : Nat) (ty : TypeId) (pos : String) (after : Array Edge) (g : Option (Nat × Bool)) (rest : List Oper) :
   F5 P F ds ({ dst := some d, op := .fieldAddr s x f, type := ty, pos, after, guard := g } :: rest) K σ = D6 P F (.fieldAddr s x f) d σ (M0 ds d (F5 P F ds rest K) σ) := rfl
@[simp] theorem c5R (ds : List Nat) (d : Nat) (t : TypeId) (x i : Operand) (ty : TypeId) (pos : String) (after : Array Edge) (g : Option (Nat × Bool)) (rest : List Oper) :
   F5 P F ds ({ dst := some d, op := .indexAddr t x i, type := ty, pos, after, guard := g } :: rest) K σ = D6 P F (.indexAddr t x i) d σ (M0 ds d (F5 P F ds rest K) σ) := rfl
@[simp] theorem c9Z (ds : List Nat) (d : Nat) (t : TypeId) (x i : Operand) (ty : TypeId) (pos : String) (after : Array Edge) (g : Option (Nat × Bool)) (rest : List Oper) :
   F5 P F ds ({ dst := some d, op := .index t x i, type := ty, pos, after, guard := g } :: rest) K σ = D6 P F (.index t x i) d σ (M0 ds d (F5 P F ds rest K) σ) := rfl
@[simp] theorem c9E (ds : List Nat) (d : Nat) (t : TypeId) (x : Operand) (lo hi mx : Option Operand) (ty : TypeId) (pos : String) (after : Array Edge) (g : Option (Nat × Bool)) (rest : List Oper) :
   F5 P F ds ({ dst := some d, op := .slice t x lo hi mx, type := ty, pos, after, guard := g } :: rest) K σ = D6 P F (.slice t x lo hi mx) d σ (M0 ds d (F5 P F ds rest K) σ) := rfl
@[simp] theorem d0w (ds : List Nat) (d : Nat) (b : BinOp) (t : TypeId) (x y : Operand) (t' : TypeId) (ty : TypeId) (pos : String) (after : Array Edge) (g : Option (Nat × Bool)) (rest : List Oper) :
   F5 P F ds ({ dst := some d, op := .binOp b t x y t', type := ty, pos, after, guard := g } :: rest) K σ = D6 P F (.binOp b t x y t') d σ (M0 ds d (F5 P F ds rest K) σ) := rfl
@[simp] theorem d1w (ds : List Nat) (d : Nat) (u : UnOp) (t : TypeId) (x : Operand) (ty : TypeId) (pos : String) (after : Array Edge) (g : Option (Nat × Bool)) (rest : List Oper) :
   F5 P F ds ({ dst := some d, op := .unOp u t x, type := ty, pos, after, guard := g } :: rest) K σ = D6 P F (.unOp u t x) d σ (M0 ds d (F5 P F ds rest K) σ) := rfl
@[simp] theorem c7Q (ds : List Nat) (d : Nat) (s t : TypeId) (x : Operand) (ty : TypeId) (pos : String) (after : Array Edge) (g : Option (Nat × Bool)) (rest : List Oper) :
   F5 P F ds ({ dst := some d, op := .convert s t x, type := ty, pos, after, guard := g } :: rest) K σ = D6 P F (.convert s t x) d σ (M0 ds d (F5 P F ds rest K) σ) := rfl
@[simp] theorem c6Y (ds : List Nat) (d : Nat) (x : Operand) (i : Nat) (ty : TypeId) (pos : String) (after : Array Edge) (g : Option (Nat × Bool)) (rest : List Oper) :
   F5 P F ds ({ dst := some d, op := .extract x i, type := ty, pos, after, guard := g } :: rest) K σ = D6 P F (.extract x i) d σ (M0 ds d (F5 P F ds rest K) σ) := rfl
@[simp] theorem d2m (ds : List Nat) (d : Nat) (f : FuncId) (args : Array Operand) (ts : Array TypeId) (ty : TypeId) (pos : String) (after : Array Edge) (g : Option (Nat × Bool)) (rest : List Oper) :
   F5 P F ds ({ dst := some d, op := .call { callee := .value (.func f), args, argTypes := ts }, type := ty, pos, after, guard := g } :: rest) K σ = (if F (19000000 + d) = true then (match args.toList with
     | [.tmp s] => (match σ s with
       | .own true e l => ∃ r, Ctr P f [.own true e l] r ∧ M0 ds d (F5 P F ds rest K) (B4 σ s .undef) (N9 (F d) r)
       | _ => False)
     | _ => False) else D6 P F (.call { callee := .value (.func f), args, argTypes := ts }) d σ (M0 ds d (F5 P F ds rest K) σ)) := by
 simp only [F5, a8W, b5m, W4, T9, kl]; split
 · generalize args.toList = L; cases L with
   | nil => rfl
   | cons x L =>
     cases x with
     | tmp s =>
       cases L with
       | nil =>
         simp only; cases σ s with
         | own m e l => cases m <;> rfl
         | _ => rfl
       | cons _ _ => rfl
     | _ => rfl
 · rfl
@[simp] theorem c9a (ds : List Nat) (d : Nat) (f : Nat) (args : Array Operand) (ts : Array TypeId) (ty : TypeId) (pos : String) (after : Array Edge) (g : Option (Nat × Bool)) (rest : List Oper) :
   F5 P F ds ({ dst := some d, op := .call { callee := .value (.tmp f), args, argTypes := ts }, type := ty, pos, after, guard := g } :: rest) K σ = D6 P F (.call { callee := .value (.tmp f), args, argTypes := ts }) d σ (M0 ds d (F5 P F ds rest K) σ) := rfl
@[simp] theorem c8o (ds : List Nat) (d : Nat) (t : TypeId) (x i : Operand) (c : Bool) (ty : TypeId) (pos : String) (after : Array Edge) (g : Option (Nat × Bool)) (rest : List Oper) :
   F5 P F ds ({ dst := some d, op := .lookup t x i c, type := ty, pos, after, guard := g } :: rest) K σ = D6 P F (.lookup t x i c) d σ (M0 ds d (F5 P F ds rest K) σ) := rfl
@[simp] theorem c7F (ds : List Nat) (d : Nat) (args : Array Operand) (ts : Array TypeId) (ty : TypeId) (pos : String) (after : Array Edge) (g : Option (Nat × Bool)) (rest : List Oper) :
   F5 P F ds ({ dst := some d, op := .call { callee := .builtin .len, args, argTypes := ts }, type := ty, pos, after, guard := g } :: rest) K σ = D6 P F (.call { callee := .builtin .len, args, argTypes := ts }) d σ (M0 ds d (F5 P F ds rest K) σ) := rfl
@[simp] theorem c8g (ds : List Nat) (d : Nat) (s : Nat) (y : Operand) (t t' : TypeId) (ty : TypeId) (pos : String) (after : Array Edge) (g : Option (Nat × Bool)) (rest : List Oper) :
   F5 P F ds ({ dst := some d, op := .call { callee := .builtin .append, args := #[.tmp s, y], argTypes := #[t, t'] }, type := ty, pos, after, guard := g } :: rest) K σ = (t' = t ∧ A8 (H3 P t) fun e => (match σ s with
     | .own true e' l => e' = e ∧ A8 (esz P e) fun z => A8 (P8 (A0 σ y)) fun ds' => (∀ u ∈ ds', B6 u = z.1) ∧ (l.length + ds'.length) * z.2 ≤ 140737488355328 ∧ l.length + ds'.length ≤ 140737488355328 ∧ M0 ds d (F5 P F ds rest K) (B4 σ s .undef) (.own (F d) e (l ++ ds'))
     | _ => False)) := rfl
@[simp] theorem c8Q (ds : List Nat) (t : TypeId) (s : Nat) (y : Operand) (ty : TypeId) (pos : String) (after : Array Edge) (g : Option (Nat × Bool)) (rest : List Oper) :
   F5 P F ds ({ dst := none, op := .store t (.tmp s) y, type := ty, pos, after, guard := g } :: rest) K σ = (match σ s with
     | .box b => A8 (asD (A0 σ y)) fun u => B6 u = B6 b ∧ D4 P t = some (B6 u) ∧ F5 P F ds rest K (B4 σ s (.box u))
     | _ => False) := rfl
@[simp] theorem d1G (ops : Array Oper) (ds : List Nat) : R9 P F ops ds [] K σ = K σ := rfl
@[simp] theorem c9L (ops : Array Oper) (ds : List Nat) (d : Nat) (op : Op) (ty : TypeId) (pos : String) (after : Array Edge) (rest : List Oper) :
   R9 P F ops ds ({ dst := some d, op, type := ty, pos, after, guard := none } :: rest) K σ = if a4Z F (some d) op then vop P F { dst := some d, op, type := ty, pos, after, guard := none } (K2 P F ops rest K) σ
     else D6 P F op d σ (M0 ds d (R9 P F ops ds rest K) σ) := by
 simp only [R9, K2, J0]; rfl
@[simp] theorem c8H (ops : Array Oper) (ds : List Nat) (op : Op) (ty : TypeId) (pos : String) (after : Array Edge) (rest : List Oper) :
   R9 P F ops ds ({ dst := none, op, type := ty, pos, after, guard := none } :: rest) K σ = if a4Z F none op then vop P F { dst := none, op, type := ty, pos, after, guard := none } (K2 P F ops rest K) σ else False := by
 simp only [R9, K2, b9L]
@[simp] theorem c8j (ops : Array Oper) (ds : List Nat) (d : Nat) (op : Op) (ty : TypeId) (pos : String) (after : Array Edge) (j : Nat) (want : Bool) (rest : List Oper) :
   R9 P F ops ds ({ dst := some d, op, type := ty, pos, after, guard := some (j, want) } :: rest) K σ = if a4Z F (some d) op then K2 P F ops ({ dst := some d, op, type := ty, pos, after, guard := some (j, want) } :: rest) K σ
     else A8 ((ops[j]?).bind (·.dst)) fun t => (match σ t with
     | .d (.bool b) => if b = want then D6 P F op d σ (M0 ds d (R9 P F ops ds rest K) σ) else R9 P F ops ds rest K (B4 σ d (.tup []))
     | .tup [] => R9 P F ops ds rest K (B4 σ d (.tup []))
     | _ => False) := by
 simp only [R9, J0]; split
 · rfl
 · congr 1
   funext t
   cases σ t with
   | d x => cases x with
     | bool b => by_cases hb : b = want <;> simp [hb] <;> rfl
     | _ => rfl
   | tup l => cases l <;> rfl
   | _ => rfl
@[simp] theorem d3p (d : Nat) (op : Op) (ty : TypeId) (pos : String) (after : Array Edge) (g : Option (Nat × Bool)) : vop P F { dst := some d, op, type := ty, pos, after, guard := g } K σ = M1 P F op ty d K σ := rfl
@[simp] theorem d1n (c : Call) (ty : TypeId) (pos : String) (after : Array Edge) (g : Option (Nat × Bool)) : vop P F { dst := none, op := .call c, type := ty, pos, after, guard := g } K σ = a6j P c K σ := rfl
@[simp] theorem c6J (t : TypeId) (x i y : Operand) (ty : TypeId) (pos : String) (after : Array Edge) (g : Option (Nat × Bool)) : vop P F { dst := none, op := .mapUpdate t x i y, type := ty, pos, after, guard := g } K σ = a7r P t x i y K σ := rfl
@[simp] theorem c9u (t : TypeId) (x i y : Operand) (ty : TypeId) (pos : String) (after : Array Edge) (g : Option (Nat × Bool)) : vop P F { dst := none, op := .insert t x i y, type := ty, pos, after, guard := g } K σ = a7r P t x i y K σ := rfl
@[simp] theorem d1E (t : TypeId) (x y : Operand) (ty : TypeId) (pos : String) (after : Array Edge) (g : Option (Nat × Bool)) : vop P F { dst := none, op := .store t x y, type := ty, pos, after, guard := g } K σ = a4W P F t x y K σ := rfl
end
section
variable (d : D) (l : List D) (m : Bool) (e : TypeId) (j i t : Nat) (p : List Nat) (xs : List AV) (s : Str) (σ : St)
@[simp] theorem d6M : asD (.d d) = some d := rfl
@[simp] theorem d4w : asD .nils = some (.sl []) := rfl
@[simp] theorem d2X : asD (.full l) = some (.sl l) := rfl
@[simp] theorem d4P : asD (.own false e l) = some (.sl l) := rfl
@[simp] theorem d5J : asD (.bor j false e l) = some (.sl l) := rfl
@[simp] theorem d4a : asD (.own true e l) = none := rfl
@[simp] theorem d3H : asD (.bor j true e l) = none := rfl
@[congr] theorem d6w {σ' : St} {v v' : AV} {C : List D → Prop} (hv : v = v') (hs : mkd (σ) = σ') : a1X v σ C = a1X v' σ' C := by subst hv; rw [B7] at hs; subst hs; rfl
@[congr] theorem d5F {σ' : St} {u u' : Value} {C : List D → Prop} (hu : mkd (u) = u') (hs : mkd (σ) = σ') : b4E u σ C = b4E u' σ' C := by rw [B7] at hu; subst hu; rw [B7] at hs; subst hs; rfl
@[simp] theorem d4h {u : Value} {C : List D → Prop} : a1X (.d (.raw u)) σ C = b4E u σ C := rfl
@[simp] theorem d2M {C : List D → Prop} : a1X (.bor j m e l) σ C = C l := by simp [a1X, P8]
@[simp] theorem d6z {C : List D → Prop} : a1X (.d (.sl l)) σ C = C l := by simp [a1X, P8]
@[simp] theorem d2g {C : List D → Prop} : a1X .nils σ C = C [] := by simp [a1X, P8]
@[simp] theorem d2w {C : List D → Prop} : a1X (.full l) σ C = C l := by simp [a1X, P8]
@[simp] theorem d1r : P8 (.bor j m e l) = some l := rfl
@[simp] theorem d4S : P8 (.d (.sl l)) = some l := rfl
@[simp] theorem c9P : P8 .nils = some [] := rfl
@[simp] theorem d0k : P8 (.full l) = some l := rfl
@[simp] theorem d2q : a4u (.bor j m e l) = some l.length := rfl
@[simp] theorem d4Q : a4u (.d (.sl l)) = some l.length := rfl
@[simp] theorem c9v : a4u .nils = some 0 := rfl
@[simp] theorem c9n : a4u (.full l) = some l.length := rfl
@[simp] theorem d0Y (A : Option Addr) (k c : Nat) : a4u (.d (.raw (.slice A k c))) = some k := rfl
@[simp] theorem d5M : rd t (.own m e l) = .bor t m e l := rfl
@[simp] theorem d6o : rd t (.box d) = .adr t [] := rfl
@[simp] theorem d6x : rd t (.tup xs) = .undef := rfl
@[simp] theorem d5w : rd t (.iter s i) = .undef := rfl
@[simp] theorem d3I : rd t .undef = .undef := rfl
@[simp] theorem d6O : rd t (.d d) = .d d := rfl
@[simp] theorem d4O : rd t .nils = .nils := rfl
@[simp] theorem d5b : rd t (.full l) = .full l := rfl
@[simp] theorem d5X : rd t (.bor j m e l) = .bor j m e l := rfl
@[simp] theorem d6b : rd t (.adr j p) = .adr j p := rfl
@[simp] theorem d5y : rd t (.eadr j i p) = .eadr j i p := rfl
@[simp] theorem d4D : A0 σ (.tmp t) = rd t (σ t) := rfl
@[simp] theorem c9F (v : Value) : A0 σ (.const v) = a1o v := rfl
@[simp] theorem d1s (f : FuncId) : A0 σ (.func f) = .d (.clo f []) := rfl
@[simp] theorem d0U (b : Bool) : a1o (.bool b) = .d (.bool b) := rfl
@[simp] theorem d3S (k : IntKind) (n : Int) : a1o (.int k n) = .d (.int k n) := rfl
@[simp] theorem d3U (x : ByteArray) : a1o (.string x) = .d (.str x.data.toList) := rfl
@[simp] theorem d3r : a1o (.slice none 0 0) = .nils := rfl
@[simp] theorem d4k : a1o (.pointer none) = .d .nilp := rfl
@[simp] theorem c9J : E9 t .undef = .undef := rfl
@[simp] theorem d6d : E9 t (.d d) = .d d := rfl
@[simp] theorem d2s : E9 t .nils = .nils := rfl
@[simp] theorem d2c : E9 t (.full l) = .full l := rfl
@[simp] theorem d1K : E9 t (.own m e l) = .own m e l := rfl
@[simp] theorem d1f : E9 t (.box d) = .box d := rfl
@[simp] theorem d3c : E9 t (.tup xs) = .tup xs := rfl
@[simp] theorem d1Z : E9 t (.iter s i) = .iter s i := rfl
@[simp] theorem d4x : E9 t (.bor j m e l) = if j = t then (if m then .undef else .d (.sl l)) else .bor j m e l := rfl
@[simp] theorem d2J : E9 t (.adr j p) = if j = t then .undef else .adr j p := rfl
@[simp] theorem d0Z : E9 t (.eadr j i p) = if j = t then .undef else .eadr j i p := rfl
@[simp] theorem d5a : V5 σ (.d (.ref d)) = some d := rfl
@[simp] theorem d0M : V5 σ (.adr j p) = match R8 (σ j) with
   | some b => D.get p b
   | none => none := rfl
@[simp] theorem c9q : V5 σ (.eadr j i p) = match K0 (σ j) with
   | some (_, l) => match l[i]? with
     | some y => D.get p y
     | none => none
   | none => none := rfl
@[simp] theorem d2K (A : Addr) : a1Y σ (.d (.raw (.pointer (some A)))) = some () := rfl
@[simp] theorem d4e : a1Y σ (.d (.ref d)) = some () := rfl
@[simp] theorem d2A : a1Y σ (.adr j p) = (V5 σ (.adr j p)).map fun _ => () := rfl
@[simp] theorem d0X : a1Y σ (.eadr j i p) = (V5 σ (.eadr j i p)).map fun _ => () := rfl
@[simp] theorem d2n : R8 (.box d) = some d := rfl
@[simp] theorem d4z (u : Value) (e : TypeId) : R8 (.hb u e d) = some d := rfl
@[simp] theorem d1j : K0 (.own true e l) = some (e, l) := rfl
@[simp] theorem d2F (u : Value) : K0 (.hs u e l) = some (e, l) := rfl
@[simp] theorem d0u (y : D) : a6g y (.box d) = .box y := rfl
@[simp] theorem d1Y (y : D) (u : Value) (e : TypeId) : a6g y (.hb u e d) = .hb u e y := rfl
@[simp] theorem d0E (e' : TypeId) (l' : List D) : W1 e' l' (.own m e l) = .own true e' l' := rfl
@[simp] theorem d1b (e' : TypeId) (l' : List D) (u : Value) : W1 e' l' (.hs u e l) = .hs u e' l' := rfl
@[simp] theorem d6D (u : Value) (kt : TypeId) (mm : List (D × D)) (E : Option (List (D × Nat) × Nat)) : rd t (.hm u kt mm E) = .undef := rfl
@[simp] theorem d6l (u : Value) (E : List (D × Nat) × Nat) (ks : List D) : rd t (.mit u E ks) = .undef := rfl
@[simp] theorem d4K (u : Value) (kt : TypeId) (mm : List (D × D)) (E : Option (List (D × Nat) × Nat)) : E9 t (.hm u kt mm E) = .hm u kt mm E := rfl
@[simp] theorem d3E (u : Value) (E : List (D × Nat) × Nat) (ks : List D) : E9 t (.mit u E ks) = .mit u E ks := rfl
@[simp] theorem d3f : a1o (.map none) = .d (.raw (.map none)) := rfl
@[simp] theorem d6r : rd t (.sub j i) = .sub j i := rfl
@[simp] theorem d6E (u : Value) : rd t (.hs u e l) = .undef := rfl
@[simp] theorem d6I (u : Value) (e : TypeId) : rd t (.hb u e d) = .undef := rfl
@[simp] theorem d3Q : E9 t (.sub j i) = if j = t then .undef else .sub j i := rfl
@[simp] theorem d5K (u : Value) : E9 t (.hs u e l) = .hs u e l := rfl
@[simp] theorem d4T (u : Value) (e : TypeId) : E9 t (.hb u e d) = .hb u e d := rfl
@[simp] theorem d4X (y : D) : a0a (.d d) (.d y) = (d = y) := by simp [a0a]
@[simp] theorem d1X (y : D) : a0a .nils (.d y) = (.sl [] = y) := by simp [a0a]
@[simp] theorem d3y (y : D) : a0a (.own m e l) (.d y) = (y = .sl l) := by cases m <;> simp [a0a, eq_comm]
@[simp] theorem d4F (y : D) : a0a (.bor j m e l) (.d y) = (y = .sl l) := by cases m <;> simp [a0a, eq_comm]
@[simp] theorem d1h (m' : Bool) (e' : TypeId) (l' : List D) : a0a (.own m e l) (.own m' e' l') = (m = m' ∧ e = e' ∧ l = l') := rfl
@[simp] theorem d2l (m' : Bool) (e' : TypeId) (l' : List D) : a0a (.bor j m e l) (.own m' e' l') = (m = m' ∧ e = e' ∧ l = l') := rfl
@[simp] theorem d3k (r : AV) : b2y t r .ret σ = a0a (σ t) r := by simp [b2y]
@[simp] theorem c8q (r : AV) : b2y t r .normal σ = a0a (σ t) r := by simp [b2y]
@[simp] theorem d3W (Post : AV → List AV → Prop) : b2D t Post .ret σ = ∃ (r : AV) (ks : List Nat), ks.Nodup ∧ (∀ k ∈ ks, isH (σ k) = true) ∧ a1Z σ t r ∧ Post r (ks.map σ) := by simp [b2D]
@[simp] theorem c8m (Post : AV → List AV → Prop) : b2D t Post .normal σ = ∃ (r : AV) (ks : List Nat), ks.Nodup ∧ (∀ k ∈ ks, isH (σ k) = true) ∧ a1Z σ t r ∧ Post r (ks.map σ) := by simp [b2D]
@[simp] theorem d0T (u : Nat) (r : AV) (y : D) : b4N t u r y .ret σ = (a0a (σ t) r ∧ asD (σ u) = some y) := by simp [b4N]
@[simp] theorem c6Q (u : Nat) (r : AV) (y : D) : b4N t u r y .normal σ = (a0a (σ t) r ∧ asD (σ u) = some y) := by simp [b4N]
end
@[simp] theorem d5n (σ : St) (d : Nat) (x : AV) (i : Nat) : B4 σ d x i = if i = d then x else σ i := rfl
@[simp] theorem d3z (ds : List Nat) (σ : St) (i : Nat) : K5 ds σ i = F9 ds (σ i) := rfl
section
variable (ds : List Nat) (d : D) (l : List D) (m : Bool) (e : TypeId) (j i t : Nat) (p : List Nat) (xs : List AV) (s : Str)
@[simp] theorem c8G : F9 ds .undef = .undef := rfl
@[simp] theorem d5g : F9 ds (.d d) = .d d := rfl
@[simp] theorem d0d : F9 ds .nils = .nils := rfl
@[simp] theorem c8O : F9 ds (.full l) = .full l := rfl
@[simp] theorem d1T : F9 ds (.own m e l) = .own m e l := rfl
@[simp] theorem d0N : F9 ds (.box d) = .box d := rfl
@[simp] theorem d2p : F9 ds (.tup xs) = .tup xs := rfl
@[simp] theorem d0e : F9 ds (.iter s i) = .iter s i := rfl
@[simp] theorem d1H : F9 ds (.bor j m e l) = if ds.contains j then (if m then .undef else .d (.sl l)) else .bor j m e l := rfl
@[simp] theorem d1F : F9 ds (.adr j p) = if ds.contains j then .undef else .adr j p := rfl
@[simp] theorem d2t : F9 ds (.sub j i) = if ds.contains j then .undef else .sub j i := rfl
@[simp] theorem d2O (u : Value) (kt : TypeId) (mm : List (D × D)) (E : Option (List (D × Nat) × Nat)) : F9 ds (.hm u kt mm E) = .hm u kt mm E := rfl
@[simp] theorem d0R (u : Value) (E : List (D × Nat) × Nat) (ks : List D) : F9 ds (.mit u E ks) = .mit u E ks := rfl
@[simp] theorem d4g (u : Value) : F9 ds (.hs u e l) = .hs u e l := rfl
@[simp] theorem d3R (u : Value) (e : TypeId) : F9 ds (.hb u e d) = .hb u e d := rfl
@[simp] theorem d3B : I3 ds (.sub j i) = !ds.contains j := rfl
@[simp] theorem d0b : F9 ds (.eadr j i p) = if ds.contains j then .undef else .eadr j i p := rfl
@[simp] theorem c9I : I3 ds .undef = true := rfl
@[simp] theorem d6p : I3 ds (.d d) = true := rfl
@[simp] theorem d2a : I3 ds .nils = true := rfl
@[simp] theorem d1i : I3 ds (.full l) = true := rfl
@[simp] theorem d4b : I3 ds (.own m e l) = true := rfl
@[simp] theorem d4r : I3 ds (.tup xs) = true := rfl
@[simp] theorem d2V : I3 ds (.bor j m e l) = !ds.contains j := rfl
@[simp] theorem d4l : I3 ds (.adr j p) = !ds.contains j := rfl
@[simp] theorem d2r : I3 ds (.eadr j i p) = !ds.contains j := rfl
@[simp] theorem c9l : N1 [] = [] := rfl
@[simp] theorem c8s (dst : Option Tmp) (op : Op) (ty : TypeId) (pos : String) (after : Array Edge) (g : Option (Nat × Bool)) (rest : List Oper) : N1 ({ dst, op, type := ty, pos, after, guard := g } :: rest) = dst.toList ++ N1 rest := by
 cases dst <;> simp [N1]
end
theorem E4 {P : Program} {g : FuncId} {args : List AV} {b : Bool} {C : AV → Prop} {r : AV} (h : Ctr P g args r) (hk : C (N9 b r)) : b4P P g args b C := ⟨r, h, hk⟩
attribute [simp] b3a
attribute [simp] a4Z X7 a2W S5 T0 a2d a0u Y7
attribute [simp] ety
attribute [simp] a4A b0W X4 L4 c4L a6J C6 a7k
attribute [simp] a5Z a4x a7r b2J
attribute [simp] a6j a4m a4w a1S a1O a6i a3a a3r a9y a4W D.get D.upd bnd N8 a4r a0q Y2 b2H M7 eat N9 B6 C8
 D.isAgg InR a4o b0Q b2T left a5k
@[simp] theorem d2y {P : Program} {F : Nat → Bool} {c x y : Operand} {ty : TypeId} {d : Nat} {K : St → Prop} {σ : St} : M1 P F (.pick c x y) ty d K σ = (match A0 σ c with
   | .d (.bool b) => if b = true then K (put σ d (A0 σ x)) else K (put σ d (A0 σ y))
   | _ => False) := by
 simp only [M1]; cases A0 σ c with
 | d x => cases x with
   | bool b => cases b <;> simp
   | _ => rfl
 | _ => rfl
@[simp] theorem d0D {P : Program} {F : Nat → Bool} {c x y : Operand} {d : Nat} {C : AV → Prop} {σ : St} : D6 P F (.pick c x y) d σ C = (match A0 σ c with
   | .d (.bool b) => if b = true then C (A0 σ x) else C (A0 σ y)
   | _ => False) := by
 simp only [D6]; cases A0 σ c with
 | d x => cases x with
   | bool b => cases b <;> simp
   | _ => rfl
 | _ => rfl
section
variable {P : Program} {F : Nat → Bool} {ty : TypeId} {d : Nat} {K : St → Prop} {C : AV → Prop} {σ : St}
@[simp] theorem d2i (x : Operand) : M1 P F (.move x) ty d K σ = (a4m P F x ty false d K σ) := rfl
@[simp] theorem d0o (x : Operand) : D6 P F (.move x) d σ C = (X7 false x σ C) := rfl
@[simp] theorem c8r (x : Operand) : M1 P F (.assign x) ty d K σ = (a4m P F x ty true d K σ) := rfl
@[simp] theorem c7j (x : Operand) : D6 P F (.assign x) d σ C = (X7 true x σ C) := rfl
@[simp] theorem c8M (t : Nat) : X5 P σ (.tmp t) = V5 σ (A0 σ (.tmp t)) := rfl
@[simp] theorem c7n (v : Value) : X5 P σ (.const v) = V5 σ (A0 σ (.const v)) := rfl
@[simp] theorem c6L (g : Nat) : X5 P σ (.global g) = a7S P g := rfl
@[simp] theorem d1C (t : TypeId) (x : Operand) : M1 P F (.load t x) ty d K σ = (A8 (X5 P σ x) fun y => tyk P t = some (y.isAgg, B6 y) ∧ (if F (d + 13000000) then c6R y σ d K else K (put σ d (.d y)))) := rfl
@[simp] theorem c9S (t : TypeId) (x : Operand) : D6 P F (.load t x) d σ C = (A8 (X5 P σ x) fun y => tyk P t = some (y.isAgg, B6 y) ∧ C (.d y)) := rfl
@[simp] theorem c6I (x : Operand) : M1 P F (.nilCheck x) ty d K σ = (A8 (a1Y σ (A0 σ x)) fun _ => K (put σ d (A0 σ x))) := rfl
@[simp] theorem d0j (e : TypeId) : M1 P F (.alloc e) ty d K σ = (if F (d + 1000000) then A8 (a3W P true e) fun z => b6j P e z σ d K else A8 (D3 P e) fun z => K (put σ d (.box z))) := rfl
@[simp] theorem c6z (t : TypeId) (x y : Operand) : M1 P F (.makeSlice t x y) ty d K σ = (A8 (H3 P t) fun e => A8 (D3 P e) fun z => A8 (esz P e) fun s => B6 z = s.1 ∧ (match A0 σ x, A0 σ y with
   | .d (.int .i64 p), .d (.int .i64 q) => p = q ∧ 0 ≤ p ∧ p * s.2 ≤ 140737488355328 ∧ p ≤ 140737488355328 ∧ K (put σ d (.own (F d) e (replicate p.toNat z)))
   | _, _ => False)) := rfl
@[simp] theorem d2Q (t : TypeId) (x : Operand) : M1 P F (.box t x) ty d K σ = (if F (d + 1000000) then A8 (asD (A0 σ x)) fun y => b8E t y σ d K else A8 (asD (A0 σ x)) fun y => K (put σ d (.box y))) := rfl
@[simp] theorem d0v (t : TypeId) (ps : Array (Nat × Operand)) : M1 P F (.build t ps) ty d K σ = (A8 (if F (d + 1000000) then a0R P true t else T3 P t) fun zs => A8 (N8 σ ps.toList) fun ys => a0q zs ys ∧ K (put σ d (.d (.agg (a4r zs ys))))) := rfl
@[simp] theorem c8v (t : TypeId) (ps : Array (Nat × Operand)) : D6 P F (.build t ps) d σ C = (A8 (if F (d + 1000000) then a0R P true t else T3 P t) fun zs => A8 (N8 σ ps.toList) fun ys => a0q zs ys ∧ C (.d (.agg (a4r zs ys)))) := rfl
@[simp] theorem c4Y (t : TypeId) (len : Nat) (ps : Array (Nat × Operand)) : M1 P F (.buildSlice t len ps) ty d K σ = (A8 (H3 P t) fun e => A8 (esz P e) fun z => A8 (N8 σ ps.toList) fun ys => ys.map (·.1) = List.range len ∧ (∀ y ∈ ys.map (·.2), B6 y = z.1) ∧ len * z.1 ≤ 16777216 ∧ K (put σ d (.own (F d) e (ys.map (·.2))))) := rfl
@[simp] theorem c2W (t : TypeId) (len : Nat) (ps : Array (Nat × Operand)) : D6 P F (.buildSlice t len ps) d σ C = (A8 (H3 P t) fun e => A8 (esz P e) fun z => A8 (N8 σ ps.toList) fun ys => ys.map (·.1) = List.range len ∧ (∀ y ∈ ys.map (·.2), B6 y = z.1) ∧ len * z.1 ≤ 16777216 ∧ C (.own (F d) e (ys.map (·.2)))) := rfl
@[simp] theorem c6a (s : TypeId) (x : Operand) (f : Nat) : M1 P F (.fieldAddr s x f) ty d K σ = (a1O P s x f d K σ) := rfl
@[simp] theorem c4S (s : TypeId) (x : Operand) (f : Nat) : D6 P F (.fieldAddr s x f) d σ C = (T0 P s x f σ C) := rfl
@[simp] theorem c5x (t : TypeId) (x i : Operand) : M1 P F (.indexAddr t x i) ty d K σ = (a1S P t x i d K σ) := rfl
@[simp] theorem c6i (x : Operand) : D6 P F (.nilCheck x) d σ C = (A8 (a1Y σ (A0 σ x)) fun _ => C (A0 σ x)) := rfl
@[simp] theorem c5b (t : TypeId) (x i : Operand) : D6 P F (.indexAddr t x i) d σ C = (S5 P t x i σ C) := rfl
@[simp] theorem c8W (t : TypeId) (x i : Operand) : M1 P F (.index t x i) ty d K σ = ((match P.underlying t, A0 σ x, A0 σ i with | some .string, .d (.str s), .d (.int _ m) => 0 ≤ m ∧ A8 (s[m.toNat]?) fun c => K (put σ d (.d (.int .u8 c.toNat))) | _, _, _ => False)) := rfl
@[simp] theorem c8D (t : TypeId) (x i : Operand) : D6 P F (.index t x i) d σ C = ((match P.underlying t, A0 σ x, A0 σ i with | some .string, .d (.str s), .d (.int _ m) => 0 ≤ m ∧ A8 (s[m.toNat]?) fun c => C (.d (.int .u8 c.toNat)) | _, _, _ => False)) := rfl
@[simp] theorem d0i (t : TypeId) (x : Operand) (lo hi : Option Operand) : M1 P F (.slice t x lo hi none) ty d K σ = (a6i P t x lo hi d K σ) := rfl
@[simp] theorem c8p (t : TypeId) (x hi mx : Operand) : M1 P F (.slice t x none (some hi) (some mx)) ty d K σ = (a4A P t x hi mx d K σ) := rfl
@[simp] theorem c8i (t : TypeId) (x : Operand) (lo hi : Option Operand) : D6 P F (.slice t x lo hi none) d σ C = (a2d P t x lo hi σ C) := rfl
@[simp] theorem d0l (op : BinOp) (t : TypeId) (x y : Operand) (u : TypeId) : M1 P F (.binOp op t x y u) ty d K σ = (if b0n op y = true then b2o P op t (A0 σ x) d K σ else A8 (asD (A0 σ x)) fun dx => A8 (asD (A0 σ y)) fun dy => X8 P t op dx dy fun r => K (put σ d (.d r))) := rfl
attribute [simp] b0n c3s b8q b5J b6r b2o
@[simp] theorem c8f (op : BinOp) (t : TypeId) (x y : Operand) (u : TypeId) : D6 P F (.binOp op t x y u) d σ C = (A8 (asD (A0 σ x)) fun dx => A8 (asD (A0 σ y)) fun dy => X8 P t op dx dy fun r => C (.d r)) := rfl
@[simp] theorem d3K (t : TypeId) (x : Operand) : M1 P F (.unOp .not t x) ty d K σ = ((match A0 σ x with | .d (.bool b) => K (put σ d (.d (.bool !b))) | _ => False)) := rfl
@[simp] theorem d1t (t : TypeId) (x : Operand) : D6 P F (.unOp .not t x) d σ C = ((match A0 σ x with | .d (.bool b) => C (.d (.bool !b)) | _ => False)) := rfl
@[simp] theorem d2T (t : TypeId) (x : Operand) : M1 P F (.unOp .neg t x) ty d K σ = ((match A0 σ x with | .d (.int k m) => InR k (0 - m) ∧ K (put σ d (.d (.int k (0 - m)))) | _ => False)) := rfl
@[simp] theorem c6X (s t : TypeId) (x : Operand) : M1 P F (.convert s t x) ty d K σ = (a3a P F s t x d K σ) := rfl
@[simp] theorem c6G (s t : TypeId) (x : Operand) : D6 P F (.convert s t x) d σ C = (a0u P s t x σ C) := rfl
@[simp] theorem c9o (t : TypeId) (x : Operand) : M1 P F (.range t x) ty d K σ = (match A0 σ x with
   | .d (.str st) => P.underlying t = some .string ∧ K (put σ d (.iter st 0))
   | .d (.raw u) => b8D P t u σ d K
   | .d (.map u ks _ bs clk) => b5Y P t (K (put σ d (.mit u (ks.zip bs, clk) [])))
   | _ => False) := rfl
@[simp] theorem c9O (x : Operand) : M1 P F (.next x false) ty d K σ = a5Z x d K σ := rfl
@[simp] theorem c9g (x : Operand) : M1 P F (.entry x) ty d K σ = a4x x d K σ := rfl
@[simp] theorem c7H (t : TypeId) : M1 P F (.makeMap t none) ty d K σ = b1h σ d K := rfl
def b8Z (σ : St) (d : Nat) (K : St → Prop) (y : AV) : Prop := K (put σ d y)
@[simp] theorem d5l (y : AV) : b8Z σ d K y = K (put σ d y) := rfl
@[simp] theorem c8t (t : TypeId) (x i : Operand) (c : Bool) : M1 P F (.lookup t x i c) ty d K σ = (match A0 σ x with
   | .d (.raw u) => A8 (asD (A0 σ i)) fun k => a6B P t u k c σ (b8Z σ d K)
   | .d (.map _ ks vs _ _) => A8 (asD (A0 σ i)) fun k => a7e P t ks vs k c (b8Z σ d K)
   | _ => False) := rfl
@[simp] theorem c7c (t : TypeId) (x i : Operand) (c : Bool) : D6 P F (.lookup t x i c) d σ C = (match A0 σ x with
   | .d (.raw u) => A8 (asD (A0 σ i)) fun k => a6B P t u k c σ C
   | .d (.map _ ks vs _ _) => A8 (asD (A0 σ i)) fun k => a7e P t ks vs k c C
   | _ => False) := rfl
@[simp] theorem d0s (s : TypeId) (x : Operand) (f : Nat) : M1 P F (.field s x f) ty d K σ = b2z P s f (A0 σ x) (b8Z σ d K) := rfl
@[simp] theorem d3G (s f : Nat) (ds : List D) (C : AV → Prop) : b2z P s f (.d (.agg ds)) C = (A8 (ds[f]?) fun y => A8 (a6d P s f) fun q => tyk P q.1 = some (y.isAgg, B6 y) ∧ q.2 = C8 (ds.take f) ∧ C (.d y)) := rfl
@[simp] theorem d2u (x : Operand) : M1 P F (.next x true) ty d K σ = a9y x d K σ := rfl
@[simp] theorem c7S (x : Operand) (i : Nat) : M1 P F (.extract x i) ty d K σ = (a3r F x i d K σ) := rfl
@[simp] theorem c6N (x : Operand) (i : Nat) : D6 P F (.extract x i) d σ C = (Y7 x i σ C) := rfl
@[simp] theorem c6H (g : FuncId) (first : Array Operand) (caps : Array Operand) : M1 P F (.makeFunc (.func g) first caps) ty d K σ = (match first.toList with
   | [] => a4o (fun σ' ds => K (put σ' d (.d (.clo g ds)))) caps.toList σ []
   | x :: xs => caps.toList = [] ∧ b0Q (fun ds => K (put σ d (.d (.bnd g ds)))) σ (x :: xs) []) := rfl
@[simp] theorem d1B (c : Call) : M1 P F (.call c) ty d K σ = (a4w P F c d K σ) := rfl
@[simp] theorem c9V (c : Call) : D6 P F (.call c) d σ C = (a2W P F c d σ C) := rfl
end
section
variable {P : Program} {F : Nat → Bool} {ty : TypeId} {d : Nat} {K : St → Prop} {C : AV → Prop} {σ σ' : St} {Q : Exit → St → Prop}
@[congr] theorem d5i {α : Type} {x x' : Option α} {f : α → Prop} (h : mkd (x) = x') : A8 x f = A8 x' f := by rw [B7] at h; subst h; rfl
@[congr] theorem d6F {c : Code} (h : mkd (σ) = σ') : vwp P F c Q σ = vwp P F c Q σ' := by rw [B7] at h; subst h; rfl
@[congr] theorem d5V {b b' : Bool} {ops : Array Oper} {l : List Oper} {ds : List Nat} (hb : mkd b = b') : b2Z b P F ops l ds K σ = b2Z b' P F ops l ds K σ := by rw [B7] at hb; subst hb; rfl
@[congr] theorem d6m {b b' c : Bool} {ops : Array Oper} {l : List Oper} {ds : List Nat} (hb : mkd b = b') : b0K b c P F ops l ds K σ = b0K b' c P F ops l ds K σ := by rw [B7] at hb; subst hb; rfl
@[congr] theorem d5Z {b9 b9' bT bT' b b' : Bool} {l : List Oper} {ds : List Nat} (hb : mkd b9 = b9') (hT : mkd bT = bT') : a5K b9 bT b b' P F l ds K σ = a5K b9' bT' b b' P F l ds K σ := by rw [B7] at hb hT; subst hb hT; rfl
@[congr] theorem d4s {ops : Array Oper} {l l' r r' : List Oper} {ds ds' : List Nat} (hl : mkd l = l') (hr : mkd r = r') (hd : mkd ds = ds') (h : mkd σ = σ') : a8Y P F ops l r ds K σ = a8Y P F ops l' r' ds' K σ' := by rw [B7] at hl hr hd h; subst hl hr hd h; rfl
@[congr] theorem d3v {l : List Oper} {ds ds' : List Nat} (hd : mkd ds = ds') (h : mkd σ = σ') : a7P P F l ds K σ = a7P P F l ds' K σ' := by rw [B7] at hd h; subst hd h; rfl
@[congr] theorem d6y {ds : List Nat} {l : List Oper} (h : mkd (σ) = σ') : F5 P F ds l K σ = F5 P F ds l K σ' := by rw [B7] at h; subst h; rfl
@[congr] theorem d5G {ops : Array Oper} {l : List Oper} {ds ds' : List Nat} (hd : mkd ds = ds') (h : mkd σ = σ') : a9k P F ops l ds K σ = a9k P F ops l ds' K σ' := by rw [B7] at hd h; subst hd h; rfl
@[congr] theorem d6C {ops : Array Oper} {l : List Oper} (h : mkd (σ) = σ') : K2 P F ops l K σ = K2 P F ops l K σ' := by rw [B7] at h; subst h; rfl
@[congr] theorem d5H {ops : Array Oper} {ds : List Nat} {l : List Oper} (h : mkd (σ) = σ') : R9 P F ops ds l K σ = R9 P F ops ds l K σ' := by rw [B7] at h; subst h; rfl
@[congr] theorem d6J {o : Oper} (h : mkd (σ) = σ') : vop P F o K σ = vop P F o K σ' := by rw [B7] at h; subst h; rfl
@[congr] theorem d6k {o : Op} (h : mkd (σ) = σ') : M1 P F o ty d K σ = M1 P F o ty d K σ' := by rw [B7] at h; subst h; rfl
@[congr] theorem d5o {o : Op} (h : mkd (σ) = σ') : D6 P F o d σ C = D6 P F o d σ' C := by rw [B7] at h; subst h; rfl
@[congr] theorem d5f {x : Operand} {b : Bool} (h : mkd (σ) = σ') : a4m P F x ty b d K σ = a4m P F x ty b d K σ' := by rw [B7] at h; subst h; rfl
@[congr] theorem d4L {x : Operand} {b : Bool} (h : mkd (σ) = σ') : X7 b x σ C = X7 b x σ' C := by rw [B7] at h; subst h; rfl
@[congr] theorem d5x {c : Call} (h : mkd (σ) = σ') : a4w P F c d K σ = a4w P F c d K σ' := by rw [B7] at h; subst h; rfl
@[congr] theorem d5I {c : Call} (h : mkd (σ) = σ') : a2W P F c d σ C = a2W P F c d σ' C := by rw [B7] at h; subst h; rfl
@[congr] theorem c7a {t : TypeId} {x i : Operand} (h : mkd (σ) = σ') : a1S P t x i d K σ = a1S P t x i d K σ' := by rw [B7] at h; subst h; rfl
@[congr] theorem c6T {t : TypeId} {x i : Operand} (h : mkd (σ) = σ') : S5 P t x i σ C = S5 P t x i σ' C := by rw [B7] at h; subst h; rfl
@[congr] theorem c7L {t : TypeId} {x : Operand} {i : Nat} (h : mkd (σ) = σ') : a1O P t x i d K σ = a1O P t x i d K σ' := by rw [B7] at h; subst h; rfl
@[congr] theorem c7r {t : TypeId} {x : Operand} {i : Nat} (h : mkd (σ) = σ') : T0 P t x i σ C = T0 P t x i σ' C := by rw [B7] at h; subst h; rfl
@[congr] theorem d2S {t : TypeId} {x : Operand} {lo hi : Option Operand} (h : mkd (σ) = σ') : a6i P t x lo hi d K σ = a6i P t x lo hi d K σ' := by rw [B7] at h; subst h; rfl
@[congr] theorem d3a {t : TypeId} {x : Operand} {lo hi : Option Operand} (h : mkd (σ) = σ') : a2d P t x lo hi σ C = a2d P t x lo hi σ' C := by rw [B7] at h; subst h; rfl
@[congr] theorem c8J {s t : TypeId} {x : Operand} (h : mkd (σ) = σ') : a3a P F s t x d K σ = a3a P F s t x d K σ' := by rw [B7] at h; subst h; rfl
@[congr] theorem d0B {s t : TypeId} {x : Operand} (h : mkd (σ) = σ') : a0u P s t x σ C = a0u P s t x σ' C := by rw [B7] at h; subst h; rfl
@[congr] theorem d5D {op : BinOp} {t : TypeId} {x x' : AV} (hx : mkd (x) = x') (h : mkd (σ) = σ') : b2o P op t x d K σ = b2o P op t x' d K σ' := by rw [B7] at hx; subst hx; rw [B7] at h; subst h; rfl
@[congr] theorem d3P {x : Operand} (h : mkd (σ) = σ') : a5Z x d K σ = a5Z x d K σ' := by rw [B7] at h; subst h; rfl
@[congr] theorem d1z {x : Operand} (h : mkd (σ) = σ') : a4x x d K σ = a4x x d K σ' := by rw [B7] at h; subst h; rfl
@[congr] theorem d6s {t : TypeId} {x i y : Operand} (h : mkd (σ) = σ') : a7r P t x i y K σ = a7r P t x i y K σ' := by rw [B7] at h; subst h; rfl
@[congr] theorem d4W {t : TypeId} {u u' : Value} {k k' : D} {c : Bool} (hu : mkd u = u') (hk : mkd k = k') (h : mkd (σ) = σ') : a6B P t u k c σ C = a6B P t u' k' c σ' C := by rw [B7] at hu hk h; subst hu hk h; rfl
@[congr] theorem d5u {t : TypeId} {ks ks' vs vs' : List D} {k k' : D} {c : Bool} (h1 : mkd ks = ks') (h2 : mkd vs = vs') (hk : mkd k = k') : a7e P t ks vs k c C = a7e P t ks' vs' k' c C := by rw [B7] at h1 h2 hk; subst h1 h2 hk; rfl
@[congr] theorem d6e {t : TypeId} {u u' : Value} (hu : mkd u = u') (h : mkd (σ) = σ') : b5R P t u σ C = b5R P t u' σ' C := by rw [B7] at hu h; subst hu h; rfl
@[congr] theorem d5s (h : mkd (σ) = σ') : b1h σ d K = b1h σ' d K := by rw [B7] at h; subst h; rfl
@[congr] theorem d6B {t : TypeId} {u u' : Value} {k k' z z' : D} (hu : mkd u = u') (hk : mkd k = k') (hz : mkd z = z') (h : mkd (σ) = σ') : b8v P t u k z σ K = b8v P t u' k' z' σ' K := by rw [B7] at hu hk hz h; subst hu hk hz h; rfl
@[congr] theorem d5T {t : TypeId} {u u' : Value} {k k' : D} (hu : mkd u = u') (hk : mkd k = k') (h : mkd (σ) = σ') : b8o P t u k σ K = b8o P t u' k' σ' K := by rw [B7] at hu hk h; subst hu hk h; rfl
@[congr] theorem d6h {t : TypeId} {u u' : Value} (hu : mkd u = u') (h : mkd (σ) = σ') : b8D P t u σ d K = b8D P t u' σ' d K := by rw [B7] at hu h; subst hu h; rfl
@[congr] theorem d6f {t : Nat} {u u' : Value} {E E' : List (D × Nat) × Nat} {s s' : List D} (hu : mkd u = u') (hE : mkd E = E') (hs : mkd s = s') (h : mkd (σ) = σ') : b8j t u E s σ d K = b8j t u' E' s' σ' d K := by rw [B7] at hu hE hs h; subst hu hE hs h; rfl
@[congr] theorem d6g {u u' : Value} {E E' : List (D × Nat) × Nat} {s s' : List D} (hu : mkd u = u') (hE : mkd E = E') (hs : mkd s = s') (h : mkd (σ) = σ') : b8O u E s σ d K = b8O u' E' s' σ' d K := by rw [B7] at hu hE hs h; subst hu hE hs h; rfl
@[congr] theorem d6a {s f : Nat} {x x' : AV} {C : AV → Prop} (h : mkd x = x') : b2z P s f x C = b2z P s f x' C := by rw [B7] at h; subst h; rfl
@[congr] theorem d6n {g : FuncId} {xs xs' : List AV} {o : Option Nat} (h : mkd (xs) = xs') (hs : mkd (σ) = σ') : b4V P g xs σ o K = b4V P g xs' σ' o K := by rw [B7] at h; subst h; rw [B7] at hs; subst hs; rfl
@[congr] theorem d4Z {x : Operand} (h : mkd (σ) = σ') : a9y x d K σ = a9y x d K σ' := by rw [B7] at h; subst h; rfl
@[congr] theorem c8Y {x : Operand} {i : Nat} (h : mkd (σ) = σ') : a3r F x i d K σ = a3r F x i d K σ' := by rw [B7] at h; subst h; rfl
@[congr] theorem d0g {x : Operand} {i : Nat} (h : mkd (σ) = σ') : Y7 x i σ C = Y7 x i σ' C := by rw [B7] at h; subst h; rfl
@[congr] theorem d3g {t : TypeId} {x y : Operand} (h : mkd (σ) = σ') : a4W P F t x y K σ = a4W P F t x y K σ' := by rw [B7] at h; subst h; rfl
@[congr] theorem d5O {t : TypeId} {op : BinOp} {x x' y y' : D} {C : D → Prop} (hx : mkd (x) = x') (hy : mkd (y) = y') : X8 P t op x y C = X8 P t op x' y' C := by rw [B7] at hx; subst hx; rw [B7] at hy; subst hy; rfl
@[congr] theorem d6t {u u' : Option TypeDesc} {op : BinOp} {x x' y y' : D} {C : D → Prop} (hu : mkd (u) = u') (hx : mkd (x) = x') (hy : mkd (y) = y') : G5 u op x y C = G5 u' op x' y' C := by rw [B7] at hu; subst hu; rw [B7] at hx; subst hx; rw [B7] at hy; subst hy; rfl
@[congr] theorem d5p {g : FuncId} {xs xs' : List AV} (h : mkd (xs) = xs') (hs : mkd (σ) = σ') : b4G P g xs σ d K = b4G P g xs' σ' d K := by rw [B7] at h; subst h; rw [B7] at hs; subst hs; rfl
@[congr] theorem d5C {g : FuncId} {xs xs' : List AV} (h : mkd (xs) = xs') : b8n P g xs C = b8n P g xs' C := by rw [B7] at h; subst h; rfl
@[congr] theorem d6N {g : FuncId} {x x' : AV} {xs xs' : List AV} (hx : mkd (x) = x') (h : mkd (xs) = xs') (hs : mkd (σ) = σ') : InK P g x xs σ d K = InK P g x' xs' σ' d K := by rw [B7] at hx; subst hx; rw [B7] at h; subst h; rw [B7] at hs; subst hs; rfl
@[congr] theorem d5r {g : FuncId} {x x' : AV} {xs xs' : List AV} (hx : mkd (x) = x') (h : mkd (xs) = xs') (hs : mkd (σ) = σ') : b1C P g x xs σ d K = b1C P g x' xs' σ' d K := by rw [B7] at hx; subst hx; rw [B7] at h; subst h; rw [B7] at hs; subst hs; rfl
@[congr] theorem d5P {g : FuncId} {xs xs' : List AV} (h : mkd (xs) = xs') (hs : mkd (σ) = σ') : a3j P g xs σ d K = a3j P g xs' σ' d K := by rw [B7] at h; subst h; rw [B7] at hs; subst hs; rfl
@[congr] theorem d5R {e : TypeId} {z : Nat × Nat} {l l' : List D} {u u' : Value} (h : mkd (l) = l') (hu : mkd (u) = u') (hs : mkd (σ) = σ') : b5H e z l u σ d K = b5H e z l' u' σ' d K := by rw [B7] at h; subst h; rw [B7] at hu; subst hu; rw [B7] at hs; subst hs; rfl
@[congr] theorem d4M {e : TypeId} {st st' : Str} {u u' : Value} (h : mkd (st) = st') (hu : mkd (u) = u') (hs : mkd (σ) = σ') : b4J e st u σ d K = b4J e st' u' σ' d K := by rw [B7] at h; subst h; rw [B7] at hu; subst hu; rw [B7] at hs; subst hs; rfl
@[congr] theorem d5U {e : TypeId} {z z' : D} (h : mkd (z) = z') (hs : mkd (σ) = σ') : b8E e z σ d K = b8E e z' σ' d K := by rw [B7] at h; subst h; rw [B7] at hs; subst hs; rfl
@[congr] theorem d6q {e : TypeId} {z z' : D} (h : mkd (z) = z') (hs : mkd (σ) = σ') : b6j P e z σ d K = b6j P e z' σ' d K := by rw [B7] at h; subst h; rw [B7] at hs; subst hs; rfl
@[congr] theorem d6i {t : TypeId} {ds ds' : List D} {m m' : Int} {N : Nat → Prop} (h : mkd (ds) = ds') (hm : mkd (m) = m') : b9H P t ds m N = b9H P t ds' m' N := by rw [B7] at h; subst h; rw [B7] at hm; subst hm; rfl
@[congr] theorem d5v {e : TypeId} {m m' : Nat} {u u' : Value} (h : mkd (m) = m') (hu : mkd (u) = u') (hs : mkd (σ) = σ') : b4I e m u σ C = b4I e m' u' σ' C := by rw [B7] at h; subst h; rw [B7] at hu; subst hu; rw [B7] at hs; subst hs; rfl
@[congr] theorem d5E {s f : Nat} {u u' : Value} (hu : mkd (u) = u') (hs : mkd (σ) = σ') : b1t P s f u σ C = b1t P s f u' σ' C := by rw [B7] at hu; subst hu; rw [B7] at hs; subst hs; rfl
@[congr] theorem d6v {t : Nat} {e : TypeId} {l l' : List D} (h : mkd (l) = l') (hs : mkd (σ) = σ') : c4q t e l σ d K = c4q t e l' σ' d K := by rw [B7] at h; subst h; rw [B7] at hs; subst hs; rfl
@[congr] theorem d6G {t : Nat} (hs : mkd (σ) = σ') : UnK t σ d K = UnK t σ' d K := by rw [B7] at hs; subst hs; rfl
@[congr] theorem d4m {e : TypeId} {i i' : Nat} {u u' : Value} (h : mkd (i) = i') (hu : mkd (u) = u') (hs : mkd (σ) = σ') : b6c e i u σ d K = b6c e i' u' σ' d K := by rw [B7] at h; subst h; rw [B7] at hu; subst hu; rw [B7] at hs; subst hs; rfl
@[congr] theorem d2B {c : Call} (h : mkd (σ) = σ') : a6j P c K σ = a6j P c K σ' := by rw [B7] at h; subst h; rfl
@[congr] theorem d2d {t : TypeId} {x hi mx : Operand} (h : mkd (σ) = σ') : a4A P t x hi mx d K σ = a4A P t x hi mx d K σ' := by rw [B7] at h; subst h; rfl
@[congr] theorem d4H {g : FuncId} {xs xs' : List AV} {b : Bool} (h : mkd (xs) = xs') (hs : mkd (σ) = σ') : a9i P g xs σ d b K = a9i P g xs' σ' d b K := by rw [B7] at h; subst h; rw [B7] at hs; subst hs; rfl
@[congr] theorem d5j {g : FuncId} {xs xs' : List AV} {b : Bool} (h : mkd (xs) = xs') : b4P P g xs b C = b4P P g xs' b C := by rw [B7] at h; subst h; rfl
@[congr] theorem d5e {body : (Exit → St → Prop) → St → Prop} (hs : mkd (σ) = σ') : a5E body Q σ = a5E body Q σ' := by rw [B7] at hs; subst hs; rfl
end
section
variable {α : Type} (y : α) (f : α → Prop)
@[simp ↓] theorem c8C : A8 (some y) f = f y := rfl
@[simp ↓] theorem c8n : A8 (none : Option α) f = False := rfl
end
section
variable {u : Option TypeDesc} {k : IntKind} {p q : Int} {s t : Str} {b c : Bool} {C : D → Prop}
@[simp] theorem d3M (P : Program) (t : TypeId) (op : BinOp) (y : D) : X8 P t op (.int k p) y C = G5 (P.underlying t) op (.int k p) y C := rfl
@[simp] theorem d3O (P : Program) (t : TypeId) (op : BinOp) (y : D) (s : Str) : X8 P t op (.str s) y C = G5 (P.underlying t) op (.str s) y C := rfl
@[simp] theorem d2j (P : Program) (t : TypeId) (op : BinOp) (y : D) (b : Bool) : X8 P t op (.bool b) y C = G5 (P.underlying t) op (.bool b) y C := rfl
@[simp] theorem d1q (P : Program) (t : TypeId) (op : BinOp) (y : D) : X8 P t op .nilp y C = G5 (P.underlying t) op .nilp y C := rfl
@[simp] theorem d2P (P : Program) (t : TypeId) (op : BinOp) (y : D) (v : Value) : X8 P t op (.raw v) y C = G5 (P.underlying t) op (.raw v) y C := rfl
@[simp] theorem d4f (P : Program) (t : TypeId) (op : BinOp) (y : D) (w : Value) (ks vs : List D) (bs : List Nat) (clk : Nat) : X8 P t op (.map w ks vs bs clk) y C = G5 (P.underlying t) op (.map w ks vs bs clk) y C := rfl
@[simp] theorem d2L (P : Program) (t : TypeId) (op : BinOp) (y x : D) : X8 P t op (.ref x) y C = G5 (P.underlying t) op (.ref x) y C := rfl
@[simp] theorem d4A (P : Program) (t : TypeId) (xs ys : List D) : X8 P t .eql (.agg xs) (.agg ys) C = (a1L P t = true ∧ P6 P (P.fieldsOf t).toList 0 xs ys = true ∧ C (.bool (K4 xs ys))) := rfl
@[simp] theorem d2E (P : Program) (t : TypeId) (xs ys : List D) : X8 P t .neq (.agg xs) (.agg ys) C = (a1L P t = true ∧ P6 P (P.fieldsOf t).toList 0 xs ys = true ∧ C (.bool (!K4 xs ys))) := rfl
@[simp ↓] theorem d3V : G5 u .add (.int k p) (.int k q) C = (InR k (p + q) ∧ C (.int k (p + q))) := by simp [G5]
@[simp ↓] theorem d3N : G5 u .sub (.int k p) (.int k q) C = (InR k (p - q) ∧ C (.int k (p - q))) := by simp [G5]
@[simp ↓] theorem d3l : G5 u .mul (.int k p) (.int k q) C = (InR k (p * q) ∧ C (.int k (p * q))) := by simp [G5]
@[simp ↓] theorem d2I : G5 u .eql (.int k p) (.int k q) C = C (.bool (decide (p = q))) := by simp [G5]
@[simp ↓] theorem d2U : G5 u .neq (.int k p) (.int k q) C = C (.bool (!decide (p = q))) := by simp [G5]
@[simp ↓] theorem d4p : G5 u .lss (.int k p) (.int k q) C = C (.bool (decide (p < q))) := by simp [G5]
@[simp ↓] theorem d4u : G5 u .leq (.int k p) (.int k q) C = C (.bool (decide (p ≤ q))) := by simp [G5]
@[simp ↓] theorem d4d : G5 u .gtr (.int k p) (.int k q) C = C (.bool (decide (q < p))) := by simp [G5]
@[simp ↓] theorem d4q : G5 u .geq (.int k p) (.int k q) C = C (.bool (decide (q ≤ p))) := by simp [G5]
@[simp ↓] theorem d4j : G5 u .quo (.int k p) (.int k q) C = (0 ≤ p ∧ 0 < q ∧ InR k (p / q) ∧ C (.int k (p / q))) := by simp [G5]
@[simp ↓] theorem d3m : G5 u .rem (.int k p) (.int k q) C = (0 < q ∧ C (.int k (Int.tmod p q))) := by simp [G5]
@[simp] theorem d4y (n : Nat) (q : Int) : Int.tmod (n : Int) q = (n : Int) % q := Int.tmod_eq_emod_of_nonneg (Int.natCast_nonneg n)
@[simp ↓] theorem d3F (k' : IntKind) : G5 u .shr (.int k p) (.int k' q) C = (0 ≤ q ∧ q.toNat ≤ k.bits ∧ 0 ≤ p ∧ C (.int k (p / 2 ^ q.toNat))) := by simp [G5]
@[simp ↓] theorem d3T (k' : IntKind) : G5 u .shl (.int k p) (.int k' q) C = (0 ≤ q ∧ q.toNat ≤ k.bits ∧ InR k (p * 2 ^ q.toNat) ∧ C (.int k (p * 2 ^ q.toNat))) := by simp [G5]
@[simp ↓] theorem d3j : G5 u .and (.int k p) (.int k q) C = (0 ≤ p ∧ 0 ≤ q ∧ InR k p ∧ InR k q ∧ C (.int k ((p.toNat &&& q.toNat : Nat) : Int))) := by simp [G5]
@[simp ↓] theorem d5B : G5 u .or (.int k p) (.int k q) C = (0 ≤ p ∧ 0 ≤ q ∧ InR k p ∧ InR k q ∧ C (.int k ((p.toNat ||| q.toNat : Nat) : Int))) := by simp [G5]
@[simp ↓] theorem c8A : G5 u .eql .nilp .nilp C = (a1b u = true ∧ C (.bool true)) := rfl
@[simp ↓] theorem c8y : G5 u .neq .nilp .nilp C = (a1b u = true ∧ C (.bool false)) := rfl
@[simp ↓] theorem c8z (A : Addr) : G5 u .eql (.raw (.pointer (some A))) .nilp C = (a1b u = true ∧ C (.bool false)) := rfl
@[simp ↓] theorem c8u (A : Addr) : G5 u .neq (.raw (.pointer (some A))) .nilp C = (a1b u = true ∧ C (.bool true)) := rfl
@[simp ↓] theorem c8l (x : D) : G5 u .eql (.ref x) .nilp C = (a1b u = true ∧ C (.bool false)) := rfl
@[simp ↓] theorem c8w (x : D) : G5 u .neq (.ref x) .nilp C = (a1b u = true ∧ C (.bool true)) := rfl
@[simp ↓] theorem c8E (x : Option Nat) : G5 u .eql (.raw (.map x)) (.raw (.map none)) C = (a2N u = true ∧ C (.bool x.isNone)) := rfl
@[simp ↓] theorem c8I (x : Option Nat) : G5 u .neq (.raw (.map x)) (.raw (.map none)) C = (a2N u = true ∧ C (.bool (!x.isNone))) := rfl
@[simp ↓] theorem c7P (w : Value) (ks vs : List D) (bs : List Nat) (clk : Nat) : G5 u .eql (.map w ks vs bs clk) (.raw (.map none)) C = (a2N u = true ∧ C (.bool false)) := rfl
@[simp ↓] theorem c7m (w : Value) (ks vs : List D) (bs : List Nat) (clk : Nat) : G5 u .neq (.map w ks vs bs clk) (.raw (.map none)) C = (a2N u = true ∧ C (.bool true)) := rfl
@[simp] theorem c8L (k e : TypeId) : a2N (some (.map k e)) = true := rfl
@[simp] theorem d0t (e : TypeId) : a1b (some (.pointer e)) = true := rfl
attribute [simp] IntKind.bits b5Y
@[simp ↓] theorem d1S : G5 u .add (.str s) (.str t) C = (s.length + t.length ≤ 9223372036854775807 ∧ C (.str (s ++ t))) := rfl
@[simp ↓] theorem d1O : G5 u .eql (.str s) (.str t) C = C (.bool (decide (s = t))) := rfl
@[simp ↓] theorem d1V : G5 u .neq (.str s) (.str t) C = C (.bool (!decide (s = t))) := rfl
@[simp ↓] theorem d1d : G5 u .lss (.str s) (.str t) C = C (.bool (Op.bytesLess s t)) := rfl
@[simp ↓] theorem d1N : G5 u .leq (.str s) (.str t) C = C (.bool (Op.bytesLess s t || decide (s = t))) := rfl
@[simp ↓] theorem d2e : G5 u .gtr (.str s) (.str t) C = C (.bool (!(Op.bytesLess s t || decide (s = t)))) := rfl
@[simp ↓] theorem d1g : G5 u .geq (.str s) (.str t) C = C (.bool (!Op.bytesLess s t)) := rfl
@[simp] theorem d1M : G5 u .eql (.bool b) (.bool c) C = (u = some .bool ∧ C (.bool (b == c))) := rfl
@[simp] theorem d1x : G5 u .neq (.bool b) (.bool c) C = (u = some .bool ∧ C (.bool (!(b == c)))) := rfl
end
section
variable (e : TypeId) (l : List D) (j i : Nat) (p : List Nat) (xs : List AV) (s : Str) (d : D)
@[simp] theorem d1L : asD .undef = none := rfl
@[simp] theorem d5q : asD (.box d) = none := rfl
@[simp] theorem d5k : asD (.adr j p) = none := rfl
@[simp] theorem d2z : asD (.eadr j i p) = none := rfl
@[simp] theorem d5d : asD (.tup xs) = none := rfl
@[simp] theorem d3L : asD (.iter s i) = none := rfl
@[simp] theorem d5A : asD (.sub j i) = none := rfl
@[simp] theorem d5t (u : Value) (E : List (D × Nat) × Nat) (ks : List D) : asD (.mit u E ks) = none := rfl
@[simp] theorem d4E (z x : D) : a0z true z (some x) = .tup [.d x, .d (.bool true)] := rfl
@[simp] theorem d2G (z : D) : a0z true z none = .tup [.d z, .d (.bool false)] := rfl
@[simp] theorem d3u (z x : D) : a0z false z (some x) = .d x := rfl
@[simp] theorem d3d (z : D) : a0z false z none = .d z := rfl
end
section
variable {P : Program} {t kt vt : TypeId} {u : Value} {k z : D} {c : Bool} {σ : St} {d : Nat} {K : St → Prop} {C : AV → Prop} {m : List (D × D)} {E : Option (List (D × Nat) × Nat)}
theorem a1m (j : Nat) (hj : 1000000 ≤ j) (ht : P.underlying t = some (.map kt vt)) (hm : σ j = .hm u kt m E) (hk : E0 P kt k = true) (hz : D3 P vt = some z) {r : Option D} (hr : M5 m k = r) (h : C (a0z c z r)) : a6B P t u k c σ C :=
 .inl ⟨j, kt, vt, z, m, E, hj, ht, hm, hk, hz, by rw [hr]; exact h⟩
theorem c2G (j : Nat) (hj : 1000000 ≤ j) (ht : P.underlying t = some (.map kt vt)) (hm : σ j = .hm u kt m E) (h : C (.d (.int .i64 (m.length : Nat)))) : b5R P t u σ C := ⟨j, kt, vt, kt, m, E, hj, ht, hm, h⟩
theorem b0U (kt : TypeId) (j : Nat) (hj : σ j = .undef) (h : ∀ g, K (put (put σ j (.hm (.map (some g)) kt [] none)) d (.d (.raw (.map (some g)))))) : b1h σ d K := ⟨kt, j, hj, h⟩
theorem a6M (j : Nat) (ht : P.underlying t = some (.map kt vt)) (hm : σ j = .hm u kt m E) (hk : E0 P kt k = true) (m2 : List (D × D)) (hp : Perm m2 (S1 m k z)) (h : K (put σ j (.hm u kt m2 none))) : b8v P t u k z σ K :=
 ⟨j, kt, vt, m, m2, E, ht, hm, hk, hp, h⟩
theorem a0j {ks vs : List D} (ht : P.underlying t = some (.map kt vt)) (hk : E0 P kt k = true) (hf : ∀ k ∈ ks, E0 P kt k = true) (hz : D3 P vt = some z) {r : Option D} (hr : M5 (ks.zip vs) k = r) (h : C (a0z c z r)) : a7e P t ks vs k c C :=
 ⟨kt, vt, z, ht, hk, hf, hz, by rw [hr]; exact h⟩
theorem c7R {i : Nat} {ks vs : List D} {bs : List Nat} {clk : Nat} {seen : List D} (j : Nat) (hm : σ j = .d (.map u ks vs bs clk)) (hf : ∀ k ∈ ks, H1 k k = true) (h1 : ∀ k v, (k, v) ∈ ks.zip vs → k ∉ seen → K (put (put σ i (.mit u (ks.zip bs, clk) (seen ++ [k]))) d (.tup [.d (.bool true), .d k, .d v])))
   (h0 : (∀ p ∈ ks.zip vs, p.1 ∈ seen) → K (put σ d (.tup [.d (.bool false)]))) : b8j i u (ks.zip bs, clk) seen σ d K := .inr ⟨j, ks, vs, bs, clk, hm, rfl, hf, h1, h0⟩
theorem c7Y {ks vs : List D} {bs : List Nat} {clk : Nat} {s2 : List D} {v : D} (j : Nat) (hm : σ j = .d (.map u ks vs bs clk)) (hf : ∀ k ∈ ks, H1 k k = true) (hv : (k, v) ∈ ks.zip vs) (h : K (put σ d (.tup [.d k, .d v]))) : b8O u (ks.zip bs, clk) (s2 ++ [k]) σ d K := .inr ⟨j, ks, vs, bs, clk, s2, k, v, hm, rfl, hf, rfl, hv, h⟩
end
theorem d4v {j : Nat} {σ σ' : St} {K : St → Prop} (k : Nat) {lo : Nat} (h : σ k = .sub j lo) (hj : k ≠ j) (hk : K (put σ' k (.sub j lo))) : c7Z j σ σ' K := ⟨k, lo, h, hj, hk⟩
theorem A3 {P : Program} {g : FuncId} {args : List AV} {σ : St} {d : Nat} {b : Bool} {K : St → Prop} {r : AV} (h : Ctr P g args r) (hk : K (put σ d (N9 b r))) : a9i P g args σ d b K := ⟨r, h, hk⟩
theorem b1K {body : (Exit → St → Prop) → St → Prop} {Q : Exit → St → Prop} {σ : St} (I : Nat → St → Prop) (k : Nat) (h0 : I k σ) (hr : ∀ m τ, I m τ → body (a3G (fun τ' => ∃ m', m' < m ∧ I m' τ') Q) τ) : a5E body Q σ := ⟨I, k, h0, hr⟩
end Go.Vw
namespace Go.Vw
open Go.RowKit Go.Proofs Go.Sort
variable {P : Program} {w w' : World} {L L' : Nat → Nat → Prop}
theorem b6T {F cur : Array Value} (h : F.size ≤ cur.size) : (putCells id 0 F cur).toList = F.toList ++ cur.toList.drop F.size := by
 apply ext_getElem
 · simp [putCells]; omega
 · intro i h1 h2; simp only [putCells, Array.length_toList, Array.size_mapIdx] at h1; simp only [putCells, Array.getElem_toList, Array.getElem_mapIdx, Nat.zero_le, true_and, Nat.zero_add, Nat.sub_zero, id]; by_cases hi : i < F.size
   · rw [if_pos hi, getElem_append_left (by simpa using hi)]; simp [hi]
   · rw [if_neg hi, getElem_append_right (by simp; omega)]; simp only [Array.length_toList, getElem_drop, Array.getElem_toList]; congr 1; omega
theorem a7n {α : Type} [Inhabited α] (enc : α → Value) (w : World) (g : Nat) (d : Array α) : putRow enc w g 0 d = putRow id w g 0 (d.map enc) := by
 unfold putRow; refine mapBlock_congr w g _ _ (fun c e fr _ => ?_); unfold putCells; apply Array.ext
 · simp
 · intro i h1 h2; simp only [Array.getElem_mapIdx, Nat.zero_le, true_and, Nat.zero_add, Nat.sub_zero, id, Array.size_map]; by_cases hi : i < d.size
   · simp [hi]
   · simp [hi]
def I5 (w : World) (g m : Nat) (F : Array Value) (os : Array Obj) : World := grow (putRow id (Sort.ahead w m) g 0 F) os
theorem a2X (w : World) (g m : Nat) (F : Array Value) (os : Array Obj) : (I5 w g m F os).heap.size = w.heap.size + os.size := by
 simp [I5, grow, putRow, mapBlock, Sort.ahead]
theorem a2m (w : World) (g m : Nat) (F : Array Value) (os : Array Obj) {b : Nat} (hb : b < w.heap.size) (hne : b ≠ g) : (I5 w g m F os).heap[b]? = w.heap[b]? := by
 simp only [I5, grow, putRow, mapBlock, Sort.ahead]; rw [Array.getElem?_append_left (by simpa using hb), Array.getElem?_modify, if_neg (Ne.symm hne)]
theorem b9d (w : World) (g m : Nat) (F : Array Value) (os : Array Obj) {c : Array Value} {e : TypeId} {fz : Nat × Nat} (h : w.heap[g]? = some (.cells c e fz)) : (I5 w g m F os).heap[g]? = some (.cells (putCells id 0 F c) e fz) := by
 have hb : g < w.heap.size := (Array.getElem?_eq_some_iff.1 h).1; simp only [I5, grow, putRow, mapBlock, Sort.ahead]; rw [Array.getElem?_append_left (by simpa using hb), Array.getElem?_modify, if_pos rfl, h]; rfl
theorem E5.sorted {og : Option Nat} {e : TypeId} {l l' : List D} {g c : Nat} (h : E5 P w L og true e l (.slice (some ⟨g, 0, none⟩) l.length c)) (hlok : ∀ b q, L b q → b < w.heap.size) {css' : List (List Value)} (hr : A5 w L l' css') (hlen : l'.length = l.length)
   (hsz : ∀ sz, (P.info? (ety e)).map (·.size) = some sz → ∀ c ∈ css', c.length = sz) (m : Nat) (os : Array Obj) {F : Array Value} (hF : F.toList = css'.flatten) :
   E5 P (I5 w g m F os) L og true e l' (.slice (some ⟨g, 0, none⟩) l.length c) ∧ F1 w (I5 w g m F os) (F2 (some g)) ∧ (∀ b q, L b q → b < (I5 w g m F os).heap.size) := by
 have C0 := h.blk (g := g) rfl; obtain ⟨css, sz, h1, h2, h3, h4, h5⟩ := h; rcases h4.2 with ⟨hv, hn⟩ | ⟨g', cap, cur, hv, hh, hnc, hcm, hcs, htk⟩
 · cases hv
 · simp only [Value.slice.injEq, Option.some.injEq, Addr.mk.injEq, and_true, true_and] at hv; obtain ⟨rfl, rfl⟩ := hv; have hsz' := hsz sz h1; have hFl : F.size = l.length * sz := by
     rw [← Array.length_toList, hF, P1 hsz', hr.count, hlen]
   have hFc : F.size ≤ cur.size := by rw [hFl]; exact Nat.le_trans (Nat.mul_le_mul_right _ hnc) hcs
   have hpl := b6T hFc; have hps : (putCells id 0 F cur).size = cur.size := (by simp [putCells]); have hgrown : F1 w (I5 w g m F os) (F2 (some g)) := ⟨rfl, rfl, rfl, by rw [a2X]; omega, fun k hk hne => a2m w g m F os hk (fun e => hne (by rw [e]; rfl)), by show w.drawn ≤ (I5 w g m F os).drawn; exact Nat.le_add_right _ _⟩; have hext : Ext w L (I5 w g m F os) L := fun b q hq => ⟨hq, fun v hv => by
     have hne : b ≠ g := fun e => by subst e; exact C0.2 q hq
     rw [H2 (a2m w g m F os (hlok b q hq) hne)]; exact hv⟩
   refine ⟨⟨css', sz, h1, A5.mono hext _ _ hr, hsz', ⟨?_, .inr ⟨g, c, putCells id 0 F cur, by rw [hlen], by rw [hps]; exact b9d w g m F os hh, by rw [hlen]; exact hnc, hcm, by rw [hps]; exact hcs, ?_⟩⟩, fun g' hg' => ?_⟩, hgrown, fun b q hq => by rw [a2X]; have := hlok b q hq; omega⟩
   · rw [← hF, Array.length_toList, hFl, hlen]
   · rw [hlen, hpl, ← hF, ← hFl, ← Array.length_toList, take_left]
   · obtain rfl : g = g' := by simpa [Value.ownBlock] using hg'
     exact ⟨C0.1, fun q => by simpa using C0.2 q⟩
theorem E5.holds {og : Option Nat} {e : TypeId} {l : List D} {g c : Nat} (h : E5 P w L og true e l (.slice (some ⟨g, 0, none⟩) l.length c)) : ∃ css, A5 w L l css ∧ (∀ sz, (P.info? (ety e)).map (·.size) = some sz → ∀ c ∈ css, c.length = sz) ∧ Holds id w g 0 css.flatten.toArray ∧ g < w.heap.size ∧ l.length ≤ c := by
 obtain ⟨css, sz, h1, h2, h3, h4, h5⟩ := h; rcases h4.2 with ⟨hv, hn⟩ | ⟨g', cap, cur, hv, hh, hnc, hcm, hcs, htk⟩
 · cases hv
 · simp only [Value.slice.injEq, Option.some.injEq, Addr.mk.injEq, and_true, true_and] at hv; obtain ⟨rfl, rfl⟩ := hv; refine ⟨css, h2, fun s hs => by rw [h1] at hs; simp only [Option.some.injEq] at hs; subst hs; exact h3, fun j hj => ?_, (Array.getElem?_eq_some_iff.1 hh).1, hnc⟩; simp only [size_toArray] at hj; have hle : l.length * sz ≤ cur.size := Nat.le_trans (Nat.mul_le_mul_right _ hnc) hcs; have hjl : j < l.length * sz := by rw [← h4.1]; exact hj
   have hjc : j < cur.size := (by omega); have hv : css.flatten[j]? = some cur[j] := by
     rw [← htk, getElem?_take, if_pos hjl]; simp [hjc]
   constructor
   · simp only [World.cell?, hh, Nat.zero_add, id]; rw [show css.flatten.toArray[j]! = cur[j] by
       rw [getElem!_pos _ j (by simpa using hj)]; simpa using (List.getElem?_eq_some_iff.1 hv).2]
     simp [hjc]
   · simp only [World.frozen?, hh, Nat.zero_add]; unfold mk; split
     · simp
     · simp; omega
section
variable {g : FuncId} {args rest : List AV} {σ : St} {d : Nat} {K : St → Prop} {C : AV → Prop}
theorem c4Q {y : D} (h : Ctr P g args (.d y)) (hy : a7k y = true) (hk : K (put σ d (.d y))) : b4G P g args σ d K := ⟨y, hy, h, hk⟩
theorem b6e {j : Nat} {e : TypeId} {l l' : List D} (h : a4V P g e l rest l') (hk : K (put (put σ j (.own true e l')) d (.tup []))) : InK P g (.bor j true e l) rest σ d K := ⟨l', h, hk⟩
theorem d3C {u : Value} (j : Nat) {e : TypeId} {l l' : List D} (hj : σ j = .hs u e l) (h : a4V P g e l rest l') (hk : K (put (put σ j (.hs u e l')) d (.tup []))) : InK P g (.d (.raw u)) rest σ d K := ⟨j, e, l, l', hj, h, hk⟩
theorem c9K {u : Value} (j : Nat) {e e' : TypeId} {l l' : List D} (hj : σ j = .hs u e l) (h : Ctr P g (.own true e l :: rest) (.own true e' l')) (hk : ∀ A c, K (put (put σ j (.hs (.slice A l'.length c) e' l')) d (.d (.raw (.slice A l'.length c))))) : b1C P g (.d (.raw u)) rest σ d K := ⟨j, e, l, e', l', hj, h, hk⟩
theorem c6S {e : TypeId} {z : Nat × Nat} {ds l : List D} {u : Value} (j : Nat) (hj : σ j = .hs u e l) (h1 : ∀ u ∈ ds, B6 u = z.1) (h2 : (l.length + ds.length) * z.2 ≤ 140737488355328) (h3 : l.length + ds.length ≤ 140737488355328)
   (hk : ∀ A c, K (put (put σ j (.hs (.slice A (l ++ ds).length c) e (l ++ ds))) d (.d (.raw (.slice A (l ++ ds).length c))))) : b5H e z ds u σ d K := ⟨j, l, .inl hj, h1, h2, h3, hk⟩
theorem c9M {e : TypeId} {z : Nat × Nat} {ds : List D} (j : Nat) (hj : σ j = .undef) (h1 : ∀ u ∈ ds, B6 u = z.1) (h2 : ds.length * z.2 ≤ 140737488355328) (h3 : ds.length ≤ 140737488355328)
   (hk : ∀ A c, K (put (put σ j (.hs (.slice A ds.length c) e ds)) d (.d (.raw (.slice A ds.length c))))) : b5H e z ds (.slice none 0 0) σ d K := ⟨j, [], .inr ⟨rfl, rfl, hj⟩, h1, by simpa using h2, by simpa using h3, by simpa using hk⟩
end
end Go.Vw
namespace Go.Vw
open Go.RowKit Go.Proofs
variable {P : Program} {w : World} {L : Nat → Nat → Prop}
theorem RCs.dataOnly {og og' : Option Nat} : ∀ {xs : List AV} {vs : List Value}, (∀ x ∈ xs, ∃ d, x = .d d) → RCs P w L og xs vs → RCs P w L og' xs vs
 | [], _, _, h => h
 | x :: xs, vs, hx, h => by
   simp only [RCs] at h ⊢; obtain ⟨v, us, h1, h2, h3⟩ := h; obtain ⟨d, rfl⟩ := hx x (by simp); exact ⟨v, us, h1, h2, RCs.dataOnly (fun y hy => hx y (by simp [hy])) h3⟩
theorem H5.frozen {f : FuncId} {args : List AV} {Post : AV → List AV → Prop} (h : H5 P f args [] Post) (hargs : ∀ x ∈ args, ∃ d, x = .d d) {e : TypeId} {l' : List D}
   (hp : ∀ r hs, Post r hs → ∃ l, r = .own true e l ∧ FzL hs l l') : Ctr P f args (.own true e l') := by
 refine ⟨h.1, fun w L og vals hlok hgl hog hv => (h.2 w L vals hlok hgl (RCs.dataOnly hargs hv) (by simp) trivial).mono ?_⟩; rintro x w' ⟨v, L', og', r, hs, rfl, hgr, hlok', hold', hog', hap, hrc, hrh, hpost⟩; obtain ⟨l, rfl, hl⟩ := hp r hs hpost; obtain ⟨css, sz, h1, h2, h3, h4, h5⟩ : E5 P w' L' og' true e l v := hrc; have hblkm : ∀ {u : Value} {e : TypeId} {l : List D} {g : Nat}, AV.hs u e l ∈ hs → u.ownBlock = some g → some g ∈ hs.map C0 := fun hm hb => mem_map.2 ⟨_, hm, hb⟩
 refine ⟨v, a5B P L' hs, og', rfl, hgr.sub (fun b hb => by simp at hb), fun b q hq => ?_, fun b q hb _ => ?_, fun g hg => ?_, css, sz, h1, A5.fz hrh hap.2 hl h2, h3, ⟨by rw [← hl.len]; exact h4.1, by rw [← hl.len]; exact h4.2⟩, fun g hg => ⟨(h5 g hg).1, fun o => ⟨fun hL => ?_, fun h => by simp at h⟩⟩⟩
 · rcases hq with hq | ⟨u, e, l, sz, hm, hb, _⟩
   · exact hlok' b q hq
   · exact (hog' b (mem_cons.2 (.inr (hblkm hm hb)))).1
 · refine ⟨fun hL => ?_, fun hL => .inl ((hold' b q hb (by simp)).2 hL)⟩; rcases hL with hL | ⟨u, e, l, sz, hm, hbb, _⟩
   · exact (hold' b q hb (by simp)).1 hL
   · have := (hog' b (mem_cons.2 (.inr (hblkm hm hbb)))).2; simp at this; omega
 · have := hog' g (by simp [hg]); exact ⟨this.1, .inl (by simpa using this.2)⟩
 · rcases hL with hL | ⟨u, e, l, sz, hm, hbb, _⟩
   · have := ((h5 g hg).2 o).1 hL; simp at this
   · exact absurd (hblkm hm hbb) (hap.1 g (h5 g hg).1)
theorem b8h : ∀ (xs : List AV) (σ : St) (b i : Nat), i < b → (∀ d, b ≤ d → E9 d (σ i) = σ i) → D2 σ [] b xs i = σ i
 | [], _, _, _, _, _ => rfl
 | x :: xs, σ, b, i, hi, hk => by
   rw [D2, b8h xs _ _ _ (by omega)]
   · simp only [put, if_neg (show ¬ i = b by omega)]; exact hk b (Nat.le_refl _)
   · intro d hd; simp only [put, if_neg (show ¬ i = b by omega), hk b (Nat.le_refl _)]; exact hk d (by omega)
theorem a2H {x : AV} (h : isH x = true) (d : Nat) : E9 d x = x := by cases x <;> simp [isH] at h <;> rfl
theorem a9l : ∀ (xs : List AV) (σ : St) (b : Nat), (∀ x ∈ xs, isH x = true) → ∀ i (h : i < xs.length), D2 σ [] b xs (b + i) = xs[i]
 | [], _, _, _, _, h => by simp at h
 | x :: xs, σ, b, hx, 0, h => by
   have hkx := a2H (hx x (by simp)); have e : (put σ b x) b = x := by simp only [put, if_true]; exact hkx b
   rw [Nat.add_zero, D2, b8h _ _ _ _ (by omega) (by intro d _; rw [e]; exact hkx d), e, getElem_cons_zero]
 | x :: xs, σ, b, hx, i + 1, h => by
   have := a9l xs (put σ b x) (b + 1) (fun y hy => hx y (by simp [hy])) i (by simpa using h); rw [D2, show b + (i + 1) = b + 1 + i by omega, this, getElem_cons_succ]
theorem H5.shaped {f : FuncId} {args hs : List AV} {Post : AV → List AV → Prop} (h : H5 P f args hs Post) :
   H5 P f args hs (fun r hs' => Post r hs' ∧ ∀ u e l, AV.hs u e l ∈ hs' → ∃ A c, u = .slice A l.length c) := by
 refine ⟨h.1, fun w L vals hlok hgl hv hh ha => (h.2 w L vals hlok hgl hv hh ha).mono ?_⟩; rintro x w' ⟨v, L', og', r, hs', h1, h2, h3, h4, h5, h6, h7, h8, h9⟩; refine ⟨v, L', og', r, hs', h1, h2, h3, h4, h5, h6, h7, h8, h9, fun u e l hm => ?_⟩; have : E5 P w' L' u.ownBlock true e l u := (h8 _ hm).2; exact this.shape
end Go.Vw
set_option maxHeartbeats 4000000
namespace Go.Vw
open Go
def rW {α : Type} : Result α → World
 | .ok _ w => w
 | .halt _ w => w
theorem W2 {α : Type} {p : Program} : ∀ (s : Sem α) (w : World), w.drawn ≤ (rW (s.run p w)).drawn
 | .pure _, w => Nat.le_refl _
 | .load m ad k, w => by
   simp only [Sem.run]; split
   · exact W2 _ w
   · split
     · exact W2 _ w
     · exact Nat.le_refl _
 | .store m ad v k, w => by
   cases v <;> simp only [Sem.run]
   all_goals first
     | exact Nat.le_refl _
     | (split
        · split
          · exact Nat.le_refl _
          · exact W2 k (w.setCell ad _)
        · split
          · rename_i w2 l hf
            rw [← a6n hf]; exact W2 k _
          · exact Nat.le_refl _)
 | .new o k, w => by simp only [Sem.run]; exact W2 _ { w with heap := w.heap.push o }
 | .shape r k, w => by simp only [Sem.run]; exact W2 _ w
 | .freeze ad n k, w => by
   simp only [Sem.run]; rw [← a4Q w ad n]; exact W2 _ _
 | .frozen ad k, w => by simp only [Sem.run]; exact W2 _ w
 | .getObj r k, w => by
   simp only [Sem.run]; split
   · exact Nat.le_refl _
   · exact W2 _ w
   · exact Nat.le_refl _
 | .setObj r o k, w => by
   simp only [Sem.run]; split
   · exact Nat.le_refl _
   · exact W2 k { w with heap := w.heap.setIfInBounds r o }
   · exact Nat.le_refl _
 | .choose q k, w => by
   simp only [Sem.run]; split
   · exact W2 _ w
   · exact Nat.le_trans (Nat.le_succ _) (W2 _ { w with drawn := w.drawn + 1 })
 | .sys c k, w => by
   simp only [Sem.run]; exact Nat.le_trans (b4d w c) (W2 _ _)
 | .program k, w => by simp only [Sem.run]; exact W2 _ w
 | .mark _ k, w => by simp only [Sem.run]; exact W2 _ w
 | .halt _, w => Nat.le_refl _
theorem D1 {α : Type} {p : Program} {s : Sem α} {w w' : World} {a : α} {d : Nat} (h : s.run p w = .ok a w') (hd : d ≤ w.drawn) : d ≤ w'.drawn := by
 have := W2 (p := p) s w; rw [h] at this; exact Nat.le_trans hd this
theorem a0G {α : Type} {p : Program} {s : Sem α} {w w' : World} {a : Halt} {d : Nat} (h : s.run p w = .halt a w') (hd : d ≤ w.drawn) : d ≤ w'.drawn := by
 have := W2 (p := p) s w; rw [h] at this; exact Nat.le_trans hd this
def Up (d : Nat) : GStep → Prop
 | .go _ w _ => d ≤ w.drawn
 | .comm _ _ _ _ w _ => d ≤ w.drawn
 | .spawn _ _ w _ => d ≤ w.drawn
 | .count _ w _ => d ≤ w.drawn
 | .timer _ _ w _ => d ≤ w.drawn
 | .alone _ _ w _ => d ≤ w.drawn
 | .newcoro _ _ _ w _ => d ≤ w.drawn
 | .coroswitch _ _ _ w _ => d ≤ w.drawn
 | .collect _ w _ => d ≤ w.drawn
 | .watch _ w _ => d ≤ w.drawn
 | .ended _ _ _ => True
@[simp] theorem M2 {d : Nat} (es : Array Event) (s : GStep) : Up d (GStep.after es s) = Up d s := by cases s <;> rfl
theorem U9 {d : Nat} {α : Type} {o : Option α} {a : GStep} {f : α → GStep} (h1 : Up d a) (h2 : ∀ x, Up d (f x)) : Up d (o.elim a f) := by cases o; exact h1; exact h2 _
theorem b8V {d : Nat} (w : World) (fd : Nat) (t : ByteArray) (o : Outcome) : Up d (endWith w fd t o) := by
 unfold endWith; simp only []; repeat' first
   | exact trivial
   | rw [M2]
   | refine U9 ?_ fun _ => ?_
   | split
theorem c3v {d : Nat} {w : World} (h : d ≤ w.drawn) (fr : Frame) (a : List ByteArray) (m : String) (b : Bool) : Up d (dieOf fr a m b w) := h
theorem a2g {d : Nat} {w : World} (h : d ≤ w.drawn) (fr : Frame) (m : String) : Up d (endThrow fr m w) := h
theorem a6f {d : Nat} {w : World} (h : d ≤ w.drawn) (p : Program) (fr : Frame) (v : Value) : Up d (endPrinting p fr v w) := by
 unfold endPrinting; simp only []; split
 · exact a2g h _ _
 · exact trivial
theorem a9M {d : Nat} {w : World} (h : d ≤ w.drawn) (p : Program) (fr : Frame) (cs : List Frame) (dy : Option Dying) (m : String) : Up d (endFatal p fr cs dy m w) := by
 unfold endFatal; simp only []; split
 · rename_i hr
   exact c3v (D1 hr h) _ _ _ _
 · exact trivial
 · exact trivial
theorem b9s {d : Nat} {w : World} (h : d ≤ w.drawn) (p : Program) (fr : Frame) (dy : Dying) (f : Fatal) : Up d (writeOn p fr dy f w) := by
 unfold writeOn; simp only [Sem.runT_eq]; repeat' first
   | exact trivial
   | (rename_i hr; exact D1 (Prod.mk.inj hr).1 h)
   | (rename_i hr; exact a0G (Prod.mk.inj hr).1 h)
   | rw [M2]
   | refine U9 ?_ fun _ => ?_
   | split
theorem c8b {d : Nat} {w : World} (h : d ≤ w.drawn) (p : Program) (fr : Frame) (dy : Dying) : Up d (die p fr dy w) := by
 unfold die; simp only [Sem.runT_eq, M2]; repeat' first
   | exact trivial
   | exact h
   | exact b9s h _ _ _ _
   | exact b8V _ _ _ _
   | exact D1 (by assumption) h
   | (have hq := D1 (by assumption) h; exact hq)
   | (have hq := D1 (by assumption) h; have hq2 := D1 (by assumption) hq; exact hq2)
   | (have hq := D1 (by assumption) h; have hq2 := D1 (by assumption) hq; have hq3 := D1 (by assumption) hq2; exact hq3)
   | exact a6f (a0G (by assumption) h) _ _ _
   | rw [M2]
   | refine U9 ?_ fun _ => ?_
   | split
theorem a5J {d : Nat} {w : World} (h : d ≤ w.drawn) (p : Program) (b : Bool) (fr : Frame) (cs : List Frame) (dy : Option Dying) (v : Value) : Up d (doReturn p b fr cs dy v w) := by
 unfold doReturn; simp only []; repeat' first
   | exact trivial
   | exact h
   | rw [M2]
   | refine U9 ?_ fun _ => ?_
   | split
theorem b1O {d : Nat} {w : World} (h : d ≤ w.drawn) (p : Program) (fr : Frame) (cs : List Frame) (dy : Option Dying) (x : Deferred) : Up d (callDeferred p fr cs dy x w) := by
 unfold callDeferred; simp only [Sem.runT_eq, M2]; repeat' first
   | exact trivial
   | exact D1 (by assumption) h
   | (have hq := D1 (by assumption) h; exact hq)
   | (have hq := D1 (by assumption) h; have hq2 := D1 (by assumption) hq; exact hq2)
   | (have hq := D1 (by assumption) h; have hq2 := D1 (by assumption) hq; have hq3 := D1 (by assumption) hq2; exact hq3)
   | exact a0G (by assumption) h
   | exact a9M (a0G (by assumption) h) _ _ _ _ _
   | exact a2g (a0G (by assumption) h) _ _
   | rw [M2]
   | refine U9 ?_ fun _ => ?_
   | split
theorem c1W {d : Nat} {w : World} (h : d ≤ w.drawn) (p : Program) (b : Bool) (fr : Frame) (cs : List Frame) (dy : Option Dying) : Up d (unwind p b fr cs dy w) := by
 unfold unwind; simp only [Sem.runT_eq, M2]; repeat' first
   | exact trivial
   | exact h
   | exact b1O h _ _ _ _ _
   | exact a5J h _ _ _ _ _ _
   | exact a6f h _ _ _
   | exact D1 (by assumption) h
   | (have hq := D1 (by assumption) h; exact hq)
   | (have hq := D1 (by assumption) h; have hq2 := D1 (by assumption) hq; exact hq2)
   | (have hq := D1 (by assumption) h; have hq2 := D1 (by assumption) hq; have hq3 := D1 (by assumption) hq2; exact hq3)
   | exact a5J (D1 (by assumption) h) _ _ _ _ _ _
   | rw [M2]
   | refine U9 ?_ fun _ => ?_
   | split
theorem c4o {d : Nat} {w : World} (h : d ≤ w.drawn) (p : Program) (fr : Frame) (cs : List Frame) (dy : Option Dying) (g : Nat) : Up d (early p fr cs dy g w) := by
 unfold early; simp only []; repeat' first
   | exact trivial
   | exact h
   | exact D1 (by assumption) h
   | (have hq := D1 (by assumption) h; exact hq)
   | (have hq := D1 (by assumption) h; have hq2 := D1 (by assumption) hq; exact hq2)
   | (have hq := D1 (by assumption) h; have hq2 := D1 (by assumption) hq; have hq3 := D1 (by assumption) hq2; exact hq3)
   | rw [M2]
   | refine U9 ?_ fun _ => ?_
   | split
theorem b0p {d : Nat} {w : World} (h : d ≤ w.drawn) (p : Program) (fr : Frame) (cs : List Frame) (dy : Option Dying) (s : Sem Next) (l : Bool) : Up d (stepG.apply p l fr cs dy s w) := by
 have hl : (if l = true then s.runT p w #[] else (s.run p w, #[])).1 = s.run p w := by cases l <;> simp
 unfold stepG.apply; simp only [M2]; rw [hl]; repeat' first
   | exact trivial
   | exact D1 (by assumption) h
   | (have hq := D1 (by assumption) h; exact hq)
   | (have hq := D1 (by assumption) h; have hq2 := D1 (by assumption) hq; exact hq2)
   | (have hq := D1 (by assumption) h; have hq2 := D1 (by assumption) hq; have hq3 := D1 (by assumption) hq2; exact hq3)
   | exact a0G (by assumption) h
   | exact a2g (D1 (by assumption) h) _ _
   | exact a2g (a0G (by assumption) h) _ _
   | exact a9M (a0G (by assumption) h) _ _ _ _ _
   | exact c4o (a0G (by assumption) h) _ _ _ _ _
   | rw [M2]
   | refine U9 ?_ fun _ => ?_
   | split
theorem c5L {d : Nat} {w : World} (h : d ≤ w.drawn) (p : Program) (fr : Frame) (cs : List Frame) (dy : Option Dying) (l : Bool) : Up d (stepG.oper p l fr cs dy w) := by
 unfold stepG.oper; repeat' first
   | exact trivial
   | exact b0p h _ _ _ _ _ _
   | rw [M2]
   | refine U9 ?_ fun _ => ?_
   | split
theorem c6y {d : Nat} {w : World} (h : d ≤ w.drawn) (p : Program) (b : Bool) (fr : Frame) (cs : List Frame) (dy : Option Dying) (l : Bool) : Up d (stepG.exec p b l fr cs dy w) := by
 unfold stepG.exec; simp only [Sem.runT_eq, M2]; repeat' first
   | exact trivial
   | exact h
   | exact b0p h _ _ _ _ _ _
   | exact c5L h _ _ _ _ _
   | exact D1 (by assumption) h
   | (have hq := D1 (by assumption) h; exact hq)
   | (have hq := D1 (by assumption) h; have hq2 := D1 (by assumption) hq; exact hq2)
   | (have hq := D1 (by assumption) h; have hq2 := D1 (by assumption) hq; have hq3 := D1 (by assumption) hq2; exact hq3)
   | exact a0G (by assumption) h
   | exact a5J (D1 (by assumption) h) _ _ _ _ _ _
   | exact b0p (D1 (by assumption) h) _ _ _ _ _ _
   | rw [M2]
   | refine U9 ?_ fun _ => ?_
   | split
theorem c3d {d : Nat} {w : World} (h : d ≤ w.drawn) (p : Program) (b : Bool) (g : Goroutine) (l : Bool) : Up d (stepG p b g w l) := by
 unfold stepG; simp only []; split
 · exact c8b h _ _ _
 · exact c6y h _ _ _ _ _ _
 · exact c1W h _ _ _ _ _
def UpS (d : Nat) : Stepped → Prop
 | .next m => d ≤ m.world.drawn
 | .ended _ _ => True
theorem b1i {rest : Rest} {cases : Array CommCase} {w w' : World} (h : waitingAt rest cases w = some w') : w'.drawn = w.drawn := by
 unfold waitingAt at h; repeat' (first | (split at h) | (cases h; rfl) | cases h)
theorem b2B {d : Nat} {w : World} (h : d ≤ w.drawn) (p : Program) (rest : Rest) (gs : Array Goroutine) (i : Nat) (g : Goroutine) (cases : Array CommCase) (b : Bool) (shape : CommShape) : UpS d (communicate p rest gs i g cases b shape w).1 := by
 unfold communicate; simp only []; repeat' first
   | exact trivial
   | exact h
   | (rename_i hw; exact Nat.le_trans h (Nat.le_of_eq (b1i hw).symm))
   | exact D1 (by assumption) h
   | (have hq := D1 (by assumption) h; exact hq)
   | (have hq := D1 (by assumption) h; have hq2 := D1 (by assumption) hq; exact hq2)
   | (have hq := D1 (by assumption) h; have hq2 := D1 (by assumption) hq; have hq3 := D1 (by assumption) hq2; exact hq3)
   | exact a0G (by assumption) (D1 (by assumption) h)
   | exact D1 (by assumption) (D1 (by assumption) h)
   | rw [M2]
   | refine U9 ?_ fun _ => ?_
   | split
theorem b7U {d : Nat} {w : World} (h : d ≤ w.drawn) (p : Program) (gs : Array Goroutine) (rest : Rest) : UpS d (look p gs rest w) := by
 unfold look; simp only []; repeat' first
   | exact trivial
   | exact h
   | exact D1 (by assumption) h
   | (have hq := D1 (by assumption) h; exact hq)
   | (have hq := D1 (by assumption) h; have hq2 := D1 (by assumption) hq; exact hq2)
   | (have hq := D1 (by assumption) h; have hq2 := D1 (by assumption) hq; have hq3 := D1 (by assumption) hq2; exact hq3)
   | rw [M2]
   | refine U9 ?_ fun _ => ?_
   | split
theorem b7h (w : World) (c : Nat) : (drain w c).2.drawn = w.drawn := by
 unfold drain; split <;> rfl
theorem a4N (m : Machine) (k : Nat) (t : Timer) (a b : Nat) : (retime m k t a b).2.world.drawn = m.world.drawn := by
 unfold retime; cases hc : t.chan with
 | none => rfl
 | some c => exact b7h _ _
theorem a8R {m m' : Machine} {v : Addr} (h : timerOp.opened m v = some m') : m'.world.drawn = m.world.drawn := by
 unfold timerOp.opened at h; repeat' (first | (split at h) | (cases h; rfl) | cases h)
theorem b4z {m m' : Machine} {op : TimerOp} {v : Value} (h : timerOp m op = .ok (v, m')) : m'.world.drawn = m.world.drawn := by
 unfold timerOp at h; simp only [timerOp.named] at h; repeat' first
   | (cases h; rfl)
   | (cases h; exact a4N _ _ _ _ _)
   | (rename_i ho _ _; have := a8R ho; cases h; rw [← this]; exact a4N _ _ _ _ _)
   | (rename_i ho _ _ _; have := a8R ho; cases h; rw [← this]; exact a4N _ _ _ _ _)
   | cases h
   | split at h
theorem c6u {d : Nat} {m : Machine} (h : d ≤ m.world.drawn) (p : Program) (i : Nat) (l : Bool) : UpS d (runT p m i l).1 := by
 simp only [runT]; generalize m.gs.swapAt! _ _ = gg; have hs := c3d h p (i == 0) gg.1 l; generalize stepG p _ gg.1 m.world l = s at hs; cases s <;> simp only [Up] at hs <;> simp only []
 all_goals first
   | exact trivial
   | exact hs
   | exact b2B hs _ _ _ _ _ _ _ _
   | exact b7U hs _ _ _
   | (repeat' first
       | exact trivial
       | exact hs
       | (rename_i ht; exact Nat.le_trans hs (Nat.le_of_eq (b4z ht).symm))
       | (have hq := a2g hs (d := d) (by assumption) (by assumption))
       | split)
theorem c3C {d : Nat} {m : Machine} (h : d ≤ m.world.drawn) (p : Program) (k : Nat) : UpS d (serve p m k) := by
 unfold serve; simp only []; repeat' first
   | exact trivial
   | exact h
   | rw [M2]
   | refine U9 ?_ fun _ => ?_
   | split
def UpM (d : Nat) : Move → Prop
 | .goroutine m _ => d ≤ m.world.drawn
 | .machine s _ => UpS d s
theorem c1r {α : Type} {p : Program} {s : Sem α} {w w' : World} {gs : Array Goroutine} {rest : Rest} {t : Nat} {a : α} {d : Nat} (h : s.run p (Machine.advanceTo { world := w, gs := gs, rest := rest } t).world = .ok a w') (hd : d ≤ w.drawn) : d ≤ w'.drawn := D1 h hd
theorem b0O {d : Nat} {m : Machine} (h : d ≤ m.world.drawn) (p : Program) : UpM d (askOn p m) := by
 unfold askOn; simp only []; repeat' first
   | exact trivial
   | exact h
   | exact c3C (m := { m with world := _ }) (D1 (by assumption) h) _ _
   | exact D1 (by assumption) h
   | (have hq := D1 (by assumption) h; exact hq)
   | (have hq := D1 (by assumption) h; have hq2 := D1 (by assumption) hq; exact hq2)
   | (have hq := D1 (by assumption) h; have hq2 := D1 (by assumption) hq; have hq3 := D1 (by assumption) hq2; exact hq3)
   | exact D1 (by assumption) (D1 (by assumption) h)
   | exact D1 (by assumption) (D1 (by assumption) (D1 (by assumption) h))
   | exact D1 (by assumption) (D1 (by assumption) (D1 (by assumption) (D1 (by assumption) h)))
   | rw [M2]
   | refine U9 ?_ fun _ => ?_
   | (have q1 := D1 (by assumption) h; have q2 := D1 (by assumption) q1; have q3 := c1r (by assumption) q2; exact q3)
   | (have q1 := D1 (by assumption) h; have q2 := D1 (by assumption) q1; have q3 := c1r (by assumption) q2; have q4 := D1 (by assumption) q3; exact q4)
   | split
theorem c0w {d : Nat} {m : Machine} (h : d ≤ m.world.drawn) (p : Program) : UpM d (ask p m) := by
 unfold ask; split
 · split
   · exact trivial
   · rename_i hr
     have hl := b7U (D1 hr h) p m.gs m.rest; generalize look p m.gs m.rest _ = s at hl; cases s with
     | next m2 => exact b0O hl p
     | ended o w => exact trivial
   · exact b0O (m := { m with world := _ }) (D1 (by assumption) h) p
 · exact b0O h p
theorem c5r {d : Nat} {m : Machine} (h : d ≤ m.world.drawn) (p : Program) : UpM d (move p m) := by
 unfold move; repeat' first
   | exact trivial
   | exact h
   | exact c0w h p
   | (refine c0w ?_ p; exact h)
   | rw [M2]
   | refine U9 ?_ fun _ => ?_
   | split
theorem c5z {m m' : Machine} {p : Program} (h : step p m = .next m') : m.world.drawn ≤ m'.world.drawn := by
 have hm := c5r (Nat.le_refl m.world.drawn) p; unfold step stepT at h; generalize move p m = mv at hm h; cases mv with
 | goroutine m2 i =>
   have := c6u hm p i true; simp only [] at h; rw [h] at this; exact this
 | machine s ops =>
   simp only [] at h; subst h; exact hm
theorem c3P {m m' : Machine} {p : Program} (h : Steps p m m') : m.world.drawn ≤ m'.world.drawn := by
 obtain ⟨n, hn⟩ := h
 induction n generalizing m with
 | zero => simp only [runN, Stepped.next.injEq] at hn; rw [hn]; exact Nat.le_refl _
 | succ n ih =>
   simp only [runN] at hn; cases hs : step p m with
   | next m2 => rw [hs] at hn; exact Nat.le_trans (c5z hs) (ih hn)
   | ended o w => rw [hs] at hn; cases hn
theorem b7n {P : Program} {f : FuncId} {args : Array Value} {w : World} {R : Ending → World → Prop} (h : Calls P f args w R) : Calls P f args w (fun e w' => R e w' ∧ ((∃ v, e = .returned v) → w.drawn ≤ w'.drawn)) := by
 intro cs; obtain ⟨e, w', fr, h1, h2, h3⟩ := h cs; refine ⟨e, w', fr, ⟨h1, ?_⟩, h2, h3⟩; rintro ⟨v, rfl⟩; exact c3P h2
end Go.Vw
namespace Go.Vw
open Go.RowKit Go.Proofs Go.Sort
variable {P : Program} {f : FuncId}
theorem H5.post {args hs : List AV} {Post Post' : AV → List AV → Prop} (h : H5 P f args hs Post) (hp : ∀ r hs', Post r hs' → Post' r hs') : H5 P f args hs Post' := by
 refine ⟨h.1, fun w L vals hl hg hr h1 h2 => (h.2 w L vals hl hg hr h1 h2).mono ?_⟩; rintro x w' ⟨v, L', og', r, hs', rfl, a1, a2, a3, a4, a5, a6, a7, a8⟩; exact ⟨v, L', og', r, hs', rfl, a1, a2, a3, a4, a5, a6, a7, hp _ _ a8⟩
theorem RH.hs_lt {w : World} {L : Nat → Nat → Prop} {u : Value} {e : TypeId} {l : List D} (h : RH P w L (.hs u e l)) {g : Nat} (hg : u.ownBlock = some g) : g < w.heap.size ∧ ∀ q, ¬ L g q := by
 obtain ⟨_, h⟩ := h; have h' : E5 P w L u.ownBlock true e l u := h; refine ⟨?_, (h'.blk hg).2⟩; obtain ⟨css, sz, h1, h2, h3, h4, h5⟩ := h'; rcases h4.2 with ⟨hv, hn⟩ | ⟨g', cap, cur, hv, hh, _⟩
 · subst hv; cases hg
 · subst hv; have : g' = g := (by simpa [Value.ownBlock] using hg); subst this; exact (Array.getElem?_eq_some_iff.1 hh).1
theorem b3r : ∀ {xs ys : List (Option Nat)}, K3 (xs ++ ys) → K3 xs ∧ K3 ys ∧ ∀ g, some g ∈ xs → some g ∉ ys
 | [], ys, h => ⟨trivial, h, fun g hg => by simp at hg⟩
 | x :: xs, ys, h => by
   obtain ⟨h1, h2, h3⟩ := b3r h.2; refine ⟨⟨fun g hg hm => h.1 g hg (mem_append.2 (.inl hm)), h1⟩, h2, fun g hg => ?_⟩; rcases mem_cons.1 hg with hg | hg
   · exact fun hm => h.1 g hg.symm (mem_append.2 (.inr hm))
   · exact h3 g hg
def b0H : D → Str
 | .str s => s
 | _ => []
theorem b2f {kt : TypeId} {k : D} (hk : P.underlying kt = some .string) (h : E0 P kt k = true) : ∃ s, k = .str s := by
 rcases Q3 h with ⟨h1, h2⟩ | ⟨xs, rfl, h1, h2⟩
 · rw [hk] at h1; cases k <;> simp [P9] at h1
   exact ⟨_, rfl⟩
 · rw [(a4J h1).1] at hk; cases hk
theorem d0f {w : World} {L : Nat → Nat → Prop} {kt : TypeId} {m m' : List (D × D)} {b : Nat} {es : Array MapEntry} {clk : Nat} (h3 : w.heap[b]? = some (.map es clk)) (h5 : Perm m' m) (h6 : J6 w L m' es.toList) (h7 : (m.map (·.1)).Nodup) (h8 : ∀ p ∈ m, E0 P kt p.1 = true)
   (h9 : (es.toList.map (·.born)).Nodup) (h10 : ∀ e ∈ es.toList, e.born < clk) (hk : P.underlying kt = some .string) (hl : m.length ≤ maxLen) (hs : ∀ p ∈ m, (b0H p.1).length ≤ maxLen) :
   ∃ D0 : DataW Unit, w.ownsMap P kt (fun _ => some (.lit (.bool true), [])) b m.length D0 ∧ Maps.size D0 = m.length ∧ (strKeys D0).Perm (m.map fun p => b0H p.1) := by
 have hlen : es.toList.length = m.length := by rw [h6.len, h5.length_eq]
 have hsz : es.size = m.length := by rw [← hlen, Array.length_toList]
 have hkey : ∀ e ∈ es.toList, ∃ s : Str, e.key = .string ⟨s.toArray⟩ ∧ s.length ≤ maxLen := fun e he => by
   obtain ⟨i, hi⟩ := getElem?_of_mem he; obtain ⟨p, hp, k1, _⟩ := h6.get hi; have hpm : p ∈ m := h5.mem_iff.1 (mem_of_getElem? hp); have hf := h8 p hpm; have hle := hs p hpm; obtain ⟨pk, pv⟩ := p; obtain ⟨s0, rfl⟩ := b2f hk hf; exact ⟨_, k1.str_inv, hle⟩
 have hrd : ∀ e ∈ es.toList, ∀ s : Str, e.key = .string ⟨s.toArray⟩ → s.length ≤ maxLen → WideElems.rd P kt (fun _ => some ((.lit (.bool true) : DataW Unit), [])) e = some (.string s, .lit (.bool true)) := fun e he s h1 h2 => by
   have : keyOf P kt e.key = some (.string s) := by
     rw [h1, WideMaps.keyOf_string_mk hk (by simpa [ByteArray.size] using h2)]
   simp [WideElems.rd, this]
 refine ⟨_, ⟨es, clk, h3, ⟨by rw [hsz]; exact hl, ⟨h10, h9, ?_⟩, fun x hx => ?_⟩, by omega, rfl⟩, ?_, ?_⟩
 · -- no key twice
   have hn : (m'.map (·.1)).Nodup := (h5.map _).nodup_iff.2 h7; have hen : ∀ {m' : List (D × D)} {l : List MapEntry}, J6 w L m' l → (m'.map (·.1)).Nodup → (∀ p ∈ m', E0 P kt p.1 = true) → (l.map (·.key)).Nodup := by
     intro m'
     induction m' with
     | nil => intro l h _ _; simp only [J6] at h; subst h; simp
     | cons p m' ih =>
       intro l h hn hf; obtain ⟨e, es', rfl, k1, k2, k3⟩ := h; rw [map_cons, nodup_cons] at hn ⊢; refine ⟨fun hm => hn.1 ?_, ih k3 hn.2 (fun q hq => hf q (by simp [hq]))⟩; obtain ⟨e2, he2, he3⟩ := mem_map.1 hm; obtain ⟨i, hi⟩ := getElem?_of_mem he2; obtain ⟨q, hq, k4, _⟩ := k3.get hi; have := b8b (hf q (by simp [mem_of_getElem? hq])) (hf p (by simp)) k4 k1 he3; exact mem_map.2 ⟨q, mem_of_getElem? hq, this⟩
   refine hen h6 hn (fun p hp => ?_); exact h8 p (h5.mem_iff.1 hp)
 · obtain ⟨s, k1, k2⟩ := hkey x hx; exact ⟨_, hrd x hx s k1 k2⟩
 · rw [Maps.size_eq, length_sorted]; simp [hsz]
 · show (List.map (fun p : Lit × DataW Unit => strOf p.1) _).Perm _
   refine ((WideShapes.sorted_perm _).map _).trans ?_; rw [map_map]; refine Perm.trans ?_ (h5.map _); refine Perm.of_eq ?_; have : ∀ {m' : List (D × D)} {l : List MapEntry}, J6 w L m' l → (∀ p ∈ m', E0 P kt p.1 = true) → (∀ e ∈ l, e ∈ es.toList) → l.map ((fun p : Lit × DataW Unit => strOf p.1) ∘ WideElems.rg P kt (fun _ => some ((.lit (.bool true) : DataW Unit), []))) = m'.map fun p => b0H p.1 := by
     intro m'
     induction m' with
     | nil => intro l h _ _; simp only [J6] at h; subst h; rfl
     | cons p m' ih =>
       intro l h hf hm; obtain ⟨e, es', rfl, k1, k2, k3⟩ := h; obtain ⟨s, k4, k5⟩ := hkey e (hm e (by simp)); rw [map_cons, map_cons, ih k3 (fun q hq => hf q (by simp [hq])) (fun e he => hm e (by simp [he]))]; congr 1
       have hp : p.1 = .str s := by
         have hfp := hf p (by simp); obtain ⟨pk, pv⟩ := p; obtain ⟨s0, e0⟩ := b2f hk hfp; simp only at e0; subst e0; have := k1.str_inv; rw [k4] at this; simp only [Value.string.injEq, ByteArray.mk.injEq] at this; have := congrArg Array.toList this; simp only [] at this; rw [this]
       simp only [Function.comp_apply, WideElems.rg_of (hrd e (hm e (by simp)) s k4 k5), strOf, hp, b0H]
   exact this h6 (fun p hp => h8 p (h5.mem_iff.1 hp)) (fun e he => he)
def a9o (g q : Nat) : Value := .func (.func g) #[] #[.pointer (some ⟨q, 0, none⟩)]
end Go.Vw
namespace Go.Vw
open Go.RowKit Go.Proofs
variable {P : Program} {F : Nat → Bool} {w0 : World} {L0 : Nat → Nat → Prop} {row : Nat → Prop} {n : Nat} {K : St → Prop} {Q : Exit → Act → World → Prop}
 {w w' : World} {L L' : Nat → Nat → Prop} {O O' : Nat → Option Nat} {σ σ' : St} {a : Act} {o : Oper} {d : Nat} {v : Value} {tm : Nat → Value}
def b8l : AV → Option D
 | .box d => some d
 | _ => none
@[simp] theorem d2C (d : D) : b8l (.box d) = some d := rfl
def a1V (P : Program) (σ : St) (r : ResultVar) (y : AV) : Prop :=
 match r with
 | .tmp t => y = .undef ∨ ∃ x, y = .d x ∧ asD (σ t) = some x
 | .cell t ty => ∃ x, y = .d x ∧ b8l (σ t) = some x ∧ tyk P ty = some (x.isAgg, B6 x)
def X0 (P : Program) (σ : St) : List ResultVar → List AV → Prop
 | [], ys => ys = []
 | r :: rs, ys => match ys with
   | y :: ys => a1V P σ r y ∧ X0 P σ rs ys
   | [] => False
def b6a (P : Program) (σ : St) (r : ResultVar) (y : AV) : Prop :=
 match r with
 | .tmp t => a0a (σ t) y
 | .cell t ty => a1V P σ (.cell t ty) y
def a2k : List AV → AV
 | [y] => y
 | ys => .tup ys
def a4i : List Value → Value
 | [v] => v
 | vs => .tuple vs.toArray
def b6D (P : Program) (r : ResultVar) (rs : List ResultVar) (y : AV) (ys : List AV) : Exit → St → Prop := fun e σ => (e = .ret ∨ e = .normal) ∧ b6a P σ r y ∧ X0 P σ rs ys
def b1u (P : Program) (rs : List ResultVar) (Post : AV → List AV → Prop) : Exit → St → Prop := fun e σ => (e = .ret ∨ e = .normal) ∧ ∃ (ys : List AV) (ks : List Nat), ks.Nodup ∧ (∀ k ∈ ks, isH (σ k) = true) ∧ X0 P σ rs ys ∧ Post (a2k ys) (ks.map σ)
def evR (tmps : Array Value) : ResultVar → Sem Value
 | .tmp t => pure (tmps.getD t undef)
 | .cell a t => do loadVar t (← asAddr (tmps.getD a undef))
def evs (P : Program) (w : World) (tmps : Array Value) : List ResultVar → List Value → Prop
 | [], vs => vs = []
 | r :: rs, vs => match vs with
   | v :: vs => (evR tmps r).run P w = .ok v w ∧ evs P w tmps rs vs
   | [] => False
theorem b6S (fn : Func) (tmps : Array Value) : results fn tmps = (do
   let vs ← fn.results.mapM (evR tmps)
   pure (if h : vs.size = 1 then vs[0] else .tuple vs)) := by
 unfold results; congr 1
theorem a9N {fn : Func} {rs : List ResultVar} {vs : List Value} (h : fn.results = rs.toArray) (hl : rs.length ≤ 4) {tmps : Array Value} (he : evs P w tmps rs vs) : (results fn tmps).run P w = .ok (a4i vs) w := by
 rw [b6S, h]
 match rs, vs, he with
 | [], vs, he => simp only [evs] at he; subst he; simp [a4i]
 | [a], [x], he =>
   simp only [evs] at he; simp [he.1, a4i]
 | [a, b], [x, y], he =>
   simp only [evs] at he; simp [he.1, he.2.1, a4i]
 | [a, b, c], [x, y, z], he =>
   simp only [evs] at he; simp [he.1, he.2.1, he.2.2.1, a4i]
 | [a, b, c, d], [x, y, z, u], he =>
   simp only [evs] at he; simp [he.1, he.2.1, he.2.2.1, he.2.2.2.1, a4i]
 | _ :: _ :: _ :: _ :: _ :: _, _, _ => simp at hl
 | [_], [], he => exact he.elim
 | [_], _ :: _ :: _, he => simp only [evs] at he; exact absurd he.2 (by simp)
 | [_, _], [], he => exact he.elim
 | [_, _], [_], he => simp only [evs] at he; exact he.2.elim
 | [_, _], _ :: _ :: _ :: _, he => simp only [evs] at he; exact absurd he.2.2 (by simp)
 | [_, _, _], [], he => exact he.elim
 | [_, _, _], [_], he => simp only [evs] at he; exact he.2.elim
 | [_, _, _], [_, _], he => simp only [evs] at he; exact he.2.2.elim
 | [_, _, _], _ :: _ :: _ :: _ :: _, he => simp only [evs] at he; exact absurd he.2.2.2 (by simp)
 | [_, _, _, _], [], he => exact he.elim
 | [_, _, _, _], [_], he => simp only [evs] at he; exact he.2.elim
 | [_, _, _, _], [_, _], he => simp only [evs] at he; exact he.2.2.elim
 | [_, _, _, _], [_, _, _], he => simp only [evs] at he; exact he.2.2.2.elim
 | [_, _, _, _], _ :: _ :: _ :: _ :: _ :: _, he => simp only [evs] at he; exact absurd he.2.2.2.2 (by simp)
theorem b7E (hR : Rel P w0 L0 row w L O σ (B5 a)) {r : ResultVar} {y : AV} (h : a1V P σ r y) : ∃ v, (evR a.tmps r).run P w = .ok v w ∧ (y = .undef ∨ ∃ x, y = .d x ∧ RepV w L x v) := by
 cases r with
 | tmp t =>
   refine ⟨B5 a t, rfl, ?_⟩; rcases h with h | ⟨x, h1, h2⟩
   · exact .inl h
   · exact .inr ⟨x, h1, RA.asD hR.slots (hR.slots t) h2⟩
 | cell t ty =>
   obtain ⟨x, rfl, h1, h2⟩ := h; have h3 := hR.slots t; have hb : ∃ g C e, B5 a t = ptr g 0 ∧ w.heap[g]? = some (.cells C e (0, 0)) ∧ Rep w L x C.toList := by
     unfold b8l at h1; split at h1
     · rename_i y hx
       rw [hx] at h3; simp only [Option.some.injEq] at h1; subst h1; obtain ⟨g, C, e, g1, g2, g3, g4, _⟩ : a5M w L (O t) y (B5 a t) := h3; exact ⟨g, C, e, g2, g3, g4⟩
     · cases h1
   obtain ⟨g, C, e, g1, g2, g3⟩ := hb; obtain ⟨v, hv, hr⟩ := a5L (off := 0) h2 g3 (b := g) (fun k u hk => by
     simp only [World.cell?, g2]; simpa using hk)
   refine ⟨v, ?_, .inr ⟨x, rfl, hr⟩⟩; have g1' : a.tmps.getD t undef = .pointer (some ⟨g, 0, none⟩) := g1; simp [evR, g1', asAddr, hv]
theorem b0B (hR : Rel P w0 L0 row w L O σ (B5 a)) : ∀ {rs : List ResultVar} {ys : List AV}, X0 P σ rs ys → ∃ vs, evs P w a.tmps rs vs ∧ ∀ (L' : Nat → Nat → Prop), Ext w L w L' → ∀ og, RCs P w L' og ys vs
 | [], ys, h => by
   simp only [X0] at h; subst h; exact ⟨[], by simp [evs], fun _ _ _ => by simp [RCs]⟩
 | r :: rs, [], h => h.elim
 | r :: rs, y :: ys, h => by
   obtain ⟨h1, h2⟩ := h; obtain ⟨v, hv, hy⟩ := b7E hR h1; obtain ⟨vs, hvs, hys⟩ := b0B hR h2; refine ⟨v :: vs, ⟨hv, hvs⟩, fun L' hx og => ?_⟩; simp only [RCs]; refine ⟨v, vs, rfl, ?_, hys L' hx og⟩; rcases hy with rfl | ⟨x, rfl, hr⟩
   · simp [RC]
   · simp only [RC]; exact hr.mono hx
theorem RCs.pack {og : Option Nat} : ∀ {ys : List AV} {vs : List Value}, RCs P w L og ys vs → RC P w L og (a2k ys) (a4i vs)
 | [], vs, h => by simp only [RCs] at h; subst h; simp only [a2k, a4i, RC]; exact ⟨[], rfl, by simp [RCs]⟩
 | [y], vs, h => by
   simp only [RCs] at h; obtain ⟨v, us, rfl, h1, rfl⟩ := h; exact h1
 | y :: z :: ys, vs, h => by
   have h' := h; simp only [RCs] at h; obtain ⟨v, us, rfl, h1, u, us2, rfl, h2, h3⟩ := h; simp only [a2k, a4i, RC]; exact ⟨_, rfl, h'⟩
theorem O0 {f : FuncId} {fn : Func} {c : Code} {args : List AV} {rv : ResultVar} {rs : List ResultVar} {r : AV} {ys : List AV} (F : Nat → Bool) (hm : P.follows .mixedOrders = true) (hf : P.funcs[f]? = some fn) (hname : (fn.name == "runtime.NumGoroutine") = false) (hb : fn.body = some c)
   (hres : fn.results = (rv :: rs).toArray) (hl : rs.length ≤ 3) (hargs : args.length ≤ fn.ntmps) (hok : a0U F fn.ntmps c = true) (harg : (args.all b1M) = true) (hone : a4M args = true)
   (h : vwp P F c (b6D P rv rs r ys) (a5r args)) : Ctr P f args (a2k (r :: ys)) := by
 refine ⟨enters_of hf hname hb, fun w L og vals hlok hgl hog hrc => ?_⟩; have hlen := hrc.length; refine calls_of_wp hf hb (wp_mono (R6 (n := fn.ntmps) hm c _ _ w hok ⟨L, _, a5r args, b6g hlok hgl hog hrc harg hone, rfl, ?_, h⟩) ?_)
 · simp; omega
 · rintro e a' w' ⟨L', O', σ', hR, hdef, hsz, he, hr, hy⟩; obtain ⟨v, L2, og2, hv, h1, h2, h3, h5, h4⟩ : ∃ v L2 og2, (evR a'.tmps rv).run P w' = .ok v w' ∧ (∀ b q, L2 b q → b < w'.heap.size) ∧ (∀ b q, b < w.heap.size → ¬ F2 og b → (L2 b q ↔ L b q)) ∧
       (∀ g, og2 = some g → g < w'.heap.size ∧ (w.heap.size ≤ g ∨ F2 og g)) ∧ Ext w' L' w' L2 ∧ RC P w' L2 og2 r v := by
     cases rv with
     | tmp t =>
       obtain ⟨L2, og2, h1, h2, h3, h5, h4⟩ := b7y hR (show a0a (σ' t) r from hr); exact ⟨B5 a' t, L2, og2, rfl, h1, h2, h3, h5, h4⟩
     | cell t ty =>
       obtain ⟨v, hv, hx⟩ := b7E hR (show a1V P σ' (.cell t ty) r from hr); refine ⟨v, L', none, hv, hR.lok, hR.old, by simp, fun _ _ h => ⟨h, fun _ hv => hv⟩, ?_⟩; rcases hx with rfl | ⟨x, rfl, hrx⟩
       · simp [RC]
       · simpa only [RC] using hrx
   obtain ⟨vs, hvs, hys⟩ := b0B hR hy; have h6 : RCs P w' L2 og2 (r :: ys) (v :: vs) := by
     simp only [RCs]; exact ⟨v, vs, rfl, h4, hys L2 h5 og2⟩
   have hrun := a9N (vs := v :: vs) hres (by simp; omega) (show evs P w' a'.tmps (rv :: rs) (v :: vs) from ⟨hv, hvs⟩); have hfin : a'.defers = [] ∧ ∃ v, (results fn a'.tmps).run P w' = .ok v w' ∧ (∃ v' L' og', Ending.returned v = .returned v' ∧ F1 w w' (F2 og) ∧ (∀ b q, L' b q → b < w'.heap.size) ∧ (∀ b q, b < w.heap.size → ¬ F2 og b → (L' b q ↔ L b q)) ∧
       (∀ g, og' = some g → g < w'.heap.size ∧ (w.heap.size ≤ g ∨ og = some g)) ∧ RC P w' L' og' (a2k (r :: ys)) v') :=
     ⟨hdef, _, hrun, _, L2, og2, rfl, hR.grown, h1, h2, h3, h6.pack⟩
   rcases he with rfl | rfl
   · exact hfin
   · exact hfin
theorem a3L {f : FuncId} {fn : Func} {c : Code} {args hs : List AV} {rs : List ResultVar} {Post : AV → List AV → Prop} (F : Nat → Bool) (hm : P.follows .mixedOrders = true) (hf : P.funcs[f]? = some fn) (hname : (fn.name == "runtime.NumGoroutine") = false) (hb : fn.body = some c)
   (hres : fn.results = rs.toArray) (hl : rs.length ≤ 4) (hargs : args.length ≤ fn.ntmps) (hok : a0U F fn.ntmps c = true) (harg : (args.all b5x) = true)
   (h : vwp P F c (b1u P rs Post) (A7 args hs)) : H5 P f args hs Post := by
 refine ⟨enters_of hf hname hb, fun w L vals hlok hgl hrc hh hap => ?_⟩; have hlen := hrc.length; refine calls_of_wp hf hb (wp_mono (R6 (n := fn.ntmps) hm c _ _ w hok ⟨L, _, A7 args hs, a7G hlok hgl hrc harg hh hap (fun x hx g hg => (hh x hx).lt hg), rfl, ?_, h⟩) ?_)
 · simp; omega
 · rintro e a' w' ⟨L', O', σ', hR, hdef, hsz, he, ys, ks, hnd, hks, hr, hpost⟩; have hks' : ∀ k ∈ ks, RH P w' L' (σ' k) ∧ ∀ g, C0 (σ' k) = some g → O' k = some g := by
     intro k hk; have hs := hR.slots k; have hH := hks k hk; have hrc : RC P w' L' (O' k) (σ' k) (B5 a' k) := by
       cases hx : σ' k <;> rw [hx] at hs hH <;> simp [isH] at hH <;> exact hs
     exact hrc.self hH
   have hmap : ∀ g, some g ∈ (ks.map σ').map C0 → ∃ k ∈ ks, O' k = some g := by
     intro g hg; simp only [map_map, mem_map, Function.comp_apply] at hg; obtain ⟨k, hk, hg⟩ := hg; exact ⟨k, hk, (hks' k hk).2 g hg⟩
   have hapart : ∀ (l : List Nat), l.Nodup → (∀ k ∈ l, ∀ g, C0 (σ' k) = some g → O' k = some g) → K3 ((l.map σ').map C0) := by
     intro l
     induction l with
     | nil => intro _ _; trivial
     | cons k l ih =>
       intro hn ho; rw [nodup_cons] at hn; refine ⟨fun g hg hm => ?_, ih hn.2 (fun k hk => ho k (by simp [hk]))⟩; simp only [map_map, mem_map, Function.comp_apply] at hm; obtain ⟨k', hk', hg'⟩ := hm; have e1 := ho k (by simp) g hg; have e2 := ho k' (by simp [hk']) g hg'; exact hn.1 (by rw [hR.inj k k' g e1 e2]; exact hk')
   obtain ⟨vs, hvs, hys⟩ := b0B hR hr; have hrun := a9N hres hl hvs; have hrc := (hys L' (fun _ _ h => ⟨h, fun _ hv => hv⟩) none).pack; have hfin : a'.defers = [] ∧ ∃ v, (results fn a'.tmps).run P w' = .ok v w' ∧ (∃ v' L' og r hs', Ending.returned v = .returned v' ∧ F1 w w' (fun b => some b ∈ hs.map C0) ∧ (∀ b q, L' b q → b < w'.heap.size) ∧ (∀ b q, b < w.heap.size → some b ∉ hs.map C0 → (L' b q ↔ L b q)) ∧
     (∀ g, some g ∈ og :: hs'.map C0 → g < w'.heap.size ∧ (w.heap.size ≤ g ∨ some g ∈ hs.map C0)) ∧ K3 (og :: hs'.map C0) ∧ RC P w' L' og r v' ∧ (∀ x ∈ hs', RH P w' L' x) ∧ Post r hs') := by
     refine ⟨hdef, _, hrun, _, L', none, a2k ys, ks.map σ', rfl, hR.grown, hR.lok, hR.old, fun g hg => ?_, ⟨fun g hg hm => (by cases hg), hapart ks hnd (fun k hk => (hks' k hk).2)⟩, hrc, fun x hx => ?_, hpost⟩
     · rcases mem_cons.1 hg with hg | hg
       · cases hg
       · obtain ⟨k, _, hk⟩ := hmap g hg; exact hR.olt k g hk
     · obtain ⟨k, hk, rfl⟩ := mem_map.1 hx; exact (hks' k hk).1
   rcases he with rfl | rfl
   · exact hfin
   · exact hfin
section
variable {rs : List ResultVar} {r : ResultVar} {y : AV} {ys : List AV} {t : Nat} {ty : TypeId}
@[simp] theorem d4C : b6D P r rs y ys .ret σ = (b6a P σ r y ∧ X0 P σ rs ys) := by simp [b6D]
@[simp] theorem c8x : b6D P r rs y ys .normal σ = (b6a P σ r y ∧ X0 P σ rs ys) := by simp [b6D]
@[simp] theorem d2v (Post : AV → List AV → Prop) : b1u P rs Post .ret σ = ∃ (ys : List AV) (ks : List Nat), ks.Nodup ∧ (∀ k ∈ ks, isH (σ k) = true) ∧ X0 P σ rs ys ∧ Post (a2k ys) (ks.map σ) := by simp [b1u]
@[simp] theorem c7D (Post : AV → List AV → Prop) : b1u P rs Post .normal σ = ∃ (ys : List AV) (ks : List Nat), ks.Nodup ∧ (∀ k ∈ ks, isH (σ k) = true) ∧ X0 P σ rs ys ∧ Post (a2k ys) (ks.map σ) := by simp [b1u]
@[simp] theorem d1J : X0 P σ [] ys = (ys = []) := rfl
@[simp] theorem c9m : X0 P σ (r :: rs) (y :: ys) = (a1V P σ r y ∧ X0 P σ rs ys) := rfl
@[simp] theorem d3s (x : D) : a1V P σ (.tmp t) (.d x) = (asD (σ t) = some x) := by simp [a1V]
@[simp] theorem d1y : a1V P σ (.tmp t) .undef = True := by simp [a1V]
@[simp] theorem d0Q (x : D) : a1V P σ (.cell t ty) (.d x) = (b8l (σ t) = some x ∧ tyk P ty = some (x.isAgg, B6 x)) := by simp [a1V]
@[simp] theorem d3X : b6a P σ (.tmp t) y = a0a (σ t) y := rfl
@[simp] theorem d1k : b6a P σ (.cell t ty) y = a1V P σ (.cell t ty) y := rfl
@[simp] theorem d0V : a2k [y] = y := rfl
@[simp] theorem d1W : a2k [] = .tup [] := rfl
@[simp] theorem c9k (z : AV) : a2k (y :: z :: ys) = .tup (y :: z :: ys) := rfl
end
end Go.Vw
namespace Go.Vw
open Go.RowKit Go.Proofs Go.Sort
theorem c2U {w : World} {L : Nat → Nat → Prop} {g : FuncId} {v : Value} (h : RepV w L (.clo g []) v) : v = .func (.func g) #[] #[] := by
 obtain ⟨ccs, hcc, rfl⟩ := a0B h; simp only [A5] at hcc; subst hcc; rfl
theorem b1E {w w' : World} (h : F1 w w' noB) : ∃ q os', w' = grow (w.drewN q) os' := by
 refine ⟨w'.drawn - w.drawn, w'.heap.extract w.heap.size w'.heap.size, ?_⟩; have hh : w'.heap = w.heap ++ w'.heap.extract w.heap.size w'.heap.size := by
   apply Array.ext_getElem?
   intro i; rw [Array.getElem?_append]; split
   · rename_i hi; exact h.block i hi id
   · rename_i hi
     rw [Array.getElem?_extract]; split
     · congr 1; omega
     · rename_i h2
       rw [Array.getElem?_eq_none]; simp at h2; omega
 obtain ⟨he, ta, dr, os, ou⟩ := w'; have h1 := h.os; have h2 := h.tape; have h3 := h.output; have h4 := h.drawn; simp only at h1 h2 h3 h4 hh ⊢; subst h1 h2 h3; unfold grow World.drewN; simp only [World.mk.injEq]; refine ⟨hh, trivial, by omega, trivial, trivial⟩
theorem b1a {α : Type} [Inhabited α] (enc : α → List Value) (k : Nat) (l : List α) (hk : ∀ x, (enc x).length = k) (hp : 0 < k) : flatK enc k l.toArray = (l.map enc).flatten.toArray := by
 have hfl : (l.map enc).flatten.length = l.length * k := by rw [P1 (fun c hc => by obtain ⟨x, _, rfl⟩ := mem_map.1 hc; exact hk x), length_map]
 apply Array.ext
 · simp [flatK, hfl]
 · intro t h1 h2; have ht : t < l.length * k := (by simpa [flatK] using h1); have hq : t / k < l.length := Nat.div_lt_of_lt_mul (by rw [Nat.mul_comm]; exact ht); have hr : t % k < (enc l[t / k]).length := by rw [hk]; exact Nat.mod_lt _ hp
   have := a1j (css := l.map enc) (sz := k) (fun c hc => by obtain ⟨x, _, rfl⟩ := mem_map.1 hc; exact hk x) (i := t / k) (c := enc l[t / k]) (by simp [hq]) (t % k) ((enc l[t / k])[t % k]) (getElem?_eq_getElem hr); rw [show t / k * k + t % k = t by rw [Nat.mul_comm]; exact Nat.div_add_mod t k] at this; have e2 := (List.getElem?_eq_some_iff.1 this).2; simp only [flatK, size_toArray, Array.getElem_map, Array.getElem_range, getElem_toArray]; rw [e2, show (l.toArray[t / k]! : α) = l[t / k] by rw [getElem!_pos l.toArray _ (by simpa using hq)]; simp]; exact getElem!_pos (enc l[t / k]) (t % k) hr
def G8 {α : Type} [Inhabited α] (cf : α → α → Int) (l : List α) : List α := (pdq (ltOf cf) l.toArray 0 l.length (Lib.bitLen l.length) true true).toList
theorem Q5 {α : Type} [Inhabited α] {cf : α → α → Int} (hO : SWO (ltOf cf)) (l : List α) : (G8 cf l).Perm l ∧ ∀ i j (hij : i < j) (hj : j < (G8 cf l).length), ltOf cf (G8 cf l)[j] ((G8 cf l)[i]'(by omega)) = false := by
 have h := pdq_sorts (ltOf cf) hO l.toArray 0 l.length (Lib.bitLen l.length) true true (Nat.zero_le _) (by simp) (Or.inl rfl); obtain ⟨⟨h1, h2, h3⟩, h4⟩ := h; have hs : (G8 cf l).length = l.length := (by simpa [G8] using h1); refine ⟨?_, fun i j hij hj => ?_⟩
 · have e1 : (pdq (ltOf cf) l.toArray 0 l.length (Lib.bitLen l.length) true true).extract 0 l.length = pdq (ltOf cf) l.toArray 0 l.length (Lib.bitLen l.length) true true := by
     apply Array.extract_eq_self_of_le; rw [h1]; simp
   rw [e1] at h3; simpa [G8] using h3
 · have := h4 i j (Nat.zero_le _) hij (by omega); have hj' : j < (pdq (ltOf cf) l.toArray 0 l.length (Lib.bitLen l.length) true true).size := (by simpa [G8] using hj); rw [getElem!_pos _ j hj', getElem!_pos _ i (by omega)] at this; simpa [G8] using this
structure a9s {α : Type} (dat : α → D) (enc : α → List Value) (k : Nat) : Prop where
 agg : ∀ x, (dat x).isAgg = true
 rep : ∀ w L x cs, Rep w L (dat x) cs ↔ cs = enc x
 len : ∀ x, (enc x).length = k
 one : ∀ x, ∀ v ∈ enc x, v.oneCell' = true
theorem a9s.reps {α : Type} {dat : α → D} {enc : α → List Value} {k : Nat} (h : a9s dat enc k) (w : World) (L : Nat → Nat → Prop) : ∀ (l : List α), A5 w L (l.map dat) (l.map enc)
 | [] => by simp [A5]
 | s :: l => by
   simp only [map_cons, A5]; exact ⟨_, _, rfl, (h.rep w L s _).2 rfl, h.reps w L l⟩
theorem a9s.only {α : Type} {dat : α → D} {enc : α → List Value} {k : Nat} (h : a9s dat enc k) {w : World} {L : Nat → Nat → Prop} : ∀ {l : List α} {css : List (List Value)}, A5 w L (l.map dat) css → css = l.map enc
 | [], css, hr => by simpa [A5] using hr
 | s :: l, css, hr => by
   simp only [map_cons, A5] at hr; obtain ⟨c, cs, rfl, h1, h2⟩ := hr; rw [(h.rep w L s c).1 h1, h.only h2]; rfl
theorem b7c {P : Program} {ρ : Go.Shelf.Ren} (L6 : SlLaysF0.n6 P ρ) {α : Type} [Inhabited α] (k : Nat) (hk0 : 0 < k) (aE : ∀ w, (isAgg (ρ.t 24)).run P w = .ok true w) (zE : ∀ w, (Go.sizeOf (ρ.t 24)).run P w = .ok k w)
   (e : TypeId) (he : (P.info? (ety e)).map (·.size) = some k) (hE : Enters P (ρ.f 6))
   (dat : α → D) (enc : α → List Value) (hF : a9s dat enc k) (cf : α → α → Int) (hO : SWO (ltOf cf)) (g : FuncId) (hcf : ∀ x y, Ctr P g [.d (dat x), .d (dat y)] (.d (.int .i64 (cf x y))))
   (hnone : ∀ w, Calls P (ρ.f 6) #[.slice none 0 0, .func (.func g) #[] #[]] w fun e w' => e = .returned (.tuple #[]) ∧ w' = w)
   (l : List α) (hl : l.length < 1000000) : a4V P (ρ.f 6) e (l.map dat) [.d (.clo g [])] ((G8 cf l).map dat) := by
 refine ⟨hE, fun w L og v vals hlok hgl hown hrc => ?_⟩; simp only [RCs] at hrc; obtain ⟨cv, us, rfl, hc1, rfl⟩ := hrc; simp only [RC] at hc1; obtain rfl := c2U hc1; obtain ⟨css0, sz0, g1, g2, g3, g4, g5⟩ := id hown; rcases g4.2 with ⟨hv, hn⟩ | ⟨b, cap, cur, hv, _⟩
 · have hl0 : l = [] := (by simpa using hn); subst hl0; subst hv; refine (hnone w).mono ?_; rintro e w' ⟨rfl, rfl⟩; have hnil : G8 cf [] = [] := Perm.eq_nil (Q5 hO []).1; exact ⟨L, rfl, F1.refl _ _, hlok, fun _ _ _ _ => Iff.rfl, by rw [hnil]; exact hown⟩
 · subst hv; obtain ⟨css, h1, h2, h3, h4, h5⟩ := hown.holds; have hcss := hF.only h1; subst hcss; have C0 := hown.blk (g := b) rfl; have hK : HoldsK enc k w b 0 l.toArray := by
     unfold HoldsK; rw [b1a enc k l hF.len hk0]; exact h3
   have hW : ∀ m (os : Array Obj) (dk : Array α), sortWorldK enc k w b 0 m dk os = I5 w b m (dk.toList.map enc).flatten.toArray os := fun m os dk => by
     unfold I5 sortWorldK putRowK; rw [← b1a enc k dk.toList hF.len hk0]
   have hcmp : CmpLays P g #[] enc k cf b 0 l.toArray.size w := fun m os dk hdk x y => by
     rw [hW]; generalize (dk.toList.map enc).flatten.toArray = F; have hlok2 : ∀ c q, L c q → c < (I5 w b m F os).heap.size := fun c q hq => by rw [a2X]; have := hlok c q hq; omega
     have hext : Ext w L (I5 w b m F os) L := fun c q hq => ⟨hq, fun v hv => by
       have hne : c ≠ b := fun e => by subst e; exact C0.2 q hq
       rw [H2 (a2m w b m F os (hlok c q hq) hne)]; exact hv⟩
     have hrep : ∀ z, RepV (I5 w b m F os) L (dat z) (.agg (enc z).toArray) := fun z => ⟨(hF.rep _ _ z _).2 (by simp [Value.cells]), by rw [hF.agg z]; rfl⟩
     have := (hcf x y).2 (I5 w b m F os) L none [.agg (enc x).toArray, .agg (enc y).toArray] hlok2 (hgl.mono hext) (by simp) (by
       simp only [RCs]; exact ⟨_, _, rfl, hrep x, _, _, rfl, hrep y, rfl⟩)
     refine Calls.mono this ?_; rintro e w' ⟨v, L', og', rfl, hgr, _, _, _, hv⟩; obtain rfl := RepV.int_inv (show RepV w' L' (.int .i64 (cf x y)) v from hv); rw [noB_eq] at hgr; exact ⟨rfl, b1E hgr⟩
   have eg : ∀ args w, (callFunc g args).run P w = .ok (.enter g args) w := (hcf default default).1; have h := AnyQ.slices_SortFunc_eq L6 k aE zE enc hF.len hF.one cf hO g #[] b 0 cap l.toArray w eg hcmp hK h4 (by simp; omega); simp only [size_toArray] at h; rw [length_map]; refine h.mono ?_; rintro e' w' ⟨rfl, n, os, rfl⟩; have hp := (Q5 hO l).1; have hlen : (G8 cf l).length = l.length := hp.length_eq; have hs := hown.sorted hlok (hF.reps w L (G8 cf l)) (by simp [hlen]) (fun sz hsz c hc => by
     obtain ⟨s, _, rfl⟩ := mem_map.1 hc; rw [he] at hsz; rw [hF.len]; simpa using hsz) n os (F := ((G8 cf l).map enc).flatten.toArray) rfl
   rw [length_map] at hs; rw [hW]; have e2 : (pdq (ltOf cf) l.toArray 0 l.length (Lib.bitLen l.length) true true).toList = G8 cf l := rfl; rw [e2]; refine ⟨L, rfl, ?_, hs.2.2, fun _ _ _ _ => Iff.rfl, hs.1⟩; rw [C0.1]; exact hs.2.1
structure a9h {α : Type} (dat : α → D) (enc : α → Value) : Prop where
 agg : ∀ x, (dat x).isAgg = false
 vagg : ∀ x, I6 (enc x) = false
 rep : ∀ w L x cs, Rep w L (dat x) cs ↔ cs = [enc x]
 one : ∀ x, (enc x).oneCell' = true
theorem a9h.reps {α : Type} {dat : α → D} {enc : α → Value} (h : a9h dat enc) (w : World) (L : Nat → Nat → Prop) : ∀ (l : List α), A5 w L (l.map dat) (l.map fun x => [enc x])
 | [] => by simp [A5]
 | s :: l => by
   simp only [map_cons, A5]; exact ⟨_, _, rfl, (h.rep w L s _).2 rfl, h.reps w L l⟩
theorem a9h.only {α : Type} {dat : α → D} {enc : α → Value} (h : a9h dat enc) {w : World} {L : Nat → Nat → Prop} : ∀ {l : List α} {css : List (List Value)}, A5 w L (l.map dat) css → css = l.map fun x => [enc x]
 | [], css, hr => by simpa [A5] using hr
 | s :: l, css, hr => by
   simp only [map_cons, A5] at hr; obtain ⟨c, cs, rfl, h1, h2⟩ := hr; rw [(h.rep w L s c).1 h1, h.only h2]; rfl
theorem a8M {α : Type} (enc : α → Value) (l : List α) : (l.map fun x => [enc x]).flatten = l.map enc := by
 induction l with
 | nil => rfl
 | cons x l ih => simp [ih]
theorem c0F : a9h D.str (fun s => Value.string ⟨s.toArray⟩) where
 agg _ := rfl
 vagg _ := rfl
 rep w L x cs := by simp [Rep]
 one x := by simp [Value.oneCell']
theorem b9M {P : Program} {ρ : Go.Shelf.Ren} (L6 : SlLaysF.n6 P ρ) {α : Type} [Inhabited α]
   (e : TypeId) (he : (P.info? (ety e)).map (·.size) = some 1) (hE : Enters P (ρ.f 6))
   (dat : α → D) (enc : α → Value) (hF : a9h dat enc) (cf : α → α → Int) (hO : SWO (ltOf cf)) (g : FuncId) (caps : List D) (hc : ∀ c ∈ caps, c.isAgg = false)
   (hcf : ∀ x y, Ctr P g ([.d (dat x), .d (dat y)] ++ caps.map .d) (.d (.int .i64 (cf x y))))
   (hnone : ∀ w cb, Calls P (ρ.f 6) #[.slice none 0 0, .func (.func g) #[] cb] w fun e w' => e = .returned (.tuple #[]) ∧ w' = w)
   (l : List α) (hl : l.length < 1000000) : a4V P (ρ.f 6) e (l.map dat) [.d (.clo g caps)] ((G8 cf l).map dat) := by
 refine ⟨hE, fun w L og v vals hlok hgl hown hrc => ?_⟩; simp only [RCs] at hrc; obtain ⟨cv, us, rfl, hc1, rfl⟩ := hrc; simp only [RC] at hc1; obtain ⟨ccs, hcc, rfl⟩ := a0B hc1; obtain ⟨css0, sz0, g1, g2, g3, g4, g5⟩ := id hown; rcases g4.2 with ⟨hv, hn⟩ | ⟨b, cap, cur, hv, _⟩
 · have hl0 : l = [] := (by simpa using hn); subst hl0; subst hv; refine (hnone w ccs.flatten.toArray).mono ?_; rintro e w' ⟨rfl, rfl⟩; have hnil : G8 cf [] = [] := Perm.eq_nil (Q5 hO []).1; exact ⟨L, rfl, F1.refl _ _, hlok, fun _ _ _ _ => Iff.rfl, by rw [hnil]; exact hown⟩
 · subst hv; obtain ⟨css, h1, h2, h3, h4, h5⟩ := hown.holds; have hcss := hF.only h1; subst hcss; have C0 := hown.blk (g := b) rfl; have hH : Holds enc w b 0 l.toArray := fun j hj => by
     have h3' := h3 j (by rw [a8M]; simpa using hj); rw [a8M] at h3'; have : (l.map enc).toArray[j]! = enc l.toArray[j]! := by
       have hj' : j < l.length := (by simpa using hj); rw [getElem!_pos _ j (by simpa using hj'), getElem!_pos _ j (by simpa using hj')]; simp
     rw [this] at h3'; exact h3'
   have hW : ∀ m (os : Array Obj) (dk : Array α), sortWorld enc w b 0 m dk os = I5 w b m (dk.map enc) os := fun m os dk => by
     unfold I5 sortWorld; rw [a7n]
   have hcmp : CmpLays1 P g ccs.flatten.toArray enc cf b 0 l.toArray.size w := fun m os dk hdk x y => by
     rw [hW]; generalize dk.map enc = F; have hlok2 : ∀ c q, L c q → c < (I5 w b m F os).heap.size := fun c q hq => by rw [a2X]; have := hlok c q hq; omega
     have hext : Ext w L (I5 w b m F os) L := fun c q hq => ⟨hq, fun v hv => by
       have hne : c ≠ b := fun e => by subst e; exact C0.2 q hq
       rw [H2 (a2m w b m F os (hlok c q hq) hne)]; exact hv⟩
     have hrep : ∀ z, RepV (I5 w b m F os) L (dat z) (enc z) := fun z => RepV.of_cell ((hF.rep _ _ z _).2 rfl) (hF.agg z) (hF.vagg z)
     have := (hcf x y).2 (I5 w b m F os) L none ([enc x, enc y] ++ ccs.flatten) hlok2 (hgl.mono hext) (by simp) (RCs.append (by
       simp only [RCs]; exact ⟨_, _, rfl, hrep x, _, _, rfl, hrep y, rfl⟩) (a0N (A5.mono hext _ _ hcc) hc none))
     have hargs : (#[enc x, enc y] ++ ccs.flatten.toArray : Array Value) = ([enc x, enc y] ++ ccs.flatten).toArray := by apply Array.ext'; simp
     rw [hargs]; refine Calls.mono this ?_; rintro e w' ⟨v, L', og', rfl, hgr, _, _, _, hv⟩; obtain rfl := RepV.int_inv (show RepV w' L' (.int .i64 (cf x y)) v from hv); rw [noB_eq] at hgr; exact ⟨rfl, b1E hgr⟩
   have eg : ∀ args w, (callFunc g args).run P w = .ok (.enter g args) w := (hcf default default).1; have h := Any.slices_SortFunc_eq L6 enc (fun x => hF.one x) cf hO g ccs.flatten.toArray b 0 cap l.toArray w eg hcmp hH h4 (by simp; omega); simp only [size_toArray] at h; rw [length_map]; refine h.mono ?_; rintro e' w' ⟨rfl, n, os, rfl⟩; have hp := (Q5 hO l).1; have hlen : (G8 cf l).length = l.length := hp.length_eq; have hs := hown.sorted hlok (hF.reps w L (G8 cf l)) (by simp [hlen]) (fun sz hsz c hc => by
     obtain ⟨s, _, rfl⟩ := mem_map.1 hc; rw [he] at hsz; simpa using hsz) n os (F := ((G8 cf l).map enc).toArray) (by rw [a8M])
   rw [length_map] at hs; rw [hW]; have e2 : (pdq (ltOf cf) l.toArray 0 l.length (Lib.bitLen l.length) true true).map enc = ((G8 cf l).map enc).toArray := by
     apply Array.ext'
     simp [G8]
   rw [e2]; refine ⟨L, rfl, ?_, hs.2.2, fun _ _ _ _ => Iff.rfl, hs.1⟩; rw [C0.1]; exact hs.2.1
end Go.Vw
namespace Go.Vw
open Go.RowKit Go.ChangeShapes Go.WideShapes
inductive Sh where
 | bool
 | int (k : IntKind)
 | str
 | sl (s : Sh)
 | agg (l : List Sh)
mutual
def Sh.okB (P : Program) : Sh → TypeId → Bool
 | .bool, t => match P.underlying t with
   | some .bool => true
   | _ => false
 | .int k, t => match P.underlying t with
   | some (.int k') => decide (k' = k)
   | _ => false
 | .str, t => match P.underlying t with
   | some .string => true
   | _ => false
 | .sl s, t => match P.underlying t with
   | some (.slice e) => Sh.okB P s e
   | _ => false
 | .agg l, t => match P.underlying t with
   | some (.struct fs) => Sh.okBs P l fs.toList
   | _ => false
def Sh.okBs (P : Program) : List Sh → List Field → Bool
 | [], fs => fs.isEmpty
 | s :: l, fs => match fs with
   | f :: fs => Sh.okB P s f.type && Sh.okBs P l fs
   | [] => false
end
mutual
def Sh.Fits : Sh → D → Prop
 | .bool, d => ∃ b, d = .bool b
 | .int k, d => ∃ n, d = .int k n ∧ (Lit.int k n).wf = true
 | .str, d => ∃ s : Str, d = .str s ∧ length s ≤ maxLen
 | .sl s, d => ∃ ds, d = .sl ds ∧ ds.length ≤ maxLen ∧ ∀ x ∈ ds, Sh.Fits s x
 | .agg l, d => ∃ ds, d = .agg ds ∧ Sh.FitsL l ds
def Sh.FitsL : List Sh → List D → Prop
 | [], ds => ds = []
 | s :: l, ds => ∃ x xs, ds = x :: xs ∧ Sh.Fits s x ∧ Sh.FitsL l xs
end
mutual
def toD {H : Type} : DataW H → D
 | .lit (.bool b) => .bool b
 | .lit (.int k n) => .int k n
 | .lit (.string s) => .str s
 | .lit _ => .nilp
 | .nil => .sl []
 | .slice e _ => .sl (a6o e)
 | .agg p => .agg (a6o p)
 | .ptr d => .ref (toD d)
 | _ => .nilp
def a6o {H : Type} : List (DataW H) → List D
 | [] => []
 | d :: l => toD d :: a6o l
end
theorem a4T {H : Type} : ∀ (l : List (DataW H)), a6o l = l.map toD
 | [] => by simp [a6o]
 | d :: l => by simp [a6o, a4T l]
mutual
def D.bulk : D → Nat
 | .str s => length s + 1
 | .sl ds => D.bulks ds + 1
 | .agg ds => D.bulks ds + 1
 | .ref d => D.bulk d + 1
 | _ => 1
def D.bulks : List D → Nat
 | [] => 0
 | d :: ds => D.bulk d + D.bulks ds
end
section
variable {H : Type} {u : DataW H → Nat} {ua : List (DataW H) → Nat}
mutual
theorem b8d (h1 : ∀ x : DataW H, 1 ≤ u x) (h2 : ∀ s, u (.lit (.string s)) = s.length + 1) (h3 : ∀ e r, u (.slice e r) = ua e + ua r + 1) (h4 : ∀ p, u (.agg p) = ua p + 1) (h5 : ∀ d, u (.ptr d) = u d + 1)
   (h6 : ua [] = 0) (h7 : ∀ d l, ua (d :: l) = u d + ua l) : ∀ d : DataW H, (toD d).bulk ≤ u d
 | .lit (.bool b) => by simpa [toD, D.bulk] using h1 _
 | .lit (.int k n) => by simpa [toD, D.bulk] using h1 _
 | .lit (.string s) => by simp [toD, D.bulk, h2]
 | .lit (.float _ _) => by simpa [toD, D.bulk] using h1 _
 | .lit .nil => by simpa [toD, D.bulk] using h1 _
 | .nil => by simpa [toD, D.bulk, D.bulks] using h1 _
 | .slice e r => by
   have := b0q h1 h2 h3 h4 h5 h6 h7 e; simp only [toD, D.bulk, h3]; omega
 | .agg p => by
   have := b0q h1 h2 h3 h4 h5 h6 h7 p; simp only [toD, D.bulk, h4]; omega
 | .ptr d => by
   have := b8d h1 h2 h3 h4 h5 h6 h7 d; simp only [toD, D.bulk, h5]; omega
 | .iface _ _ => by simpa [toD, D.bulk] using h1 _
 | .map _ => by simpa [toD, D.bulk] using h1 _
 | .held _ => by simpa [toD, D.bulk] using h1 _
theorem b0q (h1 : ∀ x : DataW H, 1 ≤ u x) (h2 : ∀ s, u (.lit (.string s)) = s.length + 1) (h3 : ∀ e r, u (.slice e r) = ua e + ua r + 1) (h4 : ∀ p, u (.agg p) = ua p + 1) (h5 : ∀ d, u (.ptr d) = u d + 1)
   (h6 : ua [] = 0) (h7 : ∀ d l, ua (d :: l) = u d + ua l) : ∀ l : List (DataW H), D.bulks (a6o l) ≤ ua l
 | [] => by simp [a6o, D.bulks]
 | d :: l => by
   have := b8d h1 h2 h3 h4 h5 h6 h7 d; have := b0q h1 h2 h3 h4 h5 h6 h7 l; simp only [a6o, D.bulks, h7]; omega
end
end
def old (w : World) : Nat → Nat → Prop := fun b _ => b < w.heap.size
theorem b5y {α β : Type} {f : α → Option β} : ∀ {l : List α} {r : List β}, l.mapM f = some r → r.length = l.length ∧ ∀ (i : Nat) (x : α), l[i]? = some x → ∃ y, r[i]? = some y ∧ f x = some y
 | [], r, h => by simp at h; subst h; simp
 | a :: l, r, h => by
   simp only [mapM_cons, bind, Option.bind_eq_some_iff, pure, Option.some.injEq] at h; obtain ⟨y, hy, ys, hys, rfl⟩ := h; obtain ⟨h1, h2⟩ := b5y hys; refine ⟨by simp [h1], fun i x hi => ?_⟩; cases i with
   | zero => simp only [getElem?_cons_zero, Option.some.injEq] at hi; subst hi; exact ⟨y, rfl, hy⟩
   | succ i => simpa using h2 i x (by simpa using hi)
theorem a8l {w : World} {base : Nat} {a : Addr} {n : Nat} {cs : List Value} (h : w.cells? base a n = some cs) (hn : 0 < n) : a = ⟨a.block, a.off, none⟩ ∧ cs.length = n ∧ At w (old w) a.block a.off cs := by
 have hlt := World.cells?_block h hn; unfold World.cells? at h; split at h
 case isFalse => cases h
 obtain ⟨h1, h2⟩ := b5y h; simp only [length_range] at h1; have hsp : a.spot = none := by
   obtain ⟨v, _, hv⟩ := h2 0 0 (by simp [hn]); have e : a.add 0 = a := (by simp [Addr.add]); rw [e] at hv; cases hs : a.spot with
   | none => rfl
   | some k =>
     simp only [World.cell?] at hv; split at hv
     · simp [hs] at hv
     · cases hv
 have ha : a = ⟨a.block, a.off, none⟩ := by cases a; simp_all
 refine ⟨ha, h1, fun k v hk => ?_⟩; have hkn : k < n := by have := (List.getElem?_eq_some_iff.1 hk).1; omega
 obtain ⟨y, hy, hv⟩ := h2 k k (by simp [hkn]); have : y = v := Option.some.inj (hy.symm.trans hk); subst this; have e : a.add k = ⟨a.block, a.off + k, none⟩ := by
   unfold Addr.add; split
   · rename_i h0; subst h0; exact ha
   · rfl
 rw [e] at hv; exact ⟨hv, hlt⟩
theorem At.append {w : World} {L : Nat → Nat → Prop} {b o : Nat} {x y : List Value} (h : At w L b o x) (k : At w L b (o + x.length) y) : At w L b o (x ++ y) := by
 intro j v hj; by_cases hlt : j < x.length
 · rw [getElem?_append_left hlt] at hj; exact h j v hj
 · rw [getElem?_append_right (by omega)] at hj; have := k _ v hj; rw [show o + x.length + (j - x.length) = o + j by omega] at this; exact this
theorem At.row {w : World} {L : Nat → Nat → Prop} {b c : Nat} : ∀ {css : List (List Value)} {o : Nat}, (∀ (i : Nat) (x : List Value), css[i]? = some x → x.length = c ∧ At w L b (o + i * c) x) → At w L b o css.flatten
 | [], o, _ => by intro j v hj; simp at hj
 | x :: css, o, h => by
   have h0 := h 0 x rfl; simp only [Nat.zero_mul, Nat.add_zero] at h0; rw [flatten_cons]; refine h0.2.append (At.row (c := c) fun i y hy => ?_); have := h (i + 1) y (by simpa using hy); rw [h0.1]; rw [show o + (i + 1) * c = o + c + i * c by rw [Nat.add_mul]; omega] at this; exact this
theorem A5.of_get {w : World} {L : Nat → Nat → Prop} : ∀ {ds : List D} {css : List (List Value)}, css.length = ds.length → (∀ (i : Nat) (c : List Value) (d : D), css[i]? = some c → ds[i]? = some d → Rep w L d c) → A5 w L ds css
 | [], [], _, _ => by simp [A5]
 | d :: ds, c :: css, hl, h => by
   simp only [A5]; exact ⟨c, css, rfl, h 0 c d rfl rfl, A5.of_get (by simpa using hl) fun i c' d' h1 h2 => h (i + 1) c' d' (by simpa using h1) (by simpa using h2)⟩
theorem a9E (c : Field → Nat) (cs : List Value) : ∀ (fs : List Field) (o : Nat), (∀ j f, fs[j]? = some f → f.offset = o + ((fs.take j).map c).sum) → o + (fs.map c).sum = cs.length →
   (fs.map fun f => (cs.drop f.offset).take (c f)).flatten = cs.drop o
 | [], o, _, h => by
   simp only [map_nil, sum_nil, Nat.add_zero] at h; simp [drop_eq_nil_of_le (Nat.le_of_eq h.symm)]
 | f :: fs, o, h1, h2 => by
   have e := h1 0 f rfl; simp only [take_zero, map_nil, sum_nil, Nat.add_zero] at e; simp only [map_cons, sum_cons] at h2; rw [map_cons, flatten_cons, a9E c cs fs (o + c f) (fun j g hj => by
     have := h1 (j + 1) g (by simpa using hj); simp only [take_succ_cons, map_cons, sum_cons] at this; omega) (by omega), e]
   conv => rhs; rw [← take_append_drop (c f) (cs.drop o)]
   rw [drop_drop]
section
variable {H : Type} {enc : TypeId × Value → H} {P : Program} {w : World} {sp : Nat → Bool} {held : Bool} {T : TypeId → Prop}
mutual
theorem a7w (K : Kids P T) (hz : ∀ t e, T t → P.underlying t = some (.slice e) → 0 < P.cellsOf e) : ∀ (s : Sh) {n : Nat} {t : TypeId} {cs : List Value} {x : DataW H × List MemPlace}, T t → Sh.okB P s t = true →
   DataW.trod enc P w 0 sp held n t cs = some x → Rep w (old w) (toD x.1) cs ∧ Sh.Fits s (toD x.1)
 | .bool, n, t, cs, x, hT, hok, h => by
   simp only [Sh.okB] at hok; split at hok
   case h_2 => cases hok
   rename_i hu
   obtain ⟨b, rfl, rfl⟩ := DataW.trod_bool hu h; simp [toD, Rep, Sh.Fits]
 | .int k, n, t, cs, x, hT, hok, h => by
   simp only [Sh.okB] at hok; split at hok
   case h_2 => cases hok
   rename_i k' hu
   have hk : k' = k := (by simpa using hok); subst hk; obtain ⟨m, rfl, rfl, hw⟩ := DataW.trod_int hu h; simp [toD, Rep, Sh.Fits, hw]
 | .str, n, t, cs, x, hT, hok, h => by
   simp only [Sh.okB] at hok; split at hok
   case h_2 => cases hok
   rename_i hu
   obtain ⟨s, rfl, rfl, hw⟩ := DataW.trod_string hu h; refine ⟨by simp [toD, Rep], ?_⟩; simp only [toD, Sh.Fits]; exact ⟨_, rfl, by rw [Array.length_toList]; exact hw⟩
 | .sl s, n, t, cs, x, hT, hok, h => by
   simp only [Sh.okB] at hok; split at hok
   case h_2 => cases hok
   rename_i e hu
   have hTe := K.slice hT hu; have hpos := hz t e hT hu; rcases DataW.trod_slice hu h with ⟨rfl, rfl⟩ | ⟨a, len, cap, elems, rest, m, _, rfl, rfl, hb, hl, hm, hlen, hel, _, _⟩
   · refine ⟨?_, ?_⟩
     · simp only [toD, Rep]; exact ⟨none, 0, [], 0, rfl, rfl, by simp, by simp, fun h => absurd rfl h⟩
     · simp only [toD, Sh.Fits]; exact ⟨[], rfl, by simp, by simp⟩
   · have each : ∀ i (hi : i < elems.length), ∃ c, w.cells? 0 (a.add (i * P.cellsOf e)) (P.cellsOf e) = some c ∧ DataW.trod enc P w 0 sp held m e c = some elems[i] := fun i hi => by
       have := hel i (by omega); rw [getElem?_eq_getElem hi, Option.bind_eq_some_iff] at this; exact this
     have fit : ∀ i (hi : i < elems.length), ∃ c, w.cells? 0 (a.add (i * P.cellsOf e)) (P.cellsOf e) = some c ∧ Rep w (old w) (toD elems[i].1) c ∧ Sh.Fits s (toD elems[i].1) := fun i hi => by
       obtain ⟨c, h1, h2⟩ := each i hi; exact ⟨c, h1, a7w K hz s hTe hok h2⟩
     have hD : toD (H := H) (.slice (elems.map (·.1)) (rest.map (·.1))) = .sl (elems.map fun y => toD y.1) := by
       simp [toD, a4T, Function.comp_def]
     rw [hD]; refine ⟨?_, ?_⟩
     · simp only [Rep]; refine ⟨some a, cap, (List.range elems.length).map (fun i => (w.cells? 0 (a.add (i * P.cellsOf e)) (P.cellsOf e)).getD []), P.cellsOf e, by simp [hlen], ?_, ?_, by simp; omega, ?_⟩
       · refine A5.of_get (by simp) fun i c d h1 h2 => ?_
         have hi : i < elems.length := by have := (List.getElem?_eq_some_iff.1 h1).1; simpa using this
         obtain ⟨c', g1, g2, _⟩ := fit i hi; simp only [getElem?_map, getElem?_range hi, Option.map_some, Option.some.injEq, g1, Option.getD_some] at h1; simp only [getElem?_map, getElem?_eq_getElem hi, Option.map_some, Option.some.injEq] at h2; rw [← h1, ← h2]; exact g2
       · intro c hc; obtain ⟨i, hi, rfl⟩ := mem_map.1 hc; have hi : i < elems.length := (by simpa using hi); obtain ⟨c', g1, _⟩ := fit i hi; rw [g1]; exact (a8l g1 hpos).2.1
       · intro hne; have h0 : 0 < elems.length := by
           cases elems with
           | nil => exact absurd rfl hne
           | cons _ _ => simp
         obtain ⟨c0, g0, _⟩ := fit 0 h0; have ha := (a8l g0 hpos).1; have ha' : a.add (0 * P.cellsOf e) = a := (by simp [Addr.add]); rw [ha'] at ha; refine ⟨a.block, a.off, by rw [← ha], At.row (c := P.cellsOf e) fun i x hx => ?_⟩; have hi : i < elems.length := by have := (List.getElem?_eq_some_iff.1 hx).1; simpa using this
         obtain ⟨c', g1, _⟩ := fit i hi; simp only [getElem?_map, getElem?_range hi, Option.map_some, Option.some.injEq, g1, Option.getD_some] at hx; obtain ⟨_, g2, g3⟩ := a8l g1 hpos; rw [← hx]; refine ⟨g2, ?_⟩; have e1 : (a.add (i * P.cellsOf e)).block = a.block := by unfold Addr.add; split <;> rfl
         have e2 : (a.add (i * P.cellsOf e)).off = a.off + i * P.cellsOf e := by
           unfold Addr.add; split
           · rename_i h; rw [h]; rfl
           · rfl
         rw [e1, e2] at g3; exact g3
     · simp only [Sh.Fits]; refine ⟨_, rfl, by simp; omega, fun d hd => ?_⟩; obtain ⟨y, hy, rfl⟩ := mem_map.1 hd; obtain ⟨i, hi, rfl⟩ := mem_iff_getElem.1 hy; obtain ⟨_, _, _, g⟩ := fit i hi; exact g
 | .agg l, n, t, cs, x, hT, hok, h => by
   simp only [Sh.okB] at hok; split at hok
   case h_2 => cases hok
   rename_i fs hu
   obtain ⟨k1, k2, k3⟩ := K.struct hT hu; obtain ⟨xs, m, _, rfl, hcs, hxs, hf⟩ := DataW.trod_struct hu h; have := b3k K hz l (fs := fs.toList) (xs := xs) (g := fun f => (cs.drop f.offset).take (P.cellsOf f.type)) k1 hok (by simpa using hxs) (fun i f hi => hf i f (by simpa using hi)); have hD : toD (H := H) (.agg (xs.map (·.1))) = .agg (xs.map fun y => toD y.1) := by simp [toD, a4T, Function.comp_def]
   rw [hD]; refine ⟨?_, ?_⟩
   · simp only [Rep]; refine ⟨_, this.1, ?_⟩; rw [a9E (fun f => P.cellsOf f.type) cs fs.toList 0 (fun j f hj => by rw [k3 j f hj]; omega) (by rw [hcs, k2]; omega)]; simp
   · simp only [Sh.Fits]; exact ⟨_, rfl, this.2⟩
theorem b3k (K : Kids P T) (hz : ∀ t e, T t → P.underlying t = some (.slice e) → 0 < P.cellsOf e) : ∀ (l : List Sh) {n : Nat} {fs : List Field} {xs : List (DataW H × List MemPlace)} {g : Field → List Value},
   (∀ f ∈ fs, T f.type) → Sh.okBs P l fs = true → xs.length = fs.length → (∀ (i : Nat) (f : Field), fs[i]? = some f → DataW.trod enc P w 0 sp held n f.type (g f) = xs[i]?) →
   A5 w (old w) (xs.map fun y => toD y.1) (fs.map g) ∧ Sh.FitsL l (xs.map fun y => toD y.1)
 | [], n, fs, xs, g, hT, hok, hl, hf => by
   simp only [Sh.okBs, isEmpty_iff] at hok; subst hok; have : xs = [] := (by simpa using hl); subst this; simp [A5, Sh.FitsL]
 | s :: l, n, fs, xs, g, hT, hok, hl, hf => by
   cases fs with
   | nil => simp [Sh.okBs] at hok
   | cons f fs =>
     simp only [Sh.okBs, Bool.and_eq_true] at hok; cases xs with
     | nil => simp at hl
     | cons x xs =>
       have h0 := hf 0 f rfl; simp only [getElem?_cons_zero] at h0; have a := a7w K hz s (hT f (by simp)) hok.1 h0; have b := b3k K hz l (fun f' hf' => hT f' (by simp [hf'])) hok.2 (by simpa using hl) (fun i f' hi => by simpa using hf (i + 1) f' (by simpa using hi)); simp only [map_cons, A5, Sh.FitsL]; exact ⟨⟨_, _, rfl, a.1, b.1⟩, _, _, rfl, a.2, b.2⟩
end
theorem c4E {P : Program} : ∀ {s : Sh} {t : TypeId} {w : World} {base : Nat} {v : Value} {d : D}, Sh.okB P s t = true → Sh.Fits s d → Value.okWide P w .any base t v → I6 v = d.isAgg
 | .bool, t, w, base, v, d, hok, hf, hv => by
   simp only [Sh.okB] at hok; split at hok
   case h_2 => cases hok
   rename_i hu
   obtain ⟨b, rfl⟩ := okWide_bool hu hv; simp only [Sh.Fits] at hf; obtain ⟨b, rfl⟩ := hf; rfl
 | .int k, t, w, base, v, d, hok, hf, hv => by
   simp only [Sh.okB] at hok; split at hok
   case h_2 => cases hok
   rename_i hu
   obtain ⟨b, rfl⟩ := okWide_int hu hv; simp only [Sh.Fits] at hf; obtain ⟨b, rfl, _⟩ := hf; rfl
 | .str, t, w, base, v, d, hok, hf, hv => by
   simp only [Sh.okB] at hok; split at hok
   case h_2 => cases hok
   rename_i hu
   obtain ⟨b, rfl⟩ := okWide_string hu hv; simp only [Sh.Fits] at hf; obtain ⟨b, rfl, _⟩ := hf; rfl
 | .sl s, t, w, base, v, d, hok, hf, hv => by
   simp only [Sh.okB] at hok; split at hok
   case h_2 => cases hok
   rename_i hu
   obtain ⟨a, b, c, rfl⟩ := okWide_slice hu hv; simp only [Sh.Fits] at hf; obtain ⟨b, rfl, _⟩ := hf; rfl
 | .agg l, t, w, base, v, d, hok, hf, hv => by
   simp only [Sh.okB] at hok; split at hok
   case h_2 => cases hok
   rename_i hu
   obtain ⟨a, rfl, _⟩ := okWide_struct hu hv; simp only [Sh.Fits] at hf; obtain ⟨b, rfl, _⟩ := hf; rfl
def a7q (P : Program) : List Sh → List TypeId → Bool
 | [], [] => true
 | s :: l, t :: ts => Sh.okB P s t && a7q P l ts
 | _, _ => false
theorem open_args (K : Kids P T) (hz : ∀ t e, T t → P.underlying t = some (.slice e) → 0 < P.cellsOf e) {base : Nat} : ∀ {l : List Sh} {ts : List TypeId} {vs : List Value} {ds : List (DataW H)} {p : List MemPlace},
   a7q P l ts = true → (∀ t ∈ ts, T t) → (∀ (j : Nat) t v, ts[j]? = some t → vs[j]? = some v → Value.okWide P w .any base t v) → DataW.TrodAll enc P w 0 sp held ts vs ds p →
   RCs P w (old w) none ((ds.map toD).map AV.d) vs ∧ Sh.FitsL l (ds.map toD)
 | [], [], vs, ds, p, _, _, _, h => by
   obtain ⟨rfl, rfl, rfl⟩ := trodAll_nil h; simp [RCs, Sh.FitsL]
 | [], _ :: _, _, _, _, h, _, _, _ => by simp [a7q] at h
 | _ :: _, [], _, _, _, h, _, _, _ => by simp [a7q] at h
 | s :: l, t :: ts, vs, ds, p, hok, hT, hv, h => by
   simp only [a7q, Bool.and_eq_true] at hok; obtain ⟨v, vs1, d, ds1, a, b, rfl, rfl, rfl, ⟨n, h1⟩, h2⟩ := trodAll_cons h; have g1 := a7w K hz s (hT t (by simp)) hok.1 h1; have g2 := open_args K hz hok.2 (fun t' ht' => hT t' (by simp [ht'])) (fun j t' v' h1 h2 => hv (j + 1) t' v' (by simpa using h1) (by simpa using h2)) h2; have g3 := c4E hok.1 g1.2 (hv 0 t v rfl rfl); simp only [map_cons, RCs, Sh.FitsL]; exact ⟨⟨v, vs1, rfl, by simp only [RC]; exact ⟨g1.1, g3⟩, g2.1⟩, _, _, rfl, g1.2, g2.2⟩
end
theorem b5w {P : Program} {w : World} : ∀ {l : List (String × DataW Unit)} {ps : List MemPlace} {n : String} {d : DataW Unit}, DataW.LaidVars P w l ps → (n, d) ∈ l →
   ∃ g t cs fuel p, P.globalNamed n = some g ∧ (P.globals[g]?).map (·.type) = some t ∧ w.var? P n = some cs ∧ DataW.trod (fun _ => ()) P w 0 (fun _ => true) false fuel t cs.toList = some (d, p)
 | [], _, _, _, _, hm => by simp at hm
 | (m, e) :: r, ps, n, d, h, hm => by
   obtain ⟨g, t, cs, fuel, p, q, h1, h2, h3, h4, h5, _⟩ := h; rcases mem_cons.1 hm with hm | hm
   · simp only [Prod.mk.injEq] at hm; obtain ⟨rfl, rfl⟩ := hm; exact ⟨g, t, cs, fuel, p, h1, h2, h3, h4⟩
   · exact b5w h5 hm
theorem gl_of_laid {P : Program} {w : World} {T : TypeId → Prop} (K : Kids P T) (hz : ∀ t e, T t → P.underlying t = some (.slice e) → 0 < P.cellsOf e) {laid : List (String × DataW Unit)} (hm : laidMet P laid w) {dw : DataW Unit} {nm : String} {D0 : D} {sh : Sh}
   (hmem : (nm, dw) ∈ laid) (hd : toD dw = D0) {g t : Nat} (h1 : P.globalNamed nm = some g) (h2 : (P.globals[g]?).map (·.type) = some t) (hT : T t) (hok : Sh.okB P sh t = true) (hg : ∀ g' d, a7S P g' = some d → g' = g ∧ d = D0) : GL P w (old w) := by
 obtain ⟨ps, hv, _⟩ := hm; obtain ⟨g', t', cs, fuel, p, q1, q2, q3, q4⟩ := b5w hv hmem; rw [h1] at q1; obtain rfl : g = g' := Option.some.inj q1; rw [h2] at q2; obtain rfl : t = t' := Option.some.inj q2; intro g2 d hgd; obtain ⟨rfl, rfl⟩ := hg g2 d hgd; obtain ⟨hr, _⟩ := a7w (enc := fun _ => ()) K hz sh hT hok q4; rw [show toD (dw, p).1 = _ from hd] at hr; refine ⟨_, hr, fun k v hk => ?_⟩; simp only [World.var?, h1, Option.bind_some] at q3; have hh : ∃ ty fr, w.heap[g2]? = some (.cells cs ty fr) := by
   revert q3
   cases w.heap[g2]? with
   | none => simp
   | some o => cases o with
     | cells c ty fr => intro q; simp only [Option.some.injEq] at q; subst q; exact ⟨_, _, rfl⟩
     | _ => simp
 obtain ⟨ty, fr, hh⟩ := hh; refine ⟨?_, (Array.getElem?_eq_some_iff.1 hh).1⟩; simp only [World.cell?, hh]; simpa using hk
mutual
def D.lim (R : Nat) : D → Prop
 | .str s => length s ≤ R
 | .sl ds => ds.length ≤ R ∧ D.lims R ds
 | .agg ds => D.lims R ds
 | .ref d => D.lim R d
 | _ => True
def D.lims (R : Nat) : List D → Prop
 | [] => True
 | d :: ds => D.lim R d ∧ D.lims R ds
end
theorem D.lims_mem {R : Nat} : ∀ {l : List D}, D.lims R l ↔ ∀ d ∈ l, D.lim R d
 | [] => by simp [D.lims]
 | d :: l => by simp [D.lims, D.lims_mem (l := l)]
section
variable {H : Type} {enc : TypeId × Value → H} {P : Program} {w : World} {sp : Nat → Bool} {held : Bool} {T : TypeId → Prop} {R : Nat}
theorem a5W {e : TypeId} : ∀ {l : List (DataW H)} {d : DataW H} {y : Nat}, d ∈ l → y ∈ d.weights P e → y ∈ DataW.weightsAll P e l
 | d' :: l, d, y, h, hy => by
   simp only [DataW.weightsAll, mem_append]; rcases mem_cons.1 h with rfl | h
   · exact .inl hy
   · exact .inr (a5W h hy)
mutual
theorem b2F (K : Kids P T) (hb : ∀ t e, T t → P.underlying t = some (.slice e) → 0 < P.bytesOf e) : ∀ (s : Sh) {n : Nat} {t : TypeId} {cs : List Value} {x : DataW H × List MemPlace}, T t → Sh.okB P s t = true →
   DataW.trod enc P w 0 sp held n t cs = some x → (∀ y ∈ x.1.weights P t, y ≤ R) → D.lim R (toD x.1)
 | .bool, n, t, cs, x, hT, hok, h, hw => by
   simp only [Sh.okB] at hok; split at hok
   case h_2 => cases hok
   rename_i hu
   obtain ⟨b, rfl, rfl⟩ := DataW.trod_bool hu h; simp [toD, D.lim]
 | .int k, n, t, cs, x, hT, hok, h, hw => by
   simp only [Sh.okB] at hok; split at hok
   case h_2 => cases hok
   rename_i k' hu
   obtain ⟨m, rfl, rfl, _⟩ := DataW.trod_int hu h; simp [toD, D.lim]
 | .str, n, t, cs, x, hT, hok, h, hw => by
   simp only [Sh.okB] at hok; split at hok
   case h_2 => cases hok
   rename_i hu
   obtain ⟨s, rfl, rfl, _⟩ := DataW.trod_string hu h; simp only [toD, D.lim]; exact hw _ (by simp [DataW.weights])
 | .sl s, n, t, cs, x, hT, hok, h, hw => by
   simp only [Sh.okB] at hok; split at hok
   case h_2 => cases hok
   rename_i e hu
   have hTe := K.slice hT hu; rcases DataW.trod_slice hu h with ⟨rfl, rfl⟩ | ⟨a, len, cap, elems, rest, m, _, rfl, rfl, _, hl, hm, hlen, hel, _, _⟩
   · simp [toD, D.lim, D.lims]
   · have hD : toD (H := H) (.slice (elems.map (·.1)) (rest.map (·.1))) = .sl (elems.map fun y => toD y.1) := by
       simp [toD, a4T, Function.comp_def]
     simp only [DataW.weights, hu, mem_cons, mem_append] at hw; rw [hD]; simp only [D.lim, D.lims_mem]; refine ⟨?_, fun d hd => ?_⟩
     · have h1 := hw _ (.inl rfl); have h2 := hb t e hT hu; have h3 : elems.length * 1 ≤ (elems.length + rest.length) * P.bytesOf e := Nat.mul_le_mul (by omega) h2; simp only [length_map] at h1 ⊢; omega
     · obtain ⟨y, hy, rfl⟩ := mem_map.1 hd; obtain ⟨i, hi, rfl⟩ := mem_iff_getElem.1 hy; have h1 := hel i (by omega); rw [getElem?_eq_getElem hi, Option.bind_eq_some_iff] at h1; obtain ⟨c, _, h2⟩ := h1; exact b2F K hb s hTe hok h2 fun z hz => hw z (.inr (.inl (a5W (mem_map.2 ⟨_, hy, rfl⟩) hz)))
 | .agg l, n, t, cs, x, hT, hok, h, hw => by
   simp only [Sh.okB] at hok; split at hok
   case h_2 => cases hok
   rename_i fs hu
   obtain ⟨k1, _, _⟩ := K.struct hT hu; obtain ⟨xs, m, _, rfl, _, hxs, hf⟩ := DataW.trod_struct hu h; have hD : toD (H := H) (.agg (xs.map (·.1))) = .agg (xs.map fun y => toD y.1) := by simp [toD, a4T, Function.comp_def]
   simp only [DataW.weights, hu] at hw; rw [hD]; simp only [D.lim]; exact b6i K hb l (fs := fs.toList) (xs := xs) (g := fun f => (cs.drop f.offset).take (P.cellsOf f.type)) k1 hok (by simpa using hxs) (fun i f hi => hf i f (by simpa using hi)) hw
theorem b6i (K : Kids P T) (hb : ∀ t e, T t → P.underlying t = some (.slice e) → 0 < P.bytesOf e) : ∀ (l : List Sh) {n : Nat} {fs : List Field} {xs : List (DataW H × List MemPlace)} {g : Field → List Value},
   (∀ f ∈ fs, T f.type) → Sh.okBs P l fs = true → xs.length = fs.length → (∀ (i : Nat) (f : Field), fs[i]? = some f → DataW.trod enc P w 0 sp held n f.type (g f) = xs[i]?) →
   (∀ y ∈ DataW.weightsEach P (fs.map (·.type)) (xs.map (·.1)), y ≤ R) → D.lims R (xs.map fun y => toD y.1)
 | [], n, fs, xs, g, hT, hok, hl, hf, hw => by
   simp only [Sh.okBs, isEmpty_iff] at hok; subst hok; have : xs = [] := (by simpa using hl); subst this; simp [D.lims]
 | s :: l, n, fs, xs, g, hT, hok, hl, hf, hw => by
   cases fs with
   | nil => simp [Sh.okBs] at hok
   | cons f fs =>
     simp only [Sh.okBs, Bool.and_eq_true] at hok; cases xs with
     | nil => simp at hl
     | cons x xs =>
       have h0 := hf 0 f rfl; simp only [getElem?_cons_zero] at h0; simp only [map_cons, DataW.weightsEach, mem_append] at hw; simp only [map_cons, D.lims]; exact ⟨b2F K hb s (hT f (by simp)) hok.1 h0 fun y hy => hw y (.inl hy), b6i K hb l (fun f' hf' => hT f' (by simp [hf'])) hok.2 (by simpa using hl) (fun i f' hi => by simpa using hf (i + 1) f' (by simpa using hi)) fun y hy => hw y (.inr hy)⟩
end
theorem lim_args (K : Kids P T) (hb : ∀ t e, T t → P.underlying t = some (.slice e) → 0 < P.bytesOf e) : ∀ {l : List Sh} {ts : List TypeId} {vs : List Value} {ds : List (DataW H)} {p : List MemPlace},
   a7q P l ts = true → (∀ t ∈ ts, T t) → DataW.TrodAll enc P w 0 sp held ts vs ds p → (∀ y ∈ DataW.weightsEach P ts ds, y ≤ R) → D.lims R (ds.map toD)
 | [], [], vs, ds, p, _, _, h, _ => by
   obtain ⟨rfl, rfl, rfl⟩ := trodAll_nil h; simp [D.lims]
 | [], _ :: _, _, _, _, h, _, _, _ => by simp [a7q] at h
 | _ :: _, [], _, _, _, h, _, _, _ => by simp [a7q] at h
 | s :: l, t :: ts, vs, ds, p, hok, hT, h, hw => by
   simp only [a7q, Bool.and_eq_true] at hok; obtain ⟨v, vs1, d, ds1, a, b, rfl, rfl, rfl, ⟨n, h1⟩, h2⟩ := trodAll_cons h; simp only [DataW.weightsEach, mem_append] at hw; simp only [map_cons, D.lims]; exact ⟨b2F K hb s (hT t (by simp)) hok.1 h1 fun y hy => hw y (.inl hy), lim_args K hb hok.2 (fun t' ht' => hT t' (by simp [ht'])) h2 fun y hy => hw y (.inr hy)⟩
end
theorem bytes_full_of (P : Program) (h : ((List.range P.types.size).all fun t => match P.underlying t with | some (.slice e) => decide (0 < P.bytesOf e) | _ => true) = true) :
   ∀ t e, t < P.types.size → P.underlying t = some (.slice e) → 0 < P.bytesOf e := by
 intro t e hl ht; have := all_eq_true.1 h t (mem_range.2 hl); rw [ht] at this; simpa using this
theorem law_post {H : Type} {enc : TypeId × Value → H} {P : Program} {fn : Func} {s : ChangeSpec} {apart fresh handsOn D5 : Bool} {W W' : World} {args : Array Value} {ds gs : List (DataW H)} {before : List MemPlace} {tb : TypeId}
   (K : Kids P (· < P.types.size)) (hz : ∀ t e, t < P.types.size → P.underlying t = some (.slice e) → 0 < P.cellsOf e) (hts : ∀ t ∈ fn.params.toList, t < P.types.size)
   (hvars : s.vars = []) (hs : ds.length = fn.params.size → s.fn H ds = { results := [.lit (.bool true)], args := ds }) (hres : fn.resultTypes = #[tb]) (htb : P.underlying tb = some .bool)
   (hW : DataW.Whole enc P fn.params.toList s.vars apart W args.toList ds gs before) (hg : F1 W W' noB) :
   s.post enc P fn apart fresh handsOn D5 W args (.bool true) W' := by
 have hold : ∀ p ∈ before, (fun b => decide (b < W.heap.size)) p.block = true := fun p hp => by simpa using hW.lt p hp
 have hlt := hW.lt; obtain ⟨pa, pv, hA, hV, rfl, hz', hn⟩ := id hW; rw [hvars] at hV; obtain ⟨rfl, rfl⟩ := trodVars_none hV; simp only [append_nil] at *; have hlen : ds.length = fn.params.size := by
   have : ∀ {ts : List TypeId} {vs : List Value} {ds : List (DataW H)} {p : List MemPlace}, DataW.TrodAll enc P W 0 (fun _ => true) true ts vs ds p → ds.length = ts.length := by
     intro ts
     induction ts with
     | nil => intro vs ds p h; obtain ⟨_, rfl, _⟩ := trodAll_nil h; rfl
     | cons t ts ih => intro vs ds p h; obtain ⟨v, vs1, d, ds1, a, b, rfl, rfl, rfl, _, h2⟩ := trodAll_cons h; simp [ih h2]
   simpa using this hA
 have hfn := hs hlen; have hcell : ∀ b o, b < W.heap.size → W'.cell? ⟨b, o, none⟩ = W.cell? ⟨b, o, none⟩ := fun b o hb => by
   simp only [World.cell?, hg.block b hb (fun h => h)]
 have carry : ∀ {sp : Nat → Bool} {ts : List TypeId} {vs : List Value} {ds : List (DataW H)} {p : List MemPlace}, (∀ x ∈ p, x.block < W.heap.size) → DataW.TrodAll enc P W 0 sp true ts vs ds p → DataW.TrodAll enc P W' 0 sp true ts vs ds p := by
   intro sp ts
   induction ts with
   | nil => intro vs ds p _ h; obtain ⟨rfl, rfl, rfl⟩ := trodAll_nil h; rfl
   | cons t ts ih =>
     intro vs ds p hp h; obtain ⟨v, vs1, d, ds1, a, b, rfl, rfl, rfl, ⟨n, h1⟩, h2⟩ := trodAll_cons h; refine ⟨a, b, ⟨n, DataW.trod_carry n _ _ _ h1 fun x hx => ?_⟩, ih (fun x hx => hp x (by simp [hx])) h2, rfl⟩; have hb := hp x (by simp [hx]); cases x with
     | cell b o => exact hcell b o hb
     | map b => exact hg.block b hb (fun h => h)
 have hres' : ∀ (b : Nat) (sp : Nat → Bool) (hd : Bool), DataW.TrodAll enc P W' b sp hd fn.resultTypes.toList ((Value.bool true).resultList fn.resultTypes.size) (s.fn H ds).results [] := fun b sp hd => by
   rw [hfn, hres]; exact trodAll_mk1 (shut_bool htb true)
 have hargs : ∀ sp : Nat → Bool, (∀ p ∈ pa, sp p.block = true) → DataW.TrodAll enc P W' 0 sp true fn.params.toList args.toList (s.fn H ds).args pa := fun sp hsp => by
   rw [hfn]; exact carry hlt (hA.respare K hz hts hsp)
 have hvars' : ∀ sp : Nat → Bool, DataW.TrodVars enc P W' sp s.vars (s.fn H ds).vars [] := fun sp => by
   rw [hfn, hvars]; rfl
 have hkept : W.keptBut W' (· ∈ pa) := by
   have h0 := World.keptBut_refl W (· ∈ pa); refine ⟨hg.os, hg.output, fun i hi => ?_⟩; have := h0.2.2 i hi; rw [hg.block i hi (fun h => h)]; exact this
 have hfz : ∀ b o, b < W.heap.size → W'.frozen? ⟨b, o, none⟩ = W.frozen? ⟨b, o, none⟩ := fun b o hb => by
   simp only [World.frozen?, hg.block b hb (fun h => h)]
 refine ⟨ds, [], pa, [], pa, [], ?_, ?_, ?_, ?_, World.keptBut_mono (fun p hp => ⟨hp, ?_⟩) hkept, fun _ => ?_⟩
 · exact hW
 · simpa using hres' _ _ _
 · simpa using hargs _ hold
 · simpa using hvars' _
 · simpa using hp
 · refine ⟨?_, _, _, ([] ++ pa) ++ [], ⟨[] ++ pa, [], trodAll_append (by simpa using hargs _ (fun _ _ => rfl)) (by simpa using hres' _ _ _), by simpa using hvars' _, rfl, ?_, ?_⟩, ?_⟩
   · exact ok_one hres rfl (okWide_bool_mk htb true)
   · intro b off hp; have hp : MemPlace.cell b off ∈ pa := (by simpa using hp); rw [hfz b off (hlt _ hp)]; exact hz' b off hp
   · intro ha; simpa using hn ha
   · intro p hp _; simpa using hp
theorem witness_laid {H : Type} {enc : TypeId × Value → H} {C : Checked} {os : Os} {f : FuncId} {fn : Func} {s : OpenSpec} {conds : List PathCond} {apart : Bool} {laid : List (String × DataW Unit)} (modest : Bool) (w0 : World) (args : Array Value) (hos : w0.os = os)
   (hsh : (w0.forCall (fun _ _ => 0) ⟨#[], args, []⟩).Shaped C.prog)
   (hok : Input.okWideB C.prog (w0.forCall (fun _ _ => 0) ⟨#[], args, []⟩) f ⟨#[], args, []⟩ = true)
   (hrow : s.preRow enc C.prog fn conds apart laid (w0.forCall (fun _ _ => 0) ⟨#[], args, []⟩).memory args) :
   ∃ (w : World) (tape : Tape) (i : Input), w.os = os ∧ (w.forCall tape i).Shaped C.prog ∧ i.vars = [] ∧ Input.okWide C.prog (w.forCall tape i) .any w.heap.size f i ∧
     s.preRow enc C.prog fn conds apart laid (w.forCall tape i).memory i.args ∧ ({ modest := modest } : Assume).holds C.prog (lone (Frame.enter C.prog f i.args .normal) [] (w.forCall tape i)) :=
 ⟨w0, fun _ _ => 0, ⟨#[], args, []⟩, hos, hsh, (Input.okWide_of_okWideB (base := 0) hok).1, (Input.okWide_of_okWideB hok).2, hrow, by
   simp only [Assume.holds]; exact ⟨by simp, by simp, fun _ => Modest.zero, by simp, by simp⟩⟩
section
variable {H : Type} {enc : TypeId × Value → H} {P : Program} {w : World} {sp : Nat → Bool} {held : Bool} {T : TypeId → Prop}
end
end Go.Vw