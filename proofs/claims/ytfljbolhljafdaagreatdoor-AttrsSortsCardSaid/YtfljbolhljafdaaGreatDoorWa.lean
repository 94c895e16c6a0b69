/-
  The data of an abstract walk through a translated function, its states, and their relation to frames and memory: for every program. No conditions beyond those that each theorem states.
-/
import Derived.Below
import Derived.Laws.OwnMore
import Derived.Deep.Draws
import Derived.WalkKit
import Derived.Laws.AppendOwn
import Derived.Shelf.Abstract

set_option linter.unusedSimpArgs false
set_option linter.unusedVariables false

/- The data of the abstract walk: plain trees of values, and what it means that cells of memory hold such a tree. -/
namespace Go.Vw
open Go.RowKit

abbrev Str := List UInt8

/-- Data as a tree. -/
inductive D where
  | bool (b : Bool)
  | int (k : IntKind) (n : Int)
  | str (s : Str)
  | sl (ds : List D)
  | agg (ds : List D)
  | ref (d : D)
  | clo (f : FuncId) (caps : List D)
  | nilp
  | raw (v : Value)

def D.isAgg : D → Bool
  | .agg _ => true
  | _ => false
def vIsAgg : Value → Bool
  | .agg _ => true
  | _ => false

mutual
def width : D → Nat
  | .agg ds => widths ds
  | _ => 1
def widths : List D → Nat
  | [] => 0
  | d :: ds => width d + widths ds
end

/-- The cells from (b, off) on hold cs, and none of them changes any more. -/
def At (w : World) (L : Nat → Nat → Prop) (b off : Nat) (cs : List Value) : Prop :=
  ∀ k v, cs[k]? = some v → w.cell? ⟨b, off + k, none⟩ = some v ∧ L b (off + k)

mutual
def Rep (w : World) (L : Nat → Nat → Prop) : D → List Value → Prop
  | .bool b, cs => cs = [.bool b]
  | .int k n, cs => cs = [.int k n]
  | .str s, cs => cs = [.string ⟨s.toArray⟩]
  | .sl ds, cs => ∃ a cap css sz, cs = [.slice a ds.length cap] ∧ RepL w L ds css ∧ (∀ c ∈ css, c.length = sz) ∧ ds.length ≤ cap ∧
      (ds ≠ [] → ∃ b off, a = some ⟨b, off, none⟩ ∧ At w L b off css.flatten)
  | .agg ds, cs => ∃ css, RepL w L ds css ∧ cs = css.flatten
  | .ref d, cs => ∃ b off cs', cs = [.pointer (some ⟨b, off, none⟩)] ∧ Rep w L d cs' ∧ At w L b off cs'
  | .clo f caps, cs => ∃ css, RepL w L caps css ∧ cs = [.func (.func f) #[] css.flatten.toArray]
  | .nilp, cs => cs = [.pointer none]
  | .raw v, cs => cs = [v] ∧ v.oneCell' = true ∧ vIsAgg v = false
def RepL (w : World) (L : Nat → Nat → Prop) : List D → List (List Value) → Prop
  | [], css => css = []
  | d :: ds, css => ∃ c cs, css = c :: cs ∧ Rep w L d c ∧ RepL w L ds cs
end

/-- What may happen to memory as far as unchanging cells are concerned. -/
def Ext (w : World) (L : Nat → Nat → Prop) (w' : World) (L' : Nat → Nat → Prop) : Prop :=
  ∀ b o, L b o → L' b o ∧ (∀ v, w.cell? ⟨b, o, none⟩ = some v → w'.cell? ⟨b, o, none⟩ = some v)

theorem At.mono {w w' : World} {L L' : Nat → Nat → Prop} {b off : Nat} {cs : List Value} (h : At w L b off cs) (hx : Ext w L w' L') : At w' L' b off cs :=
  fun k v hk => ⟨(hx _ _ (h k v hk).2).2 v (h k v hk).1, (hx _ _ (h k v hk).2).1⟩

mutual
theorem Rep.mono {w w' : World} {L L' : Nat → Nat → Prop} (hx : Ext w L w' L') : ∀ (d : D) (cs : List Value), Rep w L d cs → Rep w' L' d cs
  | .bool _, _, h => h
  | .int _ _, _, h => h
  | .str _, _, h => h
  | .sl ds, _, h => by
    simp only [Rep] at h ⊢
    obtain ⟨a, cap, css, sz, h1, h2, h3, h4, h5⟩ := h
    refine ⟨a, cap, css, sz, h1, RepL.mono hx ds css h2, h3, h4, fun hn => ?_⟩
    obtain ⟨b, off, ha, hat⟩ := h5 hn
    exact ⟨b, off, ha, hat.mono hx⟩
  | .agg ds, _, h => by
    simp only [Rep] at h ⊢
    obtain ⟨css, h1, h2⟩ := h
    exact ⟨css, RepL.mono hx ds css h1, h2⟩
  | .ref d, _, h => by
    simp only [Rep] at h ⊢
    obtain ⟨b, off, cs', h1, h2, h3⟩ := h
    exact ⟨b, off, cs', h1, Rep.mono hx d cs' h2, h3.mono hx⟩
  | .clo f caps, _, h => by
    simp only [Rep] at h ⊢
    obtain ⟨css, h1, h2⟩ := h
    exact ⟨css, RepL.mono hx caps css h1, h2⟩
  | .nilp, _, h => h
  | .raw _, _, h => h
theorem RepL.mono {w w' : World} {L L' : Nat → Nat → Prop} (hx : Ext w L w' L') : ∀ (ds : List D) (css : List (List Value)), RepL w L ds css → RepL w' L' ds css
  | [], _, h => h
  | d :: ds, _, h => by
    simp only [RepL] at h ⊢
    obtain ⟨c, cs, h1, h2, h3⟩ := h
    exact ⟨c, cs, h1, Rep.mono hx d c h2, RepL.mono hx ds cs h3⟩
end

mutual
theorem Rep.len {w : World} {L : Nat → Nat → Prop} : ∀ (d : D) (cs : List Value), Rep w L d cs → cs.length = width d
  | .bool _, _, h => by simp only [Rep] at h; subst h; rfl
  | .int _ _, _, h => by simp only [Rep] at h; subst h; rfl
  | .str _, _, h => by simp only [Rep] at h; subst h; rfl
  | .sl ds, _, h => by simp only [Rep] at h; obtain ⟨a, cap, css, sz, h1, _⟩ := h; subst h1; rfl
  | .agg ds, _, h => by
    simp only [Rep] at h
    obtain ⟨css, h1, h2⟩ := h
    subst h2
    simp only [width]
    exact RepL.len ds css h1
  | .ref d, _, h => by simp only [Rep] at h; obtain ⟨b, off, cs', h1, _⟩ := h; subst h1; rfl
  | .clo f caps, _, h => by simp only [Rep] at h; obtain ⟨css, _, h1⟩ := h; subst h1; rfl
  | .nilp, _, h => by simp only [Rep] at h; subst h; rfl
  | .raw _, _, h => by simp only [Rep] at h; obtain ⟨rfl, _⟩ := h; rfl
theorem RepL.len {w : World} {L : Nat → Nat → Prop} : ∀ (ds : List D) (css : List (List Value)), RepL w L ds css → css.flatten.length = widths ds
  | [], _, h => by simp only [RepL] at h; subst h; rfl
  | d :: ds, _, h => by
    simp only [RepL] at h
    obtain ⟨c, cs, h1, h2, h3⟩ := h
    subst h1
    simp only [List.flatten_cons, List.length_append, widths, Rep.len d c h2, RepL.len ds cs h3]
end

theorem RepL.count {w : World} {L : Nat → Nat → Prop} : ∀ {ds : List D} {css : List (List Value)}, RepL w L ds css → css.length = ds.length
  | [], _, h => by simp only [RepL] at h; subst h; rfl
  | d :: ds, _, h => by
    simp only [RepL] at h
    obtain ⟨c, cs, h1, h2, h3⟩ := h
    subst h1
    simp [RepL.count h3]

theorem RepL.get {w : World} {L : Nat → Nat → Prop} : ∀ {ds : List D} {css : List (List Value)} {i : Nat} {d : D}, RepL w L ds css → ds[i]? = some d → ∃ c, css[i]? = some c ∧ Rep w L d c
  | [], _, i, d, h, hi => by simp at hi
  | d :: ds, _, 0, x, h, hi => by
    simp only [RepL] at h
    obtain ⟨c, cs, rfl, h2, h3⟩ := h
    simp only [List.getElem?_cons_zero, Option.some.injEq] at hi
    subst hi
    exact ⟨c, rfl, h2⟩
  | d :: ds, _, i + 1, x, h, hi => by
    simp only [RepL] at h
    obtain ⟨c, cs, rfl, h2, h3⟩ := h
    simp only [List.getElem?_cons_succ] at hi
    simpa using RepL.get h3 hi

theorem RepL.append {w : World} {L : Nat → Nat → Prop} : ∀ {ds es : List D} {css dss : List (List Value)}, RepL w L ds css → RepL w L es dss → RepL w L (ds ++ es) (css ++ dss)
  | [], _, _, _, h, k => by simp only [RepL] at h; subst h; simpa using k
  | d :: ds, _, _, _, h, k => by
    simp only [RepL] at h
    obtain ⟨c, cs, rfl, h2, h3⟩ := h
    simp only [List.cons_append, RepL]
    exact ⟨c, _, rfl, h2, RepL.append h3 k⟩

theorem RepL.drop {w : World} {L : Nat → Nat → Prop} : ∀ {ds : List D} {css : List (List Value)} (n : Nat), RepL w L ds css → RepL w L (ds.drop n) (css.drop n)
  | _, _, 0, h => h
  | [], _, n + 1, h => by simp only [RepL] at h; subst h; simp [RepL]
  | d :: ds, _, n + 1, h => by
    simp only [RepL] at h
    obtain ⟨c, cs, rfl, h2, h3⟩ := h
    simpa using RepL.drop n h3
theorem RepL.take {w : World} {L : Nat → Nat → Prop} : ∀ {ds : List D} {css : List (List Value)} (n : Nat), RepL w L ds css → RepL w L (ds.take n) (css.take n)
  | _, _, 0, _ => by simp [RepL]
  | [], _, n + 1, h => by simp only [RepL] at h; subst h; simp [RepL]
  | d :: ds, _, n + 1, h => by
    simp only [RepL] at h
    obtain ⟨c, cs, rfl, h2, h3⟩ := h
    simp only [List.take_succ_cons, RepL]
    exact ⟨c, _, rfl, h2, RepL.take n h3⟩

theorem RepL.set {w : World} {L : Nat → Nat → Prop} : ∀ {ds : List D} {css : List (List Value)} {i : Nat} {d : D} {c : List Value}, RepL w L ds css → Rep w L d c → RepL w L (ds.set i d) (css.set i c)
  | [], _, _, _, _, h, _ => by simp only [RepL] at h; subst h; simp [RepL]
  | d :: ds, _, 0, x, c', h, hd => by
    simp only [RepL] at h
    obtain ⟨c, cs, rfl, h2, h3⟩ := h
    simp only [List.set_cons_zero, RepL]
    exact ⟨c', _, rfl, hd, h3⟩
  | d :: ds, _, i + 1, x, c', h, hd => by
    simp only [RepL] at h
    obtain ⟨c, cs, rfl, h2, h3⟩ := h
    simp only [List.set_cons_succ, RepL]
    exact ⟨c, _, rfl, h2, RepL.set h3 hd⟩

theorem RepL.one {w : World} {L : Nat → Nat → Prop} {d : D} {c : List Value} (h : Rep w L d c) : RepL w L [d] [c] := by
  simp only [RepL]
  exact ⟨c, [], rfl, h, rfl⟩

/-- A value (a struct's value, or one cell) holds d. -/
def RepV (w : World) (L : Nat → Nat → Prop) (d : D) (v : Value) : Prop := Rep w L d v.cells.toList ∧ vIsAgg v = d.isAgg

theorem RepV.mono {w w' : World} {L L' : Nat → Nat → Prop} (hx : Ext w L w' L') {d : D} {v : Value} (h : RepV w L d v) : RepV w' L' d v := ⟨Rep.mono hx d _ h.1, h.2⟩

theorem cells_one {v : Value} (h : vIsAgg v = false) : v.cells = #[v] := by cases v <;> first | rfl | (simp [vIsAgg] at h)
theorem RepV.cell {w : World} {L : Nat → Nat → Prop} {d : D} {v : Value} (h : RepV w L d v) (hd : d.isAgg = false) : Rep w L d [v] := by
  have := h.1
  rwa [cells_one (h.2.trans hd)] at this
theorem RepV.of_cell {w : World} {L : Nat → Nat → Prop} {d : D} {v : Value} (h : Rep w L d [v]) (hd : d.isAgg = false) (hv : vIsAgg v = false) : RepV w L d v := by
  refine ⟨?_, hv.trans hd.symm⟩
  rw [cells_one hv]
  exact h

theorem RepV.int {w : World} {L : Nat → Nat → Prop} {k : IntKind} {n : Int} : RepV w L (.int k n) (.int k n) := ⟨by simp [Rep, Value.cells], rfl⟩
theorem RepV.bool {w : World} {L : Nat → Nat → Prop} {b : Bool} : RepV w L (.bool b) (.bool b) := ⟨by simp [Rep, Value.cells], rfl⟩
theorem RepV.str {w : World} {L : Nat → Nat → Prop} {s : Str} : RepV w L (.str s) (.string ⟨s.toArray⟩) := ⟨by simp [Rep, Value.cells], rfl⟩
theorem RepV.raw_inv {w : World} {L : Nat → Nat → Prop} {u v : Value} (h : RepV w L (.raw u) v) : v = u := by
  have := h.cell rfl; simp only [Rep] at this; simpa using this.1
theorem RepV.raw {w : World} {L : Nat → Nat → Prop} {u : Value} (h1 : u.oneCell' = true) (h2 : vIsAgg u = false) : RepV w L (.raw u) u :=
  .of_cell (by simp only [Rep]; exact ⟨trivial, h1, h2⟩) rfl h2
theorem RepV.int_inv {w : World} {L : Nat → Nat → Prop} {k : IntKind} {n : Int} {v : Value} (h : RepV w L (.int k n) v) : v = .int k n := by
  have := h.cell rfl; simpa [Rep] using this
theorem RepV.bool_inv {w : World} {L : Nat → Nat → Prop} {b : Bool} {v : Value} (h : RepV w L (.bool b) v) : v = .bool b := by
  have := h.cell rfl; simpa [Rep] using this
theorem RepV.str_inv {w : World} {L : Nat → Nat → Prop} {s : Str} {v : Value} (h : RepV w L (.str s) v) : v = .string ⟨s.toArray⟩ := by
  have := h.cell rfl; simpa [Rep] using this

/-- Every cell of a reading is one cell. -/
theorem oneCell_flatten {css : List (List Value)} (h : ∀ c ∈ css, ∀ u ∈ c, u.oneCell' = true) : ∀ u ∈ css.flatten, u.oneCell' = true := by
  intro u hu
  obtain ⟨c, hc, hu⟩ := List.mem_flatten.1 hu
  exact h c hc u hu
mutual
theorem Rep.one {w : World} {L : Nat → Nat → Prop} : ∀ (d : D) (cs : List Value), Rep w L d cs → ∀ u ∈ cs, u.oneCell' = true
  | .bool _, _, h => by simp only [Rep] at h; subst h; simp [Value.oneCell']
  | .int _ _, _, h => by simp only [Rep] at h; subst h; simp [Value.oneCell']
  | .str _, _, h => by simp only [Rep] at h; subst h; simp [Value.oneCell']
  | .sl ds, _, h => by simp only [Rep] at h; obtain ⟨a, cap, css, sz, h1, _⟩ := h; subst h1; simp [Value.oneCell']
  | .agg ds, _, h => by
    simp only [Rep] at h
    obtain ⟨css, h1, h2⟩ := h
    subst h2
    exact RepL.ones ds css h1
  | .ref d, _, h => by simp only [Rep] at h; obtain ⟨b, off, cs', h1, _⟩ := h; subst h1; simp [Value.oneCell']
  | .clo f caps, _, h => by simp only [Rep] at h; obtain ⟨css, _, h1⟩ := h; subst h1; simp [Value.oneCell']
  | .nilp, _, h => by simp only [Rep] at h; subst h; simp [Value.oneCell']
  | .raw _, _, h => by simp only [Rep] at h; obtain ⟨rfl, h1, _⟩ := h; simpa using h1
theorem RepL.ones {w : World} {L : Nat → Nat → Prop} : ∀ (ds : List D) (css : List (List Value)), RepL w L ds css → ∀ u ∈ css.flatten, u.oneCell' = true
  | [], _, h => by simp only [RepL] at h; subst h; simp
  | d :: ds, _, h => by
    simp only [RepL] at h
    obtain ⟨c, cs, h1, h2, h3⟩ := h
    subst h1
    intro u hu
    simp only [List.flatten_cons, List.mem_append] at hu
    rcases hu with hu | hu
    · exact Rep.one d c h2 u hu
    · exact RepL.ones ds cs h3 u hu
end
end Go.Vw

/- The abstract states of the walk and their relation to frames and memory. -/
namespace Go.Vw
open Go.RowKit

/-- What is known of a slot. -/
inductive AV where
  | undef
  | d (d : D)
  | nils
  | full (l : List D)
  | own (m : Bool) (e : TypeId) (l : List D)
  | bor (j : Nat) (m : Bool) (e : TypeId) (l : List D)
  | box (d : D)
  | adr (j : Nat) (p : List Nat)
  | eadr (j : Nat) (i : Nat) (p : List Nat)
  | tup (l : List AV)
  | iter (s : Str) (pos : Nat)
  | hs (u : Value) (e : TypeId) (l : List D)
  | hb (u : Value) (d : D)
  | sub (j : Nat) (lo : Nat)

abbrev St := Nat → AV

def D.get : List Nat → D → Option D
  | [], d => some d
  | k :: p, .agg ds => match ds[k]? with
    | some x => D.get p x
    | none => none
  | _ :: _, _ => none
def D.off : List Nat → D → Option Nat
  | [], _ => some 0
  | k :: p, .agg ds => match ds[k]? with
    | some x => (D.off p x).map (widths (ds.take k) + ·)
    | none => none
  | _ :: _, _ => none
def D.upd : List Nat → D → D → D
  | [], _, x => x
  | k :: p, .agg ds, x => match ds[k]? with
    | some y => .agg (ds.set k (D.upd p y x))
    | none => .agg ds
  | _ :: _, d, _ => d

theorem widths_append (a b : List D) : widths (a ++ b) = widths a + widths b := by
  induction a with
  | nil => simp [widths]
  | cons x xs ih => simp only [List.cons_append, widths, ih]; omega

/-- Where a part of a datum lies in its cells. -/
theorem Rep.part {w : World} {L : Nat → Nat → Prop} : ∀ {p : List Nat} {d x : D} {cs : List Value} {o : Nat}, Rep w L d cs → D.get p d = some x → D.off p d = some o →
    ∃ pre c post, cs = pre ++ c ++ post ∧ pre.length = o ∧ Rep w L x c ∧ ∀ y c', Rep w L y c' → Rep w L (D.upd p d y) (pre ++ c' ++ post)
  | [], d, x, cs, o, h, hg, ho => by
    simp only [D.get, Option.some.injEq] at hg
    simp only [D.off, Option.some.injEq] at ho
    subst hg; subst ho
    exact ⟨[], cs, [], by simp, rfl, h, fun y c' hy => by simpa [D.upd] using hy⟩
  | k :: p, .agg ds, x, cs, o, h, hg, ho => by
    simp only [D.get] at hg
    simp only [D.off] at ho
    cases hk : ds[k]? with
    | none => rw [hk] at hg; cases hg
    | some z =>
      rw [hk] at hg ho
      simp only [Option.map_eq_some_iff] at ho
      obtain ⟨o1, ho1, rfl⟩ := ho
      simp only [Rep] at h
      obtain ⟨css, hL, rfl⟩ := h
      obtain ⟨c, hc, hz⟩ := hL.get hk
      obtain ⟨pre, c1, post, hcs, hpl, hx, hup⟩ := Rep.part hz hg ho1
      have hkl : k < css.length := (List.getElem?_eq_some_iff.1 hc).1
      have hsplit : css = css.take k ++ c :: css.drop (k + 1) := by
        have e1 := (List.take_append_drop k css).symm
        rw [List.drop_eq_getElem_cons hkl] at e1
        have e2 : css[k] = c := (List.getElem?_eq_some_iff.1 hc).2
        rw [e2] at e1
        exact e1
      refine ⟨(css.take k).flatten ++ pre, c1, post ++ (css.drop (k + 1)).flatten, ?_, ?_, hx, fun y c' hy => ?_⟩
      · conv => lhs; rw [hsplit]
        simp [hcs, List.append_assoc]
      · rw [List.length_append, hpl, RepL.len _ _ (hL.take k)]
      · simp only [D.upd, hk, Rep]
        refine ⟨css.set k (pre ++ c' ++ post), hL.set (hup y c' hy), ?_⟩
        rw [List.set_eq_take_append_cons_drop, if_pos hkl]
        simp [List.append_assoc]
  | _ :: _, .bool _, _, _, _, _, hg, _ => by simp [D.get] at hg
  | _ :: _, .int _ _, _, _, _, _, hg, _ => by simp [D.get] at hg
  | _ :: _, .str _, _, _, _, _, hg, _ => by simp [D.get] at hg
  | _ :: _, .sl _, _, _, _, _, hg, _ => by simp [D.get] at hg
  | _ :: _, .ref _, _, _, _, _, hg, _ => by simp [D.get] at hg
  | _ :: _, .clo _ _, _, _, _, _, hg, _ => by simp [D.get] at hg
  | _ :: _, .nilp, _, _, _, _, hg, _ => by simp [D.get] at hg
  | _ :: _, .raw _, _, _, _, _, hg, _ => by simp [D.get] at hg

theorem D.off_snoc : ∀ {p : List Nat} {d : D} {ds : List D} {o k : Nat}, D.get p d = some (.agg ds) → D.off p d = some o → k < ds.length → D.off (p ++ [k]) d = some (o + widths (ds.take k))
  | [], d, ds, o, k, hg, ho, hk => by
    simp only [D.get, Option.some.injEq] at hg
    simp only [D.off, Option.some.injEq] at ho
    subst hg; subst ho
    simp [D.off, List.getElem?_eq_getElem hk]
  | j :: p, .agg es, ds, o, k, hg, ho, hk => by
    simp only [D.get] at hg
    simp only [D.off] at ho
    cases hj : es[j]? with
    | none => rw [hj] at hg; cases hg
    | some z =>
      rw [hj] at hg ho
      simp only [Option.map_eq_some_iff] at ho
      obtain ⟨o1, ho1, rfl⟩ := ho
      simp only [List.cons_append, D.off, hj, D.off_snoc hg ho1 hk, Option.map_some]
      congr 1; omega
  | _ :: _, .bool _, _, _, _, hg, _, _ => by simp [D.get] at hg
  | _ :: _, .int _ _, _, _, _, hg, _, _ => by simp [D.get] at hg
  | _ :: _, .str _, _, _, _, hg, _, _ => by simp [D.get] at hg
  | _ :: _, .sl _, _, _, _, hg, _, _ => by simp [D.get] at hg
  | _ :: _, .ref _, _, _, _, hg, _, _ => by simp [D.get] at hg
  | _ :: _, .clo _ _, _, _, _, hg, _, _ => by simp [D.get] at hg
  | _ :: _, .nilp, _, _, _, hg, _, _ => by simp [D.get] at hg
  | _ :: _, .raw _, _, _, _, hg, _, _ => by simp [D.get] at hg

theorem D.get_snoc : ∀ {p : List Nat} {d x : D} {ds : List D} {k : Nat}, D.get p d = some (.agg ds) → ds[k]? = some x → D.get (p ++ [k]) d = some x
  | [], d, x, ds, k, hg, hk => by
    simp only [D.get, Option.some.injEq] at hg
    subst hg
    simp [D.get, hk]
  | j :: p, .agg es, x, ds, k, hg, hk => by
    simp only [D.get] at hg
    cases hj : es[j]? with
    | none => rw [hj] at hg; cases hg
    | some z =>
      rw [hj] at hg
      simp only [List.cons_append, D.get, hj]
      exact D.get_snoc hg hk
  | _ :: _, .bool _, _, _, _, hg, _ => by simp [D.get] at hg
  | _ :: _, .int _ _, _, _, _, hg, _ => by simp [D.get] at hg
  | _ :: _, .str _, _, _, _, hg, _ => by simp [D.get] at hg
  | _ :: _, .sl _, _, _, _, hg, _ => by simp [D.get] at hg
  | _ :: _, .ref _, _, _, _, hg, _ => by simp [D.get] at hg
  | _ :: _, .clo _ _, _, _, _, hg, _ => by simp [D.get] at hg
  | _ :: _, .nilp, _, _, _, hg, _ => by simp [D.get] at hg
  | _ :: _, .raw _, _, _, _, hg, _ => by simp [D.get] at hg

section
variable (P : Program)

/-- The element type, and the mark, of a row: from 100000 on, a row that a string was turned into. -/
def ety (e : TypeId) : TypeId := if e < 100000 then e else e - 100000
def mk (e : TypeId) (n : Nat) : Nat × Nat := if e < 100000 then (0, 0) else (n, n + 1)
def rowOK (w : World) (e : TypeId) (size : Nat) (v : Value) (n : Nat) (xs : List Value) : Prop :=
  xs.length = n * size ∧ ((v = .slice none 0 0 ∧ n = 0) ∨
   ∃ g cap cur, v = .slice (some ⟨g, 0, none⟩) n cap ∧ w.heap[g]? = some (.cells cur (ety e) (mk e cur.size)) ∧ n ≤ cap ∧ cap ≤ maxLen ∧ cap * size ≤ cur.size ∧ cur.toList.take (n * size) = xs)
theorem ety_lt {e : TypeId} (h : e < 100000) : ety e = e := if_pos h
theorem mk_lt {e : TypeId} (h : e < 100000) (n : Nat) : mk e n = (0, 0) := if_pos h
theorem rowOK.cells {w : World} {e : TypeId} {size : Nat} {v : Value} {n : Nat} {xs : List Value} (h : rowOK w e size v n xs) {g : Nat} (hg : v.ownBlock = some g) : ∀ j u, xs[j]? = some u → w.cell? ((⟨g, 0, none⟩ : Addr).add j) = some u := by
  intro j u hu
  rcases h.2 with ⟨rfl, _⟩ | ⟨g', cap, cur, rfl, hgg, _, _, _, htake⟩
  · simp [Value.ownBlock] at hg
  · simp [Value.ownBlock] at hg
    subst hg
    have hadd : (⟨g', 0, none⟩ : Addr).add j = ⟨g', j, none⟩ := by unfold Addr.add; split <;> simp_all
    rw [hadd]
    rw [← htake, List.getElem?_take] at hu
    split at hu
    · simp only [World.cell?, hgg]; simpa using hu
    · cases hu

/-- A slice that the call owns: the cells from its length on are nobody else's. m: nobody else looks at the others either. -/
def OwnR (w : World) (L : Nat → Nat → Prop) (og : Option Nat) (m : Bool) (e : TypeId) (l : List D) (v : Value) : Prop :=
  ∃ css sz, (P.info? (ety e)).map (·.size) = some sz ∧ RepL w L l css ∧ (∀ c ∈ css, c.length = sz) ∧ rowOK w e sz v l.length css.flatten ∧
    ∀ g, v.ownBlock = some g → og = some g ∧ ∀ o, L g o ↔ (m = false ∧ o < l.length * sz)

def ptr (g off : Nat) : Value := .pointer (some ⟨g, off, none⟩)

/-- A variable that the call owns. -/
def BoxR (w : World) (L : Nat → Nat → Prop) (og : Option Nat) (d : D) (v : Value) : Prop :=
  ∃ g C e, og = some g ∧ v = ptr g 0 ∧ w.heap[g]? = some (.cells C e (0, 0)) ∧ Rep w L d C.toList ∧ ∀ o, ¬ L g o

mutual
def RC (w : World) (L : Nat → Nat → Prop) (og : Option Nat) : AV → Value → Prop
  | .undef, _ => True
  | .d d, v => RepV w L d v
  | .nils, v => v = .slice none 0 0
  | .full l, v => RepV w L (.sl l) v ∧ ∃ a, v = .slice a l.length l.length
  | .own m e l, v => OwnR P w L og m e l v
  | .tup l, v => ∃ vs : List Value, v = .tuple vs.toArray ∧ RCs w L og l vs
  | .hs u e l, _ => OwnR P w L og true e l u
  | .hb u d, _ => BoxR w L og d u
  | .box d, v => BoxR w L og d v
  | .bor .., _ => False
  | .adr .., _ => False
  | .eadr .., _ => False
  | .iter .., _ => False
  | .sub .., _ => False
def RCs (w : World) (L : Nat → Nat → Prop) (og : Option Nat) : List AV → List Value → Prop
  | [], vs => vs = []
  | x :: xs, vs => ∃ v us, vs = v :: us ∧ RC w L og x v ∧ RCs w L og xs us
end

/-- The data of an own variable; of an own slice. -/
def boxOf : AV → Option D
  | .box d => some d
  | .hb _ d => some d
  | _ => none
def ownOf : AV → Option (TypeId × List D)
  | .own true e l => some (e, l)
  | .hs _ e l => some (e, l)
  | _ => none
def setBox (y : D) : AV → AV
  | .hb u _ => .hb u y
  | _ => .box y
def setOwn (e : TypeId) (l : List D) : AV → AV
  | .hs u _ _ => .hs u e l
  | _ => .own true e l

/-- The value of an own slice: a named one bears it. -/
def valOf : AV → Value → Value
  | .hs u _ _, _ => u
  | .hb u _, _ => u
  | _, v => v

def RA (w : World) (L : Nat → Nat → Prop) (O : Nat → Option Nat) (σ : St) (tm : Nat → Value) (og : Option Nat) : AV → Value → Prop
  | .bor j m e l, v => σ j = .own m e l ∧ v = tm j
  | .adr j p, v => ∃ d g off, boxOf (σ j) = some d ∧ O j = some g ∧ D.off p d = some off ∧ v = ptr g off
  | .eadr j i p, v => ∃ e l g sz n c d off, ownOf (σ j) = some (e, l) ∧ valOf (σ j) (tm j) = .slice (some ⟨g, 0, none⟩) n c ∧ (P.info? (ety e)).map (·.size) = some sz ∧ l[i]? = some d ∧ D.off p d = some off ∧ v = ptr g (i * sz + off)
  | .iter s pos, v => ∃ g, og = some g ∧ v = ptr g 0 ∧ w.heap[g]? = some (.stringIter ⟨s.toArray⟩ pos)
  | .sub j lo, v => ∃ e l sz, ownOf (σ j) = some (e, l) ∧ (P.info? (ety e)).map (·.size) = some sz ∧ lo ≤ l.length ∧
      ((valOf (σ j) (tm j) = .slice none 0 0 ∧ v = .slice none 0 0) ∨ ∃ g c A, valOf (σ j) (tm j) = .slice (some ⟨g, 0, none⟩) l.length c ∧ v = .slice (some A) (l.length - lo) (c - lo) ∧ (lo < l.length → A = ⟨g, lo * sz, none⟩))
  | x, v => RC P w L og x v

/-- The world has grown; of what was there only the blocks of 'row' have changed. -/
structure GrownS (w w' : World) (row : Nat → Prop) : Prop where
  os : w'.os = w.os
  tape : w'.tape = w.tape
  output : w'.output = w.output
  size : w.heap.size ≤ w'.heap.size
  block : ∀ k, k < w.heap.size → ¬ row k → w'.heap[k]? = w.heap[k]?

def optB (o : Option Nat) : Nat → Prop := fun b => o = some b
def noB : Nat → Prop := fun _ => False
theorem noB_eq : optB none = noB := by funext b; simp [optB, noB]

structure Rel (w0 : World) (L0 : Nat → Nat → Prop) (row : Nat → Prop) (w : World) (L : Nat → Nat → Prop) (O : Nat → Option Nat) (σ : St) (tm : Nat → Value) : Prop where
  grown : GrownS w0 w row
  lok : ∀ b o, L b o → b < w.heap.size
  old : ∀ b o, b < w0.heap.size → ¬ row b → (L b o ↔ L0 b o)
  slots : ∀ i, RA P w L O σ tm (O i) (σ i) (tm i)
  inj : ∀ i j g, O i = some g → O j = some g → i = j
  olt : ∀ i g, O i = some g → g < w.heap.size ∧ (w0.heap.size ≤ g ∨ row g)
end

theorem GrownS.of {w w' : World} {o : Option Nat} (h : w.grownBy w' o) : GrownS w w' (optB o) := ⟨h.os, h.tape, h.output, h.size, fun k hk hn => h.block k hk (fun e => hn e.symm)⟩
theorem GrownS.to {w w' : World} {o : Option Nat} (h : GrownS w w' (optB o)) : w.grownBy w' o := ⟨h.os, h.tape, h.output, h.size, fun k hk hn => h.block k hk (fun e => hn e.symm)⟩
theorem GrownS.refl (w : World) (row : Nat → Prop) : GrownS w w row := ⟨rfl, rfl, rfl, Nat.le_refl _, fun _ _ _ => rfl⟩
theorem GrownS.then {a w w' : World} {row touch : Nat → Prop} (h : GrownS a w row) (h' : GrownS w w' touch) (ht : ∀ g, touch g → a.heap.size ≤ g ∨ row g) : GrownS a w' row :=
  ⟨h'.os.trans h.os, h'.tape.trans h.tape, h'.output.trans h.output, Nat.le_trans h.size h'.size, fun i hi hne => (h'.block i (Nat.lt_of_lt_of_le hi h.size) (fun e => by
    rcases ht i e with h1 | h1
    · omega
    · exact hne h1)).trans (h.block i hi hne)⟩
theorem GrownS.sub {w w' : World} {row row' : Nat → Prop} (h : GrownS w w' row) (hs : ∀ b, row b → row' b) : GrownS w w' row' := ⟨h.os, h.tape, h.output, h.size, fun k hk hn => h.block k hk (fun e => hn (hs k e))⟩

variable {P : Program}

/-- Memory outside the blocks of 'touch' is as it was. -/
structure Same (w : World) (L : Nat → Nat → Prop) (w' : World) (L' : Nat → Nat → Prop) (touch : Nat → Prop) : Prop where
  ext : Ext w L w' L'
  heap : ∀ b, b < w.heap.size → ¬ touch b → w'.heap[b]? = w.heap[b]?
  lim : ∀ b o, b < w.heap.size → ¬ touch b → (L' b o ↔ L b o)

theorem OwnR.step {w w' : World} {L L' : Nat → Nat → Prop} {touch : Nat → Prop} {og : Option Nat} {m : Bool} {e : TypeId} {l : List D} {v : Value} (hs : Same w L w' L' touch)
    (hog : ∀ g, og = some g → g < w.heap.size ∧ ¬ touch g) (h : OwnR P w L og m e l v) : OwnR P w' L' og m e l v := by
  obtain ⟨css, sz, h1, h2, h3, h4, h5⟩ := h
  refine ⟨css, sz, h1, RepL.mono hs.ext _ _ h2, h3, ⟨h4.1, ?_⟩, fun g hg => ?_⟩
  · rcases h4.2 with h6 | ⟨g, cap, cur, hv, hh, hr⟩
    · exact .inl h6
    · have hg := h5 g (by rw [hv]; rfl)
      have := hog g hg.1
      exact .inr ⟨g, cap, cur, hv, by rw [hs.heap g this.1 this.2]; exact hh, hr⟩
  · have hg' := h5 g hg
    have := hog g hg'.1
    exact ⟨hg'.1, fun o => (hs.lim g o this.1 this.2).trans (hg'.2 o)⟩

theorem BoxR.step {w w' : World} {L L' : Nat → Nat → Prop} {touch : Nat → Prop} {og : Option Nat} {d : D} {v : Value} (hs : Same w L w' L' touch)
    (hog : ∀ g, og = some g → g < w.heap.size ∧ ¬ touch g) (h : BoxR w L og d v) : BoxR w' L' og d v := by
  obtain ⟨g, C, e, h1, h2, h3, h4, h5⟩ := h
  have := hog g h1
  exact ⟨g, C, e, h1, h2, by rw [hs.heap g this.1 this.2]; exact h3, Rep.mono hs.ext _ _ h4, fun o ho => h5 o ((hs.lim g o this.1 this.2).1 ho)⟩

mutual
theorem RC.step {w w' : World} {L L' : Nat → Nat → Prop} {touch : Nat → Prop} {og : Option Nat} (hs : Same w L w' L' touch)
    (hog : ∀ g, og = some g → g < w.heap.size ∧ ¬ touch g) : ∀ (x : AV) (v : Value), RC P w L og x v → RC P w' L' og x v
  | .undef, _, _ => by simp only [RC]
  | .d d, v, h => by simp only [RC] at h ⊢; exact h.mono hs.ext
  | .nils, _, h => by simp only [RC] at h ⊢; exact h
  | .full l, v, h => by simp only [RC] at h ⊢; exact ⟨h.1.mono hs.ext, h.2⟩
  | .own m e l, v, h => by simp only [RC] at h ⊢; exact h.step hs hog
  | .tup l, v, h => by
    simp only [RC] at h ⊢
    obtain ⟨vs, h1, h2⟩ := h
    exact ⟨vs, h1, RCs.step hs hog l vs h2⟩
  | .hs u e l, _, h => by simp only [RC] at h ⊢; exact h.step hs hog
  | .hb u d, _, h => by simp only [RC] at h ⊢; exact h.step hs hog
  | .box d, v, h => by simp only [RC] at h ⊢; exact h.step hs hog
  | .bor .., _, h => by simp only [RC] at h
  | .adr .., _, h => by simp only [RC] at h
  | .eadr .., _, h => by simp only [RC] at h
  | .iter .., _, h => by simp only [RC] at h
  | .sub .., _, h => by simp only [RC] at h
theorem RCs.step {w w' : World} {L L' : Nat → Nat → Prop} {touch : Nat → Prop} {og : Option Nat} (hs : Same w L w' L' touch)
    (hog : ∀ g, og = some g → g < w.heap.size ∧ ¬ touch g) : ∀ (xs : List AV) (vs : List Value), RCs P w L og xs vs → RCs P w' L' og xs vs
  | [], _, h => by simp only [RCs] at h ⊢; exact h
  | x :: xs, vs, h => by
    simp only [RCs] at h ⊢
    obtain ⟨v, us, h1, h2, h3⟩ := h
    exact ⟨v, us, h1, RC.step hs hog x v h2, RCs.step hs hog xs us h3⟩
end

theorem RA.step {w w' : World} {L L' : Nat → Nat → Prop} {O : Nat → Option Nat} {σ : St} {tm : Nat → Value} {touch : Nat → Prop} {og : Option Nat} (hs : Same w L w' L' touch)
    (hog : ∀ g, og = some g → g < w.heap.size ∧ ¬ touch g) {x : AV} {v : Value} (h : RA P w L O σ tm og x v) : RA P w' L' O σ tm og x v := by
  cases x with
  | bor j m e l => exact h
  | adr j p => exact h
  | eadr j i p => exact h
  | sub j lo => exact h
  | iter s pos =>
    obtain ⟨g, h1, h2, h3⟩ := h
    have := hog g h1
    exact ⟨g, h1, h2, by rw [hs.heap g this.1 this.2]; exact h3⟩
  | undef => exact RC.step hs hog _ _ h
  | d d => exact RC.step hs hog _ _ h
  | nils => exact RC.step hs hog _ _ h
  | full l => exact RC.step hs hog _ _ h
  | own m e l => exact RC.step hs hog _ _ h
  | tup l => exact RC.step hs hog _ _ h
  | hs u e l => exact RC.step hs hog _ _ h
  | hb u d => exact RC.step hs hog _ _ h
  | box d => exact RC.step hs hog _ _ h

theorem Same.refl (w : World) (L : Nat → Nat → Prop) (t : Nat → Prop) : Same w L w L t := ⟨fun _ _ h => ⟨h, fun _ hv => hv⟩, fun _ _ _ => rfl, fun _ _ _ _ => Iff.rfl⟩
theorem noB_hog {w : World} {og : Option Nat} (hl : ∀ g, og = some g → g < w.heap.size) : ∀ g, og = some g → g < w.heap.size ∧ ¬ noB g := fun g hg => ⟨hl g hg, id⟩

/-- The spare cells are not among the unchanging ones. -/
theorem OwnR.at_ {w : World} {L : Nat → Nat → Prop} {og : Option Nat} {e : TypeId} {l : List D} {v : Value} (h : OwnR P w L og false e l v) : RepV w L (.sl l) v := by
  obtain ⟨css, sz, h1, h2, h3, h4, h5⟩ := h
  rcases h4.2 with ⟨hv, hn⟩ | ⟨g, cap, cur, hv, hh, hnc, hcm, hsz, ht⟩
  · subst hv
    have hl : l = [] := List.eq_nil_of_length_eq_zero hn
    subst hl
    refine ⟨?_, rfl⟩
    simp only [RepL] at h2
    simp only [Rep]
    refine ⟨none, 0, [], sz, by simp [Value.cells], by simp [RepL], by simp, by simp, by simp⟩
  · subst hv
    have hL := (h5 g rfl).2
    refine ⟨?_, rfl⟩
    simp only [Rep]
    refine ⟨some ⟨g, 0, none⟩, cap, css, sz, rfl, h2, h3, hnc, fun _ => ⟨g, 0, rfl, fun k u hk => ?_⟩⟩
    have hk1 := hk
    rw [← ht, List.getElem?_take] at hk1
    split at hk1
    · rename_i hlt
      refine ⟨?_, (hL _).2 ⟨rfl, by omega⟩⟩
      simp only [World.cell?, hh]
      simpa using hk1
    · cases hk1

/-- What a slot, or an operand, holds as a datum that will not change. -/
def asD : AV → Option D
  | .d d => some d
  | .nils => some (.sl [])
  | .full l => some (.sl l)
  | .own false _ l => some (.sl l)
  | .bor _ false _ l => some (.sl l)
  | _ => none

theorem nil_rep {w : World} {L : Nat → Nat → Prop} : RepV w L (.sl []) (.slice none 0 0) := by
  refine ⟨?_, rfl⟩
  simp only [Rep]
  exact ⟨none, 0, [], 0, by simp [Value.cells], by simp [RepL], by simp, by simp, by simp⟩

theorem RA.asD {w : World} {L : Nat → Nat → Prop} {O : Nat → Option Nat} {σ : St} {tm : Nat → Value} {og : Option Nat} (hs : ∀ i, RA P w L O σ tm (O i) (σ i) (tm i))
    {x : AV} {v : Value} {d : D} (h : RA P w L O σ tm og x v) (hd : Vw.asD x = some d) : RepV w L d v := by
  cases x with
  | d x => simp only [Vw.asD, Option.some.injEq] at hd; subst hd; simpa only [RA, RC] using h
  | nils => simp only [Vw.asD, Option.some.injEq] at hd; subst hd; simp only [RA, RC] at h; subst h; exact nil_rep
  | full l => simp only [Vw.asD, Option.some.injEq] at hd; subst hd; simp only [RA, RC] at h; exact h.1
  | own m e l =>
    cases m with
    | true => simp [Vw.asD] at hd
    | false => simp only [Vw.asD, Option.some.injEq] at hd; subst hd; simp only [RA, RC] at h; exact h.at_
  | bor j m e l =>
    cases m with
    | true => simp [Vw.asD] at hd
    | false =>
      simp only [Vw.asD, Option.some.injEq] at hd
      subst hd
      obtain ⟨h1, rfl⟩ := h
      have h2 := hs j
      rw [h1] at h2
      simp only [RA, RC] at h2
      exact h2.at_
  | _ => simp [Vw.asD] at hd

/-- What is left of what is known of a slot when slot d is written. -/
def kill (d : Nat) : AV → AV
  | .bor j m e l => if j = d then (if m then .undef else .d (.sl l)) else .bor j m e l
  | .adr j p => if j = d then .undef else .adr j p
  | .eadr j i p => if j = d then .undef else .eadr j i p
  | .sub j lo => if j = d then .undef else .sub j lo
  | x => x

def put (σ : St) (d : Nat) (x : AV) : St := fun i => if i = d then kill d x else kill d (σ i)
def setv {α : Type} (f : Nat → α) (d : Nat) (x : α) : Nat → α := fun i => if i = d then x else f i

theorem kill_own {d : Nat} {x : AV} {m : Bool} {e : TypeId} {l : List D} (h : x = .own m e l) : kill d x = .own m e l := by subst h; rfl
theorem kill_boxOf {d : Nat} {x : AV} {y : D} (h : boxOf x = some y) : kill d x = x := by cases x <;> simp [boxOf] at h <;> rfl
theorem kill_ownOf {d : Nat} {x : AV} {y : TypeId × List D} (h : ownOf x = some y) : kill d x = x := by cases x <;> simp [ownOf] at h <;> rfl

/-- Slot i ≠ d behind a write of slot d. -/
theorem RA.killed {w : World} {L : Nat → Nat → Prop} {O : Nat → Option Nat} {σ : St} {tm : Nat → Value} (hs : ∀ i, RA P w L O σ tm (O i) (σ i) (tm i))
    (d : Nat) (y : AV) (u : Value) (o : Option Nat) {og : Option Nat} {x : AV} {v : Value} (h : RA P w L O σ tm og x v) :
    RA P w L (setv O d o) (put σ d y) (setv tm d u) og (kill d x) v := by
  cases x with
  | bor j m e l =>
    simp only [kill]
    split
    · rename_i hj
      cases m with
      | true => simp [RA, RC]
      | false =>
        simp only [Bool.false_eq_true, if_false, RA, RC]
        exact RA.asD hs h rfl
    · rename_i hj
      obtain ⟨h1, h2⟩ := h
      exact ⟨by simp only [put, if_neg hj]; exact kill_own h1, by simpa only [setv, if_neg hj] using h2⟩
  | adr j p =>
    simp only [kill]
    split
    · simp [RA, RC]
    · rename_i hj
      obtain ⟨x, g, off, h1, h2, h3, h4⟩ := h
      exact ⟨x, g, off, by simp only [put, if_neg hj, kill_boxOf h1]; exact h1, by simpa only [setv, if_neg hj] using h2, h3, h4⟩
  | eadr j i p =>
    simp only [kill]
    split
    · simp [RA, RC]
    · rename_i hj
      obtain ⟨e, l, g, sz, n, c, x, off, h1, h2, h3⟩ := h
      exact ⟨e, l, g, sz, n, c, x, off, by simp only [put, if_neg hj, kill_ownOf h1]; exact h1, by simpa only [setv, put, if_neg hj, kill_ownOf h1] using h2, h3⟩
  | sub j lo =>
    simp only [kill]
    split
    · simp [RA, RC]
    · rename_i hj
      obtain ⟨e, l, sz, h1, h2, h3, h4⟩ := h
      exact ⟨e, l, sz, by simp only [put, if_neg hj, kill_ownOf h1]; exact h1, h2, h3, by simpa only [setv, put, if_neg hj, kill_ownOf h1] using h4⟩
  | undef => exact h
  | d _ => exact h
  | nils => exact h
  | full _ => exact h
  | own _ _ _ => exact h
  | tup _ => exact h
  | box _ => exact h
  | iter _ _ => exact h
  | hs _ _ _ => exact h
  | hb _ _ => exact h

variable {w0 : World} {L0 : Nat → Nat → Prop} {row : Nat → Prop} {w w' : World} {L L' : Nat → Nat → Prop} {O : Nat → Option Nat} {σ : St} {tm : Nat → Value}

/-- A slot is written; memory is as it was, or has changed in the blocks of 'touch' alone, which only slot d owns. -/
theorem Rel.putOwn (h : Rel P w0 L0 row w L O σ tm) (d : Nat) (x : AV) (v : Value) (o : Option Nat) (touch : Nat → Prop) (hs : Same w L w' L' touch) (hg : GrownS w0 w' row) (hsize : w.heap.size ≤ w'.heap.size)
    (hlok : ∀ b o, L' b o → b < w'.heap.size) (hold : ∀ b, touch b → w0.heap.size ≤ b ∨ row b) (hfree : ∀ i g, i ≠ d → O i = some g → ¬ touch g)
    (ho : ∀ g, o = some g → g < w'.heap.size ∧ (w0.heap.size ≤ g ∨ row g) ∧ ∀ i, i ≠ d → O i ≠ some g)
    (hx : RA P w' L' (setv O d o) (put σ d x) (setv tm d v) o (kill d x) v) : Rel P w0 L0 row w' L' (setv O d o) (put σ d x) (setv tm d v) := by
  refine ⟨hg, hlok, fun b q hb hr => ?_, fun i => ?_, fun i j g hi hj => ?_, fun i g hi => ?_⟩
  · have hb' : b < w.heap.size := Nat.lt_of_lt_of_le hb h.grown.size
    refine (hs.lim b q hb' (fun e => ?_)).trans (h.old b q hb hr)
    rcases hold b e with h1 | h1
    · omega
    · exact hr h1
  · by_cases hid : i = d
    · subst hid
      simpa only [put, setv, if_true] using hx
    · have h1 := (RA.killed h.slots d x v o (h.slots i))
      have h2 := RA.step (og := O i) hs (fun g hg => ⟨(h.olt i g hg).1, hfree i g hid hg⟩) h1
      simpa only [put, setv, if_neg hid] using h2
  · simp only [setv] at hi hj
    by_cases hid : i = d <;> by_cases hjd : j = d
    · omega
    · rw [if_pos hid] at hi; rw [if_neg hjd] at hj; exact absurd hj ((ho g hi).2.2 j hjd)
    · rw [if_neg hid] at hi; rw [if_pos hjd] at hj; exact absurd hi ((ho g hj).2.2 i hid)
    · rw [if_neg hid] at hi; rw [if_neg hjd] at hj; exact h.inj i j g hi hj
  · simp only [setv] at hi
    by_cases hid : i = d
    · rw [if_pos hid] at hi; exact ⟨(ho g hi).1, (ho g hi).2.1⟩
    · rw [if_neg hid] at hi
      exact ⟨Nat.lt_of_lt_of_le (h.olt i g hi).1 hsize, (h.olt i g hi).2⟩

/-- A slot is written, memory is as it was, what is written owns nothing. -/
theorem Rel.putPure (h : Rel P w0 L0 row w L O σ tm) (d : Nat) (x : AV) (v : Value) (hx : RA P w L O σ tm none x v) : Rel P w0 L0 row w L (setv O d none) (put σ d x) (setv tm d v) :=
  h.putOwn d x v none noB (Same.refl w L _) h.grown (Nat.le_refl _) h.lok (fun _ h => h.elim) (fun _ _ _ _ h => h) (by simp) (RA.killed h.slots d x v none hx)

theorem Rel.putUndef (h : Rel P w0 L0 row w L O σ tm) (d : Nat) (v : Value) : Rel P w0 L0 row w L (setv O d none) (put σ d .undef) (setv tm d v) :=
  h.putPure d .undef v (by simp [RA, RC])

theorem setv_same (tm : Nat → Value) (d : Nat) : setv tm d (tm d) = tm := by
  funext i; unfold setv; split
  · subst_vars; rfl
  · rfl

/-- What is known of a slot may be forgotten. -/
theorem Rel.forget (h : Rel P w0 L0 row w L O σ tm) (d : Nat) : Rel P w0 L0 row w L (setv O d none) (put σ d .undef) tm := by
  have := h.putUndef d (tm d)
  rwa [setv_same] at this
end Go.Vw

/- The abstract operations, first part: what each does to an abstract state, and that the model's operation does it. -/
namespace Go.Vw
open Go.RowKit

def tmOf (a : Act) : Nat → Value := fun i => a.tmps.getD i undef

theorem tmOf_put {a : Act} {d : Nat} {v : Value} (hd : d < a.tmps.size) : tmOf (a.put (some d) v) = setv (tmOf a) d v := by
  funext i
  simp only [tmOf, Act.put, setv]
  by_cases h : i = d
  · subst h; simp [hd]
  · simp [h, Ne.symm h]

def Good (P : Program) (w0 : World) (L0 : Nat → Nat → Prop) (row : Nat → Prop) (n : Nat) (K : St → Prop) (a : Act) (w : World) : Prop :=
  ∃ L O σ, Rel P w0 L0 row w L O σ (tmOf a) ∧ a.defers = [] ∧ a.tmps.size = n ∧ K σ

theorem Good.mono {P : Program} {w0 : World} {L0 : Nat → Nat → Prop} {row : Nat → Prop} {n : Nat} {K K' : St → Prop} {a : Act} {w : World} (h : Good P w0 L0 row n K a w) (hk : ∀ σ, K σ → K' σ) : Good P w0 L0 row n K' a w :=
  let ⟨L, O, σ, h1, h2, h3, h4⟩ := h
  ⟨L, O, σ, h1, h2, h3, hk σ h4⟩

variable {P : Program} {w0 : World} {L0 : Nat → Nat → Prop} {row : Nat → Prop} {n : Nat} {K : St → Prop} {Q : Exit → Act → World → Prop}
  {w w' : World} {L L' : Nat → Nat → Prop} {O O' : Nat → Option Nat} {σ σ' : St} {a : Act} {o : Oper} {d : Nat} {v : Value} {tm : Nat → Value}

theorem val_step (hd : o.dst = some d) (hlt : d < n) (hsz : a.tmps.size = n) (hdef : a.defers = []) (hrun : (execOp a.eval o).run P w = .ok (.value v) w')
    (hrel : Rel P w0 L0 row w' L' O' σ' (setv (tmOf a) d v)) (hK : K σ') : o.wp P a w (Good P w0 L0 row n K) Q := by
  unfold Oper.wp
  rw [hrun]
  simp only [Oper.upon, hd]
  refine ⟨L', O', σ', ?_, ?_, ?_, hK⟩
  · rw [tmOf_put (by omega)]; exact hrel
  · simpa [Act.put] using hdef
  · simpa [Act.put] using hsz

theorem pure_step (hd : o.dst = some d) (hlt : d < n) (hsz : a.tmps.size = n) (hdef : a.defers = []) (h : Rel P w0 L0 row w L O σ (tmOf a)) {x : AV}
    (hrun : (execOp a.eval o).run P w = .ok (.value v) w) (hx : RA P w L O σ (tmOf a) none x v) (hK : K (put σ d x)) : o.wp P a w (Good P w0 L0 row n K) Q :=
  val_step hd hlt hsz hdef hrun (h.putPure d x v hx) hK

/-- What an operand is known to be. -/
def cval : Value → AV
  | .bool b => .d (.bool b)
  | .int k n => .d (.int k n)
  | .string s => .d (.str s.data.toList)
  | .slice none 0 0 => .nils
  | .pointer none => .d .nilp
  | _ => .undef

def rd (t : Nat) : AV → AV
  | .own m e l => .bor t m e l
  | .box _ => .adr t []
  | .tup _ => .undef
  | .iter _ _ => .undef
  | .undef => .undef
  | .d x => .d x
  | .nils => .nils
  | .full l => .full l
  | .bor j m e l => .bor j m e l
  | .adr j p => .adr j p
  | .eadr j i p => .eadr j i p
  | .sub j lo => .sub j lo
  | .hs _ _ _ => .undef
  | .hb _ _ => .undef

def aval (σ : St) : Operand → AV
  | .tmp t => rd t (σ t)
  | .const v => cval v
  | .func f => .d (.clo f [])
  | .global _ => .undef

theorem cval_ok (v : Value) {tm : Nat → Value} : RA P w L O σ tm none (cval v) v := by
  cases v <;> try (simp [cval, RA, RC]; done)
  case bool b => exact RepV.bool
  case int k n => exact RepV.int
  case string s => exact RepV.str
  case slice x len cap =>
    cases x <;> cases len <;> cases cap <;> simp [cval, RA, RC]
  case pointer x =>
    cases x <;> simp [cval, RA, RC]
    refine ⟨?_, rfl⟩
    simp [Rep, Value.cells]

theorem rd_ok {tm : Nat → Value} (hs : ∀ i, RA P w L O σ tm (O i) (σ i) (tm i)) (t : Nat) : RA P w L O σ tm none (rd t (σ t)) (tm t) := by
  have h := hs t
  cases hx : σ t <;> rw [hx] at h <;> simp only [rd]
  case own m e l => exact ⟨hx, rfl⟩
  case box x =>
    obtain ⟨g, C, e, h1, h2, _⟩ := h
    exact ⟨x, g, 0, by rw [hx]; rfl, h1, by simp [D.off], h2⟩
  case undef => simp [RA, RC]
  case tup => simp [RA, RC]
  case iter => simp [RA, RC]
  case d => exact h
  case nils => exact h
  case full => exact h
  case bor => exact h
  case adr => exact h
  case eadr => exact h
  case sub => exact h
  case hs => simp [RA, RC]
  case hb => simp [RA, RC]

theorem aval_ok (h : Rel P w0 L0 row w L O σ (tmOf a)) (x : Operand) : RA P w L O σ (tmOf a) none (aval σ x) (a.eval x) := by
  cases x with
  | tmp t => exact rd_ok h.slots t
  | const v => exact cval_ok v
  | func f =>
    refine ⟨?_, rfl⟩
    simp [Rep, RepL, Value.cells, Act.eval]
  | global g => simp [aval, RA, RC]

theorem aval_asD (h : Rel P w0 L0 row w L O σ (tmOf a)) {x : Operand} {d : D} (hd : asD (aval σ x) = some d) : RepV w L d (a.eval x) :=
  RA.asD h.slots (aval_ok h x) hd

theorem aval_d (h : Rel P w0 L0 row w L O σ (tmOf a)) {x : Operand} {d : D} (hd : aval σ x = .d d) : RepV w L d (a.eval x) := by
  have := aval_ok h x
  rw [hd] at this
  exact this

/-- The list that a slice holds, whoever may write to it. -/
def seqOf : AV → Option (List D)
  | .bor _ _ _ l => some l
  | .d (.sl l) => some l
  | .nils => some []
  | .full l => some l
  | _ => none

/-- A slice's value, as far as its length and its cells are concerned. -/
def SliceAt (w : World) (L : Nat → Nat → Prop) (l : List D) (v : Value) : Prop :=
  ∃ a cap css sz, v = .slice a l.length cap ∧ RepL w L l css ∧ (∀ c ∈ css, c.length = sz) ∧ l.length ≤ cap ∧
    (l ≠ [] → ∃ b off, a = some ⟨b, off, none⟩ ∧ ∀ k u, css.flatten[k]? = some u → w.cell? ⟨b, off + k, none⟩ = some u)

theorem RepV.sliceAt {l : List D} {v : Value} (h : RepV w L (.sl l) v) : SliceAt w L l v := by
  have h1 := h.cell rfl
  simp only [Rep] at h1
  obtain ⟨x, cap, css, sz, h2, h3, h4, h5, h6⟩ := h1
  refine ⟨x, cap, css, sz, by simpa using h2, h3, h4, h5, fun hn => ?_⟩
  obtain ⟨b, off, hx, hat⟩ := h6 hn
  exact ⟨b, off, hx, fun k u hk => (hat k u hk).1⟩

theorem OwnR.sliceAt {og : Option Nat} {m : Bool} {e : TypeId} {l : List D} {v : Value} (h : OwnR P w L og m e l v) : SliceAt w L l v := by
  obtain ⟨css, sz, h1, h2, h3, h4, h5⟩ := h
  rcases h4.2 with ⟨hv, hn⟩ | ⟨g, cap, cur, hv, hh, hnc, hcm, hsz, ht⟩
  · subst hv
    have hl : l = [] := List.eq_nil_of_length_eq_zero hn
    subst hl
    exact ⟨none, 0, css, sz, rfl, h2, h3, Nat.le_refl _, by simp⟩
  · subst hv
    refine ⟨some ⟨g, 0, none⟩, cap, css, sz, rfl, h2, h3, hnc, fun _ => ⟨g, 0, rfl, fun k u hk => ?_⟩⟩
    have hk1 := hk
    rw [← ht, List.getElem?_take] at hk1
    split at hk1
    · simp only [World.cell?, hh]
      simpa using hk1
    · cases hk1

theorem aval_seq (h : Rel P w0 L0 row w L O σ (tmOf a)) {x : Operand} {l : List D} (hx : seqOf (aval σ x) = some l) : SliceAt w L l (a.eval x) := by
  have h1 := aval_ok h x
  cases hv : aval σ x <;> rw [hv] at hx h1 <;> simp only [seqOf] at hx
  case bor j m e k =>
    simp only [Option.some.injEq] at hx
    subst hx
    obtain ⟨h2, h3⟩ := h1
    have h4 := h.slots j
    rw [h2] at h4
    rw [h3]
    exact OwnR.sliceAt h4
  case d y =>
    cases y <;> simp only [] at hx
    case sl k =>
      simp only [Option.some.injEq] at hx
      subst hx
      exact RepV.sliceAt h1
    all_goals cases hx
  case nils => simp only [Option.some.injEq] at hx; subst hx; simp only [RA, RC] at h1; rw [h1]; exact nil_rep.sliceAt
  case full k => simp only [Option.some.injEq] at hx; subst hx; exact RepV.sliceAt h1.1
  all_goals cases hx

theorem flatten_get {css : List (List Value)} {sz : Nat} (hs : ∀ c ∈ css, c.length = sz) : ∀ {i : Nat} {c : List Value}, css[i]? = some c → ∀ k u, c[k]? = some u → css.flatten[i * sz + k]? = some u := by
  induction css with
  | nil => intro i c h; simp at h
  | cons x xs ih =>
    intro i c h k u hk
    have hx : x.length = sz := hs x (by simp)
    cases i with
    | zero =>
      simp only [List.getElem?_cons_zero, Option.some.injEq] at h
      subst h
      have hlt : k < x.length := (List.getElem?_eq_some_iff.1 hk).1
      simp only [Nat.zero_mul, Nat.zero_add, List.flatten_cons]
      rw [List.getElem?_append_left hlt]
      exact hk
    | succ i =>
      simp only [List.getElem?_cons_succ] at h
      have := ih (fun c hc => hs c (by simp [hc])) h k u hk
      simp only [List.flatten_cons]
      rw [List.getElem?_append_right (by rw [hx, Nat.succ_mul]; omega), hx]
      rw [show (i + 1) * sz + k - sz = i * sz + k by rw [Nat.succ_mul]; omega]
      exact this

/-! ### loads -/
def tyk (P : Program) (t : TypeId) : Option (Bool × Nat) :=
  match P.underlying t, P.info? t with
  | some (.struct _), some i => some (true, i.size)
  | some (.array _ _), some i => some (true, i.size)
  | some _, some i => some (false, i.size)
  | _, _ => none

theorem run_isAgg_tyk {t : TypeId} {b : Bool} {k : Nat} (h : tyk P t = some (b, k)) (w : World) : (isAgg t).run P w = .ok b w := by
  unfold tyk at h
  cases hu : P.underlying t with
  | none => rw [hu] at h; cases P.info? t <;> simp at h
  | some u =>
    rw [hu] at h
    cases hi : P.info? t with
    | none => rw [hi] at h; cases u <;> simp at h
    | some i => rw [hi] at h; cases u <;> simp at h <;> simp [isAgg, run_underlying hu, h.1]

theorem run_sizeOf_tyk {t : TypeId} {b : Bool} {k : Nat} (h : tyk P t = some (b, k)) (w : World) : (sizeOf t).run P w = .ok k w := by
  unfold tyk at h
  cases hu : P.underlying t with
  | none => rw [hu] at h; cases P.info? t <;> simp at h
  | some u =>
    rw [hu] at h
    cases hi : P.info? t with
    | none => rw [hi] at h; cases u <;> simp at h
    | some i => rw [hi] at h; cases u <;> simp at h <;> simp [sizeOf, typeInfo, hi, h.2]

theorem rep_one {x : D} {cs : List Value} (h : Rep w L x cs) (hx : x.isAgg = false) : ∃ u, cs = [u] ∧ vIsAgg u = false := by
  cases x <;> simp only [Rep] at h <;> first
    | exact ⟨_, h.1, h.2.2⟩
    | (simp [D.isAgg] at hx; done)
    | (obtain ⟨_, _, _, _, h, _⟩ := h; exact ⟨_, h, rfl⟩)
    | (obtain ⟨_, _, _, h, _⟩ := h; exact ⟨_, h, rfl⟩)
    | (obtain ⟨_, _, h⟩ := h; exact ⟨_, h, rfl⟩)
    | exact ⟨_, h, rfl⟩

/-- The cells of x from (b, off) on, loaded at a type of x's shape. -/
theorem run_loadVar {t : TypeId} {x : D} {b off : Nat} {cs : List Value} (ht : tyk P t = some (x.isAgg, width x)) (hr : Rep w L x cs)
    (hc : ∀ k u, cs[k]? = some u → w.cell? ⟨b, off + k, none⟩ = some u) : ∃ v, (loadVar t ⟨b, off, none⟩).run P w = .ok v w ∧ RepV w L x v := by
  cases hx : x.isAgg with
  | true =>
    rw [hx] at ht
    have hl : cs.length = width x := Rep.len x cs hr
    refine ⟨.agg cs.toArray, ?_, ⟨by simpa [Value.cells] using hr, by simp [vIsAgg, hx]⟩⟩
    simp only [loadVar, Sem.run_bind, run_isAgg_tyk ht, Result.andThen_ok, if_true, run_sizeOf_tyk ht, ← hl]
    rw [run_loadCells_list w ⟨b, off, none⟩ cs (fun j u hj => by rw [Addr.add_lit]; exact hc j u hj)]
    rfl
  | false =>
    rw [hx] at ht
    obtain ⟨u, hu, hv⟩ := rep_one hr hx
    subst hu
    refine ⟨u, ?_, RepV.of_cell hr hx hv⟩
    have := hc 0 u rfl
    simp only [Nat.add_zero] at this
    simp only [loadVar, Sem.run_bind, run_isAgg_tyk ht, Result.andThen_ok, Bool.false_eq_true, if_false, run_load, this]

theorem rep_ref_inv {x : D} {v : Value} (h : RepV w L (.ref x) v) : ∃ b off cs, v = .pointer (some ⟨b, off, none⟩) ∧ Rep w L x cs ∧ At w L b off cs := by
  have h1 := h.cell rfl
  simp only [Rep] at h1
  obtain ⟨b, off, cs, h2, h3, h4⟩ := h1
  exact ⟨b, off, cs, by simpa using h2, h3, h4⟩

/-- What an address is known to hold. -/
def deref (σ : St) : AV → Option D
  | .d (.ref x) => some x
  | .adr j p => match boxOf (σ j) with
    | some b => D.get p b
    | none => none
  | .eadr j i p => match ownOf (σ j) with
    | some (_, l) => match l[i]? with
      | some y => D.get p y
      | none => none
    | none => none
  | _ => none

theorem Rel.boxed (h : Rel P w0 L0 row w L O σ tm) {j : Nat} {d : D} (hj : boxOf (σ j) = some d) : BoxR w L (O j) d (valOf (σ j) (tm j)) := by
  have h1 := h.slots j
  cases hx : σ j <;> rw [hx] at hj h1 <;> simp only [boxOf, Option.some.injEq] at hj
  case box => subst hj; exact h1
  case hb => subst hj; exact h1
  all_goals cases hj
theorem Rel.owned (h : Rel P w0 L0 row w L O σ tm) {j : Nat} {e : TypeId} {l : List D} (hj : ownOf (σ j) = some (e, l)) : OwnR P w L (O j) true e l (valOf (σ j) (tm j)) := by
  have h1 := h.slots j
  cases hx : σ j <;> rw [hx] at hj h1 <;> simp only [ownOf] at hj
  case own m e' l' =>
    cases m with
    | false => cases hj
    | true => simp only [Option.some.injEq, Prod.mk.injEq] at hj; obtain ⟨rfl, rfl⟩ := hj; exact h1
  case hs => simp only [Option.some.injEq, Prod.mk.injEq] at hj; obtain ⟨rfl, rfl⟩ := hj; exact h1
  all_goals cases hj

theorem deref_ok (h : Rel P w0 L0 row w L O σ (tmOf a)) {y : AV} {v : Value} {x : D} (hy : RA P w L O σ (tmOf a) none y v) (hx : deref σ y = some x) :
    ∃ b off cs, v = .pointer (some ⟨b, off, none⟩) ∧ Rep w L x cs ∧ ∀ k u, cs[k]? = some u → w.cell? ⟨b, off + k, none⟩ = some u := by
  cases y <;> simp only [deref] at hx
  case d z =>
    cases z <;> simp only [] at hx
    case ref z =>
      simp only [Option.some.injEq] at hx
      subst hx
      obtain ⟨b, off, cs, h1, h2, h3⟩ := rep_ref_inv hy
      exact ⟨b, off, cs, h1, h2, fun k u hk => (h3 k u hk).1⟩
    all_goals cases hx
  case adr j p =>
    obtain ⟨z, g, off, h1, h2, h3, h4⟩ := hy
    rw [h1] at hx
    simp only at hx
    obtain ⟨g', C, e, h6, h7, h8, h9, h10⟩ := h.boxed h1
    rw [h2] at h6
    obtain rfl : g = g' := by simpa using h6
    obtain ⟨pre, c, post, hC, hl, hr, _⟩ := Rep.part h9 hx h3
    refine ⟨g, off, c, h4, hr, fun k u hk => ?_⟩
    have hk1 : k < c.length := (List.getElem?_eq_some_iff.1 hk).1
    have : C.toList[off + k]? = some u := by
      rw [hC, List.getElem?_append_left (by simp only [List.length_append]; omega), List.getElem?_append_right (by omega), ← hl]
      simpa using hk
    simp only [World.cell?, h8]
    simpa using this
  case eadr j i p =>
    obtain ⟨e, l, g, sz, n, c, z, off, h1, h2, h3, h4, h5, h6⟩ := hy
    rw [h1] at hx
    simp only [h4] at hx
    obtain ⟨css, sz', g1, g2, g3, g4, g5⟩ := h.owned h1
    rw [h3] at g1
    obtain rfl : sz = sz' := by simpa using g1
    rw [h2] at g4
    have hcells := g4.cells (g := g) rfl
    obtain ⟨ci, hci, hri⟩ := g2.get h4
    obtain ⟨pre, c1, post, hC, hl, hr, _⟩ := Rep.part hri hx h5
    refine ⟨g, i * sz + off, c1, h6, hr, fun k u hk => ?_⟩
    have hk1 : k < c1.length := (List.getElem?_eq_some_iff.1 hk).1
    have h8 : ci[off + k]? = some u := by
      rw [hC, List.getElem?_append_left (by simp only [List.length_append]; omega), List.getElem?_append_right (by omega), ← hl]
      simpa using hk
    have h9 := hcells _ u (flatten_get g3 hci _ u h8)
    rw [Addr.add_lit] at h9
    rw [← h9]
    congr 2; omega
  all_goals cases hx
end Go.Vw

/- Filling rows: the model's build operations. -/
namespace Go.Vw
open Go.RowKit

theorem foldl_set (off : Nat) : ∀ (l : List Value) (k : Nat) (A : Array Value), off + k + l.length ≤ A.size →
    ((l.zipIdx k).foldl (fun (cs : Array Value) (p : Value × Nat) => cs.setIfInBounds (off + p.2) p.1) A).toList = A.toList.take (off + k) ++ l ++ A.toList.drop (off + k + l.length)
  | [], k, A, _ => by simp
  | x :: l, k, A, h => by
    simp only [List.length_cons] at h
    simp only [List.zipIdx_cons, List.foldl_cons]
    rw [foldl_set off l (k + 1) _ (by simp; omega)]
    simp only [Array.toList_setIfInBounds, List.length_cons]
    have h1 : (A.toList.set (off + k) x).take (off + (k + 1)) = A.toList.take (off + k) ++ [x] := by
      rw [← Nat.add_assoc, List.take_add_one, List.take_set_of_le (Nat.le_refl _)]
      rw [List.getElem?_set_self (by simp; omega)]
      rfl
    have h2 : (A.toList.set (off + k) x).drop (off + (k + 1) + l.length) = A.toList.drop (off + k + (l.length + 1)) := by
      rw [List.drop_set_of_lt (by omega)]
      congr 1; omega
    rw [h1, h2]
    simp

theorem fill_one (place : Nat → Option (Nat × Nat)) (cells : Array Value) (i off : Nat) (v : Value) (rest : List (Nat × Value)) (hp : place i = some (off, v.cells.size)) (h : off + v.cells.size ≤ cells.size) :
    ∃ cells', Instr.fill place cells ((i, v) :: rest) = Instr.fill place cells' rest ∧ cells'.toList = cells.toList.take off ++ v.cells.toList ++ cells.toList.drop (off + v.cells.size) := by
  have h0 : ¬ cells.size < off + v.cells.size := by omega
  refine ⟨v.cells.zipIdx.foldl (fun (cs : Array Value) (p : Value × Nat) => cs.setIfInBounds (off + p.2) p.1) cells, ?_, ?_⟩
  · simp only [Instr.fill, hp, ne_eq, not_true_eq_false, decide_false, gt_iff_lt, h0, Bool.or_self, Bool.false_eq_true, if_false]
  have := foldl_set off v.cells.toList 0 cells (by simpa using h)
  simp only [Nat.add_zero, Array.length_toList] at this
  rw [← this, ← Array.foldl_toList, Array.toList_zipIdx]

variable {P : Program} {w0 : World} {L0 : Nat → Nat → Prop} {row : Nat → Prop} {n : Nat} {K : St → Prop} {Q : Exit → Act → World → Prop}
  {w w' : World} {L L' : Nat → Nat → Prop} {O O' : Nat → Option Nat} {σ σ' : St} {a : Act} {o : Oper} {d : Nat} {v : Value}

/-- A datum without memory, held by these cells in every world. -/
def repB : D → List Value → Bool
  | .bool b, [.bool c] => b == c
  | .int k m, [.int k' m'] => decide (k = k') && decide (m = m')
  | .str s, [.string t] => decide (s = t.data.toList)
  | .sl [], [.slice none 0 0] => true
  | .nilp, [.pointer none] => true
  | .raw (.slice none 0 0), [.slice none 0 0] => true
  | _, _ => false

theorem repB_ok {d : D} {cs : List Value} (h : repB d cs = true) : Rep w L d cs := by
  unfold repB at h
  split at h
  · simp only [beq_iff_eq] at h; subst h; rfl
  · simp only [Bool.and_eq_true, decide_eq_true_eq] at h; obtain ⟨rfl, rfl⟩ := h; rfl
  · rename_i s t
    simp only [decide_eq_true_eq] at h
    subst h
    simp [Rep]
  · simp only [Rep]
    exact ⟨none, 0, [], 0, rfl, by simp [RepL], by simp, by simp, by simp⟩
  · rfl
  · simp only [Rep]; exact ⟨trivial, by simp [Value.oneCell'], rfl⟩
  · cases h

mutual
def repZ : D → List Value → Option (List Value)
  | .agg ds, cs => repZs ds cs
  | x, c :: cs => if repB x [c] then some cs else none
  | _, [] => none
def repZs : List D → List Value → Option (List Value)
  | [], cs => some cs
  | x :: xs, cs => match repZ x cs with
    | some cs' => repZs xs cs'
    | none => none
end

theorem repZ_leaf {d : D} {cs cs' : List Value} (hd : d.isAgg = false) (h : repZ d cs = some cs') : ∃ c, cs = c ++ cs' ∧ Rep w L d c := by
  cases cs with
  | nil => cases d <;> simp [repZ, D.isAgg] at h hd
  | cons c cs =>
    have h1 : (if repB d [c] then some cs else none) = some cs' := by
      cases d <;> simp only [repZ] at h <;> first | exact h | (simp [D.isAgg] at hd)
    split at h1
    · rename_i hb
      simp only [Option.some.injEq] at h1
      subst h1
      exact ⟨[c], rfl, repB_ok hb⟩
    · cases h1

mutual
theorem repZ_ok : ∀ (d : D) (cs cs' : List Value), repZ d cs = some cs' → ∃ c, cs = c ++ cs' ∧ Rep w L d c
  | .agg ds, cs, cs', h => by
    simp only [repZ] at h
    obtain ⟨css, h1, h2⟩ := repZs_ok ds cs cs' h
    refine ⟨css.flatten, h1, ?_⟩
    simp only [Rep]
    exact ⟨css, h2, rfl⟩
  | .bool _, _, _, h => repZ_leaf rfl h
  | .int _ _, _, _, h => repZ_leaf rfl h
  | .str _, _, _, h => repZ_leaf rfl h
  | .sl _, _, _, h => repZ_leaf rfl h
  | .ref _, _, _, h => repZ_leaf rfl h
  | .clo _ _, _, _, h => repZ_leaf rfl h
  | .nilp, _, _, h => repZ_leaf rfl h
  | .raw _, _, _, h => repZ_leaf rfl h
theorem repZs_ok : ∀ (ds : List D) (cs cs' : List Value), repZs ds cs = some cs' → ∃ css, cs = css.flatten ++ cs' ∧ RepL w L ds css
  | [], cs, cs', h => by simp only [repZs, Option.some.injEq] at h; subst h; exact ⟨[], by simp, by simp [RepL]⟩
  | x :: xs, cs, cs', h => by
    simp only [repZs] at h
    cases hx : repZ x cs with
    | none => rw [hx] at h; cases h
    | some c1 =>
      rw [hx] at h
      simp only at h
      obtain ⟨c, h1, h2⟩ := repZ_ok x cs c1 hx
      obtain ⟨css, h3, h4⟩ := repZs_ok xs c1 cs' h
      refine ⟨c :: css, by simp [h1, h3], ?_⟩
      simp only [RepL]
      exact ⟨c, css, rfl, h2, h4⟩
end

/-- The zero datum of a type: what its fields' types say. -/
def zeroTX (P : Program) (N : Bool) : Nat → TypeId → D
  | 0, _ => .nilp
  | f + 1, t => match P.underlying t with
    | some .string => .str []
    | some .bool => .bool false
    | some (.int k) => .int k 0
    | some (.slice _) => if N then .raw (.slice none 0 0) else .sl []
    | some (.struct fs) => .agg (fs.toList.map fun x => zeroTX P N f x.type)
    | some (.array m e) => .agg (List.replicate m (zeroTX P N f e))
    | _ => .nilp

def allRead : Option (List Value) → Bool
  | some [] => true
  | _ => false
theorem allRead_eq {x : Option (List Value)} (h : allRead x = true) : x = some [] := by
  unfold allRead at h
  split at h
  · rfl
  · cases h

def zeroDX (P : Program) (N : Bool) (t : TypeId) : Option D :=
  match P.info? t with
  | some i => match i.zero with
    | some v => if allRead (repZ (zeroTX P N 8 t) v.cells.toList) = true ∧ vIsAgg v = (zeroTX P N 8 t).isAgg ∧ i.size = width (zeroTX P N 8 t) then some (zeroTX P N 8 t) else none
    | none => none
  | none => none

theorem zeroDX_ok {N : Bool} {t : TypeId} {z : D} (h : zeroDX P N t = some z) (w : World) (L : Nat → Nat → Prop) : ∃ v, (zeroValue t).run P w = .ok v w ∧ RepV w L z v ∧ (sizeOf t).run P w = .ok (width z) w := by
  unfold zeroDX at h
  cases hi : P.info? t with
  | none => rw [hi] at h; cases h
  | some i =>
    rw [hi] at h
    simp only at h
    cases hz : i.zero with
    | none => rw [hz] at h; cases h
    | some v =>
      rw [hz] at h
      simp only at h
      split at h
      · rename_i hc
        simp only [Option.some.injEq] at h
        subst h
        obtain ⟨c, hc1, hc2⟩ := repZ_ok (w := w) (L := L) _ _ _ (allRead_eq hc.1)
        refine ⟨v, by simp [zeroValue, typeInfo, hi, hz], ⟨?_, hc.2.1⟩, by simp [sizeOf, typeInfo, hi, hc.2.2]⟩
        rw [hc1]
        simpa using hc2
      · cases h

/-- The zero datum: nil slices as data, or (zeroDX true) by name. -/
def zeroD (P : Program) (t : TypeId) : Option D := zeroDX P false t
theorem zeroD_ok {t : TypeId} {z : D} (h : zeroD P t = some z) (w : World) (L : Nat → Nat → Prop) : ∃ v, (zeroValue t).run P w = .ok v w ∧ RepV w L z v ∧ (sizeOf t).run P w = .ok (width z) w := zeroDX_ok h w L

/-- A struct's fields: their zero data, where they lie, as the type's table has it. -/
def fieldsFit (P : Program) (zs : List D) : Nat → List Field → Bool
  | _, [] => true
  | i, f :: fs => (match P.info? f.type with
    | some x => decide (f.offset = widths (zs.take i)) && decide (x.size = width (zs.getD i .nilp)) && decide (0 < x.size)
    | none => false) && fieldsFit P zs (i + 1) fs
def structDX (P : Program) (N : Bool) (t : TypeId) : Option (List D) :=
  match zeroDX P N t, P.underlying t with
  | some (.agg zs), some (.struct fs) => if fs.size = zs.length ∧ fieldsFit P zs 0 fs.toList = true then some zs else none
  | _, _ => none

def structD (P : Program) (t : TypeId) : Option (List D) := structDX P false t

theorem fieldsFit_get {zs : List D} : ∀ {fs : List Field} {k i : Nat} {f : Field}, fieldsFit P zs k fs = true → fs[i]? = some f →
    ∃ x, P.info? f.type = some x ∧ f.offset = widths (zs.take (k + i)) ∧ x.size = width (zs.getD (k + i) .nilp) ∧ 0 < x.size
  | [], _, _, _, _, hi => by simp at hi
  | g :: fs, k, 0, f, h, hi => by
    simp only [List.getElem?_cons_zero, Option.some.injEq] at hi
    subst hi
    simp only [fieldsFit, Bool.and_eq_true] at h
    cases hx : P.info? g.type with
    | none => rw [hx] at h; simp at h
    | some x =>
      rw [hx] at h
      simp only [Bool.and_eq_true, decide_eq_true_eq] at h
      exact ⟨x, rfl, by simpa using h.1.1.1, by simpa using h.1.1.2, h.1.2⟩
  | g :: fs, k, i + 1, f, h, hi => by
    simp only [List.getElem?_cons_succ] at hi
    simp only [fieldsFit, Bool.and_eq_true] at h
    have := fieldsFit_get h.2 hi
    rwa [show k + 1 + i = k + (i + 1) by omega] at this

theorem structDX_parts {N : Bool} {t : TypeId} {zs : List D} (h : structDX P N t = some zs) :
    ∃ fs : Array Field, P.underlying t = some (.struct fs) ∧ fs.size = zs.length ∧ zeroDX P N t = some (.agg zs) ∧
      ∀ i f, fs[i]? = some f → ∃ x, P.info? f.type = some x ∧ f.offset = widths (zs.take i) ∧ x.size = width (zs.getD i .nilp) ∧ 0 < x.size := by
  unfold structDX at h
  split at h
  · rename_i ys fs hz hu
    split at h
    · rename_i hc
      simp only [Option.some.injEq] at h
      subst h
      refine ⟨fs, hu, hc.1, hz, fun i f hf => ?_⟩
      have := fieldsFit_get (i := i) (f := f) hc.2 (by simpa using hf)
      simpa using this
    · cases h
  · cases h
end Go.Vw
