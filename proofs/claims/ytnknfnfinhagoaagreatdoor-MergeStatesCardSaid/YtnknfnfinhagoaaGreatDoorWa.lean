/-
  The abstract walk through a translated function, part 1 of 4: its data, its operations, and that it is sound, for every program. No conditions beyond those that each theorem states.
-/import Derived.Below
import Derived.Laws.OwnMore
import Derived.Deep.Draws
import Derived.Laws.StructEq
import Derived.WalkKit
import Derived.Laws.AppendOwn
import Derived.Shelf.Abstract
import Derived.IntWalk
import Derived.Lib.Strings
import Derived.Laws.IdiomStrings
import Derived.Laws.Cover3
import Derived.Deep.DeepAppendRoom
import Derived.Laws.MakeOwn
import Derived.Lib.AppendStr
import Derived.Lib.ConvBytes
import Derived.Lib.OthersKept
open List
set_option linter.unusedSimpArgs false
set_option linter.unusedVariables false
namespace Go.Vw
open Go.RowKit
abbrev Str := List UInt8
inductive D where
 | bool (b : Bool)
 | int (k : IntKind) (n : Int)
 | str (s : Str)
 | sl (ds : List D)
 | agg (ds : List D)
 | ref (d : D)
 | clo (f : FuncId) (caps : List D)
 | bnd (f : FuncId) (first : List D)
 | nilp
 | raw (v : Value)
 | map (u : Value) (ks vs : List D) (bs : List Nat) (clk : Nat)
def D.isAgg : D -> Bool
 | .agg _ => true
 | _ => false
def K7 : Value -> Bool
 | .agg _ => true
 | _ => false
mutual
def C0 : D -> Nat
 | .agg ds => D6 ds
 | _ => 1
def D6 : List D -> Nat
 | [] => 0
 | d :: ds => C0 d + D6 ds
end
def At (w : World) (L : Nat -> Nat -> Prop) (b off : Nat) (cs : List Value) : Prop :=
 ∀ k v, cs[k]? = some v -> w.cell? ⟨b, off + k, none⟩ = some v /\ L b (off + k)
inductive a1n where
 | cell (v : Value)
 | obj (o : Obj)
def a4B (w : World) (b o : Nat) : Option a1n :=
 match w.cell? ⟨b, o, none⟩ with
 | some v => some (.cell v)
 | none => (w.heap[b]?).map .obj
theorem J4 {w w' : World} {b : Nat} (h : w'.heap[b]? = w.heap[b]?) (o : Nat) : a4B w' b o = a4B w b o := by
 simp only [a4B, World.cell?, h]
theorem a4X {w : World} {b o : Nat} {v : Value} : a4B w b o = some (.cell v) ↔ w.cell? ⟨b, o, none⟩ = some v := by
 unfold a4B; cases h : w.cell? ⟨b, o, none⟩ with
 | some u => simp
 | none => cases w.heap[b]? <;> simp
theorem c3d {w : World} {b o : Nat} {x : Obj} (h : w.cell? ⟨b, o, none⟩ = none) (hx : w.heap[b]? = some x) : a4B w b o = some (.obj x) := by
 simp [a4B, h, hx]
theorem b5J {w : World} {b o : Nat} {x : Obj} (h : a4B w b o = some (.obj x)) : w.heap[b]? = some x := by
 unfold a4B at h; cases hc : w.cell? ⟨b, o, none⟩ with
 | some u => simp [hc] at h
 | none => simpa [hc] using h
def LB (w : World) (L : Nat -> Nat -> Prop) (b : Nat) : Prop := ∃ C e m, w.heap[b]? = some (.cells C e m) /\ L b C.size
def AtR (w : World) (L : Nat -> Nat -> Prop) (b off : Nat) (cs : List Value) : Prop :=
 ∀ k v, cs[k]? = some v -> w.cell? ⟨b, off + k, none⟩ = some v /\ (L b (off + k) \/ LB w L b)
mutual
def Rep (w : World) (L : Nat -> Nat -> Prop) : D -> List Value -> Prop
 | .bool b, cs => cs = [.bool b]
 | .int k n, cs => cs = [.int k n]
 | .str s, cs => cs = [.string ⟨s.toArray⟩]
 | .sl ds, cs => ∃ a cap css sz, cs = [.slice a ds.length cap] /\ A8 w L ds css /\ (∀ c ∈ css, c.length = sz) /\ ds.length <= cap /\
     (ds ≠ [] -> ∃ b off, a = some ⟨b, off, none⟩ /\ At w L b off css.flatten)
 | .agg ds, cs => ∃ css, A8 w L ds css /\ cs = css.flatten
 | .ref d, cs => ∃ b off cs', cs = [.pointer (some ⟨b, off, none⟩)] /\ Rep w L d cs' /\ AtR w L b off cs'
 | .clo f caps, cs => ∃ css, A8 w L caps css /\ cs = [.func (.func f) #[] css.flatten.toArray]
 | .bnd f first, cs => ∃ vs : List Value, A8 w L first (vs.map fun v => v.cells.toList) /\ vs.map K7 = first.map D.isAgg /\ cs = [.func (.func f) vs.toArray #[]]
 | .nilp, cs => cs = [.pointer none]
 | .raw v, cs => cs = [v] /\ v.oneCell' = true /\ K7 v = false
 | .map u ks vs bs clk, cs => ∃ g es kss vss, cs = [u] /\ u = .map (some g) /\ w.heap[g]? = some (.map es clk) /\ L g 0 /\ A8 w L ks kss /\ A8 w L vs vss /\ kss = es.toList.map (fun e => e.key.cells.toList) /\ vss = es.toList.map (fun e => e.val.cells.toList) /\
     ks.map D.isAgg = es.toList.map (fun e => K7 e.key) /\ vs.map D.isAgg = es.toList.map (fun e => K7 e.val) /\ bs = es.toList.map (·.born) /\ ks.Nodup /\ bs.Nodup /\ ∀ b ∈ bs, b < clk
def A8 (w : World) (L : Nat -> Nat -> Prop) : List D -> List (List Value) -> Prop
 | [], css => css = []
 | d :: ds, css => ∃ c cs, css = c :: cs /\ Rep w L d c /\ A8 w L ds cs
end
def Ext (w : World) (L : Nat -> Nat -> Prop) (w' : World) (L' : Nat -> Nat -> Prop) : Prop :=
 ∀ b o, L b o -> L' b o /\ (∀ x, a4B w b o = some x -> a4B w' b o = some x)
theorem Ext.cell {w w' : World} {L L' : Nat -> Nat -> Prop} (hx : Ext w L w' L') {b o : Nat} (hL : L b o) {v : Value} (h : w.cell? ⟨b, o, none⟩ = some v) : w'.cell? ⟨b, o, none⟩ = some v := a4X.1 ((hx b o hL).2 _ (a4X.2 h))
theorem Ext.obj {w w' : World} {L L' : Nat -> Nat -> Prop} (hx : Ext w L w' L') {b o : Nat} (hL : L b o) {x : Obj} (hc : w.cell? ⟨b, o, none⟩ = none) (h : w.heap[b]? = some x) : w'.heap[b]? = some x := b5J ((hx b o hL).2 _ (c3d hc h))
theorem At.mono {w w' : World} {L L' : Nat -> Nat -> Prop} {b off : Nat} {cs : List Value} (h : At w L b off cs) (hx : Ext w L w' L') : At w' L' b off cs :=
 fun k v hk => ⟨hx.cell (h k v hk).2 (h k v hk).1, (hx _ _ (h k v hk).2).1⟩
theorem AtR.mono {w w' : World} {L L' : Nat -> Nat -> Prop} {b off : Nat} {cs : List Value} (h : AtR w L b off cs) (hx : Ext w L w' L') : AtR w' L' b off cs := by
 intro k v hk; obtain ⟨h1, h2⟩ := h k v hk; rcases h2 with h2 | ⟨C, e, m, h3, h4⟩
 . exact ⟨hx.cell h2 h1, .inl (hx _ _ h2).1⟩
 . have h5 := hx.obj h4 (by simp [World.cell?, h3]) h3; refine ⟨?_, .inr ⟨C, e, m, h5, (hx _ _ h4).1⟩⟩; simp only [World.cell?, h3, h5] at h1 ⊢; exact h1
mutual
theorem Rep.mono {w w' : World} {L L' : Nat -> Nat -> Prop} (hx : Ext w L w' L') : ∀ (d : D) (cs : List Value), Rep w L d cs -> Rep w' L' d cs
 | .bool _, _, h => h
 | .int _ _, _, h => h
 | .str _, _, h => h
 | .sl ds, _, h => by
   simp only [Rep] at h ⊢; obtain ⟨a, cap, css, sz, h1, h2, h3, h4, h5⟩ := h; refine ⟨a, cap, css, sz, h1, A8.mono hx ds css h2, h3, h4, fun hn => ?_⟩; obtain ⟨b, off, ha, hat⟩ := h5 hn; exact ⟨b, off, ha, hat.mono hx⟩
 | .agg ds, _, h => by
   simp only [Rep] at h ⊢; obtain ⟨css, h1, h2⟩ := h; exact ⟨css, A8.mono hx ds css h1, h2⟩
 | .ref d, _, h => by
   simp only [Rep] at h ⊢; obtain ⟨b, off, cs', h1, h2, h3⟩ := h; exact ⟨b, off, cs', h1, Rep.mono hx d cs' h2, h3.mono hx⟩
 | .clo f caps, _, h => by
   simp only [Rep] at h ⊢; obtain ⟨css, h1, h2⟩ := h; exact ⟨css, A8.mono hx caps css h1, h2⟩
 | .bnd f first, _, h => by
   simp only [Rep] at h ⊢; obtain ⟨vs, h1, h2, h3⟩ := h; exact ⟨vs, A8.mono hx first _ h1, h2, h3⟩
 | .nilp, _, h => h
 | .raw _, _, h => h
 | .map u ks vs bs clk, _, h => by
   simp only [Rep] at h ⊢; obtain ⟨g, es, kss, vss, h1, h2, h3, h4, h5, h6, h7⟩ := h; exact ⟨g, es, kss, vss, h1, h2, hx.obj h4 (by simp [World.cell?, h3]) h3, (hx _ _ h4).1, A8.mono hx ks kss h5, A8.mono hx vs vss h6, h7⟩
theorem A8.mono {w w' : World} {L L' : Nat -> Nat -> Prop} (hx : Ext w L w' L') : ∀ (ds : List D) (css : List (List Value)), A8 w L ds css -> A8 w' L' ds css
 | [], _, h => h
 | d :: ds, _, h => by
   simp only [A8] at h ⊢; obtain ⟨c, cs, h1, h2, h3⟩ := h; exact ⟨c, cs, h1, Rep.mono hx d c h2, A8.mono hx ds cs h3⟩
end
mutual
theorem Rep.len {w : World} {L : Nat -> Nat -> Prop} : ∀ (d : D) (cs : List Value), Rep w L d cs -> cs.length = C0 d
 | .bool _, _, h => by simp only [Rep] at h; subst h; rfl
 | .int _ _, _, h => by simp only [Rep] at h; subst h; rfl
 | .str _, _, h => by simp only [Rep] at h; subst h; rfl
 | .sl ds, _, h => by simp only [Rep] at h; obtain ⟨a, cap, css, sz, h1, _⟩ := h; subst h1; rfl
 | .agg ds, _, h => by
   simp only [Rep] at h; obtain ⟨css, h1, h2⟩ := h; subst h2; simp only [C0]; exact A8.len ds css h1
 | .ref d, _, h => by simp only [Rep] at h; obtain ⟨b, off, cs', h1, _⟩ := h; subst h1; rfl
 | .clo f caps, _, h => by simp only [Rep] at h; obtain ⟨css, _, h1⟩ := h; subst h1; rfl
 | .bnd f first, _, h => by simp only [Rep] at h; obtain ⟨vs, _, _, h1⟩ := h; subst h1; rfl
 | .nilp, _, h => by simp only [Rep] at h; subst h; rfl
 | .raw _, _, h => by simp only [Rep] at h; obtain ⟨rfl, _⟩ := h; rfl
 | .map _ _ _ _ _, _, h => by simp only [Rep] at h; obtain ⟨g, es, kss, vss, rfl, _⟩ := h; rfl
theorem A8.len {w : World} {L : Nat -> Nat -> Prop} : ∀ (ds : List D) (css : List (List Value)), A8 w L ds css -> css.flatten.length = D6 ds
 | [], _, h => by simp only [A8] at h; subst h; rfl
 | d :: ds, _, h => by
   simp only [A8] at h; obtain ⟨c, cs, h1, h2, h3⟩ := h; subst h1; simp only [flatten_cons, length_append, D6, Rep.len d c h2, A8.len ds cs h3]
end
theorem A8.count {w : World} {L : Nat -> Nat -> Prop} : ∀ {ds : List D} {css : List (List Value)}, A8 w L ds css -> css.length = ds.length
 | [], _, h => by simp only [A8] at h; subst h; rfl
 | d :: ds, _, h => by
   simp only [A8] at h; obtain ⟨c, cs, h1, h2, h3⟩ := h; subst h1; simp [A8.count h3]
theorem A8.get {w : World} {L : Nat -> Nat -> Prop} : ∀ {ds : List D} {css : List (List Value)} {i : Nat} {d : D}, A8 w L ds css -> ds[i]? = some d -> ∃ c, css[i]? = some c /\ Rep w L d c
 | [], _, i, d, h, hi => by simp at hi
 | d :: ds, _, 0, x, h, hi => by
   simp only [A8] at h; obtain ⟨c, cs, rfl, h2, h3⟩ := h; simp only [getElem?_cons_zero, Option.some.injEq] at hi; subst hi; exact ⟨c, rfl, h2⟩
 | d :: ds, _, i + 1, x, h, hi => by
   simp only [A8] at h; obtain ⟨c, cs, rfl, h2, h3⟩ := h; simp only [getElem?_cons_succ] at hi; simpa using A8.get h3 hi
theorem A8.append {w : World} {L : Nat -> Nat -> Prop} : ∀ {ds es : List D} {css dss : List (List Value)}, A8 w L ds css -> A8 w L es dss -> A8 w L (ds ++ es) (css ++ dss)
 | [], _, _, _, h, k => by simp only [A8] at h; subst h; simpa using k
 | d :: ds, _, _, _, h, k => by
   simp only [A8] at h; obtain ⟨c, cs, rfl, h2, h3⟩ := h; simp only [cons_append, A8]; exact ⟨c, _, rfl, h2, A8.append h3 k⟩
theorem A8.drop {w : World} {L : Nat -> Nat -> Prop} : ∀ {ds : List D} {css : List (List Value)} (n : Nat), A8 w L ds css -> A8 w L (ds.drop n) (css.drop n)
 | _, _, 0, h => h
 | [], _, n + 1, h => by simp only [A8] at h; subst h; simp [A8]
 | d :: ds, _, n + 1, h => by
   simp only [A8] at h; obtain ⟨c, cs, rfl, h2, h3⟩ := h; simpa using A8.drop n h3
theorem A8.take {w : World} {L : Nat -> Nat -> Prop} : ∀ {ds : List D} {css : List (List Value)} (n : Nat), A8 w L ds css -> A8 w L (ds.take n) (css.take n)
 | _, _, 0, _ => by simp [A8]
 | [], _, n + 1, h => by simp only [A8] at h; subst h; simp [A8]
 | d :: ds, _, n + 1, h => by
   simp only [A8] at h; obtain ⟨c, cs, rfl, h2, h3⟩ := h; simp only [take_succ_cons, A8]; exact ⟨c, _, rfl, h2, A8.take n h3⟩
theorem A8.set {w : World} {L : Nat -> Nat -> Prop} : ∀ {ds : List D} {css : List (List Value)} {i : Nat} {d : D} {c : List Value}, A8 w L ds css -> Rep w L d c -> A8 w L (ds.set i d) (css.set i c)
 | [], _, _, _, _, h, _ => by simp only [A8] at h; subst h; simp [A8]
 | d :: ds, _, 0, x, c', h, hd => by
   simp only [A8] at h; obtain ⟨c, cs, rfl, h2, h3⟩ := h; simp only [set_cons_zero, A8]; exact ⟨c', _, rfl, hd, h3⟩
 | d :: ds, _, i + 1, x, c', h, hd => by
   simp only [A8] at h; obtain ⟨c, cs, rfl, h2, h3⟩ := h; simp only [set_cons_succ, A8]; exact ⟨c, _, rfl, h2, A8.set h3 hd⟩
theorem A8.one {w : World} {L : Nat -> Nat -> Prop} {d : D} {c : List Value} (h : Rep w L d c) : A8 w L [d] [c] := by
 simp only [A8]; exact ⟨c, [], rfl, h, rfl⟩
def RepV (w : World) (L : Nat -> Nat -> Prop) (d : D) (v : Value) : Prop := Rep w L d v.cells.toList /\ K7 v = d.isAgg
theorem RepV.mono {w w' : World} {L L' : Nat -> Nat -> Prop} (hx : Ext w L w' L') {d : D} {v : Value} (h : RepV w L d v) : RepV w' L' d v := ⟨Rep.mono hx d _ h.1, h.2⟩
theorem a7B {v : Value} (h : K7 v = false) : v.cells = #[v] := by cases v <;> first | rfl | (simp [K7] at h)
theorem RepV.cell {w : World} {L : Nat -> Nat -> Prop} {d : D} {v : Value} (h : RepV w L d v) (hd : d.isAgg = false) : Rep w L d [v] := by
 have := h.1
 rwa [a7B (h.2.trans hd)] at this
theorem RepV.of_cell {w : World} {L : Nat -> Nat -> Prop} {d : D} {v : Value} (h : Rep w L d [v]) (hd : d.isAgg = false) (hv : K7 v = false) : RepV w L d v := by
 refine ⟨?_, hv.trans hd.symm⟩; rw [a7B hv]; exact h
theorem RepV.int {w : World} {L : Nat -> Nat -> Prop} {k : IntKind} {n : Int} : RepV w L (.int k n) (.int k n) := ⟨by simp [Rep, Value.cells], rfl⟩
theorem RepV.bool {w : World} {L : Nat -> Nat -> Prop} {b : Bool} : RepV w L (.bool b) (.bool b) := ⟨by simp [Rep, Value.cells], rfl⟩
theorem RepV.str {w : World} {L : Nat -> Nat -> Prop} {s : Str} : RepV w L (.str s) (.string ⟨s.toArray⟩) := ⟨by simp [Rep, Value.cells], rfl⟩
theorem RepV.raw_inv {w : World} {L : Nat -> Nat -> Prop} {u v : Value} (h : RepV w L (.raw u) v) : v = u := by
 have := h.cell rfl; simp only [Rep] at this; simpa using this.1
theorem RepV.raw {w : World} {L : Nat -> Nat -> Prop} {u : Value} (h1 : u.oneCell' = true) (h2 : K7 u = false) : RepV w L (.raw u) u :=
 .of_cell (by simp only [Rep]; exact ⟨trivial, h1, h2⟩) rfl h2
theorem RepV.int_inv {w : World} {L : Nat -> Nat -> Prop} {k : IntKind} {n : Int} {v : Value} (h : RepV w L (.int k n) v) : v = .int k n := by
 have := h.cell rfl; simpa [Rep] using this
theorem RepV.bool_inv {w : World} {L : Nat -> Nat -> Prop} {b : Bool} {v : Value} (h : RepV w L (.bool b) v) : v = .bool b := by
 have := h.cell rfl; simpa [Rep] using this
theorem RepV.str_inv {w : World} {L : Nat -> Nat -> Prop} {s : Str} {v : Value} (h : RepV w L (.str s) v) : v = .string ⟨s.toArray⟩ := by
 have := h.cell rfl; simpa [Rep] using this
mutual
theorem Rep.one {w : World} {L : Nat -> Nat -> Prop} : ∀ (d : D) (cs : List Value), Rep w L d cs -> ∀ u ∈ cs, u.oneCell' = true
 | .bool _, _, h => by simp only [Rep] at h; subst h; simp [Value.oneCell']
 | .int _ _, _, h => by simp only [Rep] at h; subst h; simp [Value.oneCell']
 | .str _, _, h => by simp only [Rep] at h; subst h; simp [Value.oneCell']
 | .sl ds, _, h => by simp only [Rep] at h; obtain ⟨a, cap, css, sz, h1, _⟩ := h; subst h1; simp [Value.oneCell']
 | .agg ds, _, h => by
   simp only [Rep] at h; obtain ⟨css, h1, h2⟩ := h; subst h2; exact A8.ones ds css h1
 | .ref d, _, h => by simp only [Rep] at h; obtain ⟨b, off, cs', h1, _⟩ := h; subst h1; simp [Value.oneCell']
 | .clo f caps, _, h => by simp only [Rep] at h; obtain ⟨css, _, h1⟩ := h; subst h1; simp [Value.oneCell']
 | .bnd f first, _, h => by simp only [Rep] at h; obtain ⟨vs, _, _, h1⟩ := h; subst h1; simp [Value.oneCell']
 | .nilp, _, h => by simp only [Rep] at h; subst h; simp [Value.oneCell']
 | .raw _, _, h => by simp only [Rep] at h; obtain ⟨rfl, h1, _⟩ := h; simpa using h1
 | .map _ _ _ _ _, _, h => by simp only [Rep] at h; obtain ⟨g, es, kss, vss, rfl, rfl, _⟩ := h; simp [Value.oneCell']
theorem A8.ones {w : World} {L : Nat -> Nat -> Prop} : ∀ (ds : List D) (css : List (List Value)), A8 w L ds css -> ∀ u ∈ css.flatten, u.oneCell' = true
 | [], _, h => by simp only [A8] at h; subst h; simp
 | d :: ds, _, h => by
   simp only [A8] at h; obtain ⟨c, cs, h1, h2, h3⟩ := h; subst h1; intro u hu; simp only [flatten_cons, mem_append] at hu; rcases hu with hu | hu
   . exact Rep.one d c h2 u hu
   . exact A8.ones ds cs h3 u hu
end
end Go.Vw
namespace Go.Vw
open Go
theorem b0Z {p : Program} {w w' : World} {a k : Addr} {u : TypeId} {v : Value} {at_ : Bool} {l : List Addr} (h : w.viewStore p a u k v at_ = .ok (w', l)) : w'.drawn = w.drawn := by
 unfold World.viewStore at h; simp only [bind, Except.bind, pure, Except.pure] at h; repeat' (first | (split at h) | cases h)
 all_goals first | rfl | skip
theorem a7Q {α : Type} : ∀ (q : Ask α) (w : World), w.drawn <= (w.ask q).2.drawn
 | .done _, w => by simp [World.ask]
 | .ask what range k, w => by
   rw [World.ask]; split
   . exact a7Q _ w
   . refine Nat.le_trans ?_ (a7Q _ _); exact Nat.le_succ _
theorem b3a (w : World) (c : Sys) : w.drawn <= (w.sys c).2.drawn := by
 have := a7Q (Kernel.perform c w.os) w; unfold World.sys; split
 . exact Nat.le_refl _
 . rename_i r os w2 h
   rw [h] at this; exact this
theorem a5K {p : Program} {w w' : World} {a : Addr} {v : Value} {at_ : Bool} {l : List Addr} (h : w.farStore p a v at_ = .ok (w', l)) : w'.drawn = w.drawn := by
 unfold World.farStore at h; split at h
 . split at h
   . rename_i r hr
     cases h
     exact b0Z hr
   . cases h
 . cases h
theorem a4y (w : World) (a : Addr) (n : Nat) : (w.freeze a n).drawn = w.drawn := by unfold World.freeze; split <;> rfl
theorem K2 {α : Type} {p : Program} : ∀ (s : Sem α) {w w' : World} {a : α}, s.run p w = .ok a w' -> w.drawn <= w'.drawn
 | .pure _, w, w', a, h => by
   simp only [Sem.run, Result.ok.injEq] at h; rw [h.2]; exact Nat.le_refl _
 | .load m ad k, w, w', a, h => by
   simp only [Sem.run] at h; split at h
   . exact K2 _ h
   . split at h
     . exact K2 _ h
     . cases h
 | .store m ad v k, w, w', a, h => by
   cases v <;> simp only [Sem.run] at h
   all_goals first
     | (cases h; done)
     | (split at h
        . split at h
          . cases h
          . exact K2 (w := w.setCell ad _) k h
        . split at h
          . rename_i w2 l hf
            rw [<- a5K hf]; exact K2 k h
          . cases h)
 | .new o k, w, w', a, h => by
   simp only [Sem.run] at h; exact K2 (w := { w with heap := w.heap.push o }) _ h
 | .shape r k, w, w', a, h => by simp only [Sem.run] at h; exact K2 _ h
 | .freeze ad n k, w, w', a, h => by
   simp only [Sem.run] at h; rw [<- a4y w ad n]; exact K2 _ h
 | .frozen ad k, w, w', a, h => by simp only [Sem.run] at h; exact K2 _ h
 | .getObj r k, w, w', a, h => by
   simp only [Sem.run] at h; split at h
   . cases h
   . exact K2 _ h
   . cases h
 | .setObj r o k, w, w', a, h => by
   simp only [Sem.run] at h; split at h
   . cases h
   . exact K2 (w := { w with heap := w.heap.setIfInBounds r o }) _ h
   . cases h
 | .choose q k, w, w', a, h => by
   simp only [Sem.run] at h; split at h
   . exact K2 _ h
   . exact Nat.le_trans (Nat.le_succ _) (K2 (w := { w with drawn := w.drawn + 1 }) _ h)
 | .sys c k, w, w', a, h => by
   simp only [Sem.run] at h; exact Nat.le_trans (b3a w c) (K2 _ h)
 | .program k, w, w', a, h => by simp only [Sem.run] at h; exact K2 _ h
 | .mark _ k, w, w', a, h => by simp only [Sem.run] at h; exact K2 _ h
 | .halt _, w, w', a, h => by simp [Sem.run] at h
end Go.Vw
namespace Go.Vw
open Go.RowKit
inductive AV where
 | undef
 | d (d : D)
 | nils
 | full (l : List D)
 | own (m : Bool) (e : TypeId) (l : List D)
 | bor (j : Nat) (m : Bool) (e : TypeId) (l : List D)
 | box (d : D)
 | adr (j : Nat) (p : List Nat)
 | eadr (j : Nat) (i : Nat) (p : List Nat)
 | tup (l : List AV)
 | iter (s : Str) (pos : Nat)
 | hs (u : Value) (e : TypeId) (l : List D)
 | hb (u : Value) (e : TypeId) (d : D)
 | sub (j : Nat) (lo : Nat)
 | hm (u : Value) (kt : TypeId) (m : List (D × D)) (E : Option (List (D × Nat) × Nat))
 | mit (u : Value) (E : List (D × Nat) × Nat) (seen : List D)
abbrev St := Nat -> AV
def D.get : List Nat -> D -> Option D
 | [], d => some d
 | k :: p, .agg ds => match ds[k]? with
   | some x => D.get p x
   | none => none
 | _ :: _, _ => none
def D.off : List Nat -> D -> Option Nat
 | [], _ => some 0
 | k :: p, .agg ds => match ds[k]? with
   | some x => (D.off p x).map (D6 (ds.take k) + ·)
   | none => none
 | _ :: _, _ => none
def D.upd : List Nat -> D -> D -> D
 | [], _, x => x
 | k :: p, .agg ds, x => match ds[k]? with
   | some y => .agg (ds.set k (D.upd p y x))
   | none => .agg ds
 | _ :: _, d, _ => d
theorem Rep.part {w : World} {L : Nat -> Nat -> Prop} : ∀ {p : List Nat} {d x : D} {cs : List Value} {o : Nat}, Rep w L d cs -> D.get p d = some x -> D.off p d = some o ->
   ∃ pre c post, cs = pre ++ c ++ post /\ pre.length = o /\ Rep w L x c /\ ∀ y c', Rep w L y c' -> Rep w L (D.upd p d y) (pre ++ c' ++ post)
 | [], d, x, cs, o, h, hg, ho => by
   simp only [D.get, Option.some.injEq] at hg; simp only [D.off, Option.some.injEq] at ho; subst hg; subst ho; exact ⟨[], cs, [], by simp, rfl, h, fun y c' hy => by simpa [D.upd] using hy⟩
 | k :: p, .agg ds, x, cs, o, h, hg, ho => by
   simp only [D.get] at hg; simp only [D.off] at ho; cases hk : ds[k]? with
   | none => rw [hk] at hg; cases hg
   | some z =>
     rw [hk] at hg ho; simp only [Option.map_eq_some_iff] at ho; obtain ⟨o1, ho1, rfl⟩ := ho; simp only [Rep] at h; obtain ⟨css, hL, rfl⟩ := h; obtain ⟨c, hc, hz⟩ := hL.get hk; obtain ⟨pre, c1, post, hcs, hpl, hx, hup⟩ := Rep.part hz hg ho1; have hkl : k < css.length := (List.getElem?_eq_some_iff.1 hc).1; have hsplit : css = css.take k ++ c :: css.drop (k + 1) := by
       have e1 := (take_append_drop k css).symm; rw [drop_eq_getElem_cons hkl] at e1; have e2 : css[k] = c := (List.getElem?_eq_some_iff.1 hc).2; rw [e2] at e1; exact e1
     refine ⟨(css.take k).flatten ++ pre, c1, post ++ (css.drop (k + 1)).flatten, ?_, ?_, hx, fun y c' hy => ?_⟩
     . conv => lhs; rw [hsplit]
       simp [hcs, append_assoc]
     . rw [length_append, hpl, A8.len _ _ (hL.take k)]
     . simp only [D.upd, hk, Rep]; refine ⟨css.set k (pre ++ c' ++ post), hL.set (hup y c' hy), ?_⟩; rw [set_eq_take_append_cons_drop, if_pos hkl]; simp [append_assoc]
 | _ :: _, .bool _, _, _, _, _, hg, _ => by simp [D.get] at hg
 | _ :: _, .int _ _, _, _, _, _, hg, _ => by simp [D.get] at hg
 | _ :: _, .str _, _, _, _, _, hg, _ => by simp [D.get] at hg
 | _ :: _, .sl _, _, _, _, _, hg, _ => by simp [D.get] at hg
 | _ :: _, .ref _, _, _, _, _, hg, _ => by simp [D.get] at hg
 | _ :: _, .clo _ _, _, _, _, _, hg, _ => by simp [D.get] at hg
 | _ :: _, .bnd _ _, _, _, _, _, hg, _ => by simp [D.get] at hg
 | _ :: _, .nilp, _, _, _, _, hg, _ => by simp [D.get] at hg
 | _ :: _, .raw _, _, _, _, _, hg, _ => by simp [D.get] at hg
 | _ :: _, .map _ _ _ _ _, _, _, _, _, hg, _ => by simp [D.get] at hg
theorem D.off_snoc : ∀ {p : List Nat} {d : D} {ds : List D} {o k : Nat}, D.get p d = some (.agg ds) -> D.off p d = some o -> k < ds.length -> D.off (p ++ [k]) d = some (o + D6 (ds.take k))
 | [], d, ds, o, k, hg, ho, hk => by
   simp only [D.get, Option.some.injEq] at hg; simp only [D.off, Option.some.injEq] at ho; subst hg; subst ho; simp [D.off, getElem?_eq_getElem hk]
 | j :: p, .agg es, ds, o, k, hg, ho, hk => by
   simp only [D.get] at hg; simp only [D.off] at ho; cases hj : es[j]? with
   | none => rw [hj] at hg; cases hg
   | some z =>
     rw [hj] at hg ho; simp only [Option.map_eq_some_iff] at ho; obtain ⟨o1, ho1, rfl⟩ := ho; simp only [cons_append, D.off, hj, D.off_snoc hg ho1 hk, Option.map_some]; congr 1; omega
 | _ :: _, .bool _, _, _, _, hg, _, _ => by simp [D.get] at hg
 | _ :: _, .int _ _, _, _, _, hg, _, _ => by simp [D.get] at hg
 | _ :: _, .str _, _, _, _, hg, _, _ => by simp [D.get] at hg
 | _ :: _, .sl _, _, _, _, hg, _, _ => by simp [D.get] at hg
 | _ :: _, .ref _, _, _, _, hg, _, _ => by simp [D.get] at hg
 | _ :: _, .clo _ _, _, _, _, hg, _, _ => by simp [D.get] at hg
 | _ :: _, .bnd _ _, _, _, _, hg, _, _ => by simp [D.get] at hg
 | _ :: _, .nilp, _, _, _, hg, _, _ => by simp [D.get] at hg
 | _ :: _, .raw _, _, _, _, hg, _, _ => by simp [D.get] at hg
 | _ :: _, .map _ _ _ _ _, _, _, _, hg, _, _ => by simp [D.get] at hg
section
variable (P : Program)
def ety (e : TypeId) : TypeId := if e < 100000 then e else e - 100000
def mk (e : TypeId) (n : Nat) : Nat × Nat := if e < 100000 then (0, 0) else (n, n + 1)
def a2m (w : World) (e : TypeId) (size : Nat) (v : Value) (n : Nat) (xs : List Value) : Prop :=
 xs.length = n * size /\ ((v = .slice none 0 0 /\ n = 0) \/
  ∃ g cap cur, v = .slice (some ⟨g, 0, none⟩) n cap /\ w.heap[g]? = some (.cells cur (ety e) (mk e cur.size)) /\ n <= cap /\ cap <= maxLen /\ cap * size <= cur.size /\ cur.toList.take (n * size) = xs)
theorem W6 {e : TypeId} (h : e < 100000) : ety e = e := if_pos h
theorem a6Q {e : TypeId} (h : e < 100000) (n : Nat) : mk e n = (0, 0) := if_pos h
theorem a2m.cells {w : World} {e : TypeId} {size : Nat} {v : Value} {n : Nat} {xs : List Value} (h : a2m w e size v n xs) {g : Nat} (hg : v.ownBlock = some g) : ∀ j u, xs[j]? = some u -> w.cell? ((⟨g, 0, none⟩ : Addr).add j) = some u := by
 intro j u hu; rcases h.2 with ⟨rfl, _⟩ | ⟨g', cap, cur, rfl, hgg, _, _, _, htake⟩
 . simp [Value.ownBlock] at hg
 . simp [Value.ownBlock] at hg; subst hg; have hadd : (⟨g', 0, none⟩ : Addr).add j = ⟨g', j, none⟩ := by unfold Addr.add; split <;> simp_all
   rw [hadd]; rw [<- htake, getElem?_take] at hu; split at hu
   . simp only [World.cell?, hgg]; simpa using hu
   . cases hu
def F0 (w : World) (L : Nat -> Nat -> Prop) (og : Option Nat) (m : Bool) (e : TypeId) (l : List D) (v : Value) : Prop :=
 ∃ css sz, (P.info? (ety e)).map (·.size) = some sz /\ A8 w L l css /\ (∀ c ∈ css, c.length = sz) /\ a2m w e sz v l.length css.flatten /\
   ∀ g, v.ownBlock = some g -> og = some g /\ ∀ o, L g o ↔ (m = false /\ o < l.length * sz)
def ptr (g off : Nat) : Value := .pointer (some ⟨g, off, none⟩)
def a5v (w : World) (L : Nat -> Nat -> Prop) (og : Option Nat) (d : D) (v : Value) : Prop :=
 ∃ g C e, og = some g /\ v = ptr g 0 /\ w.heap[g]? = some (.cells C e (0, 0)) /\ Rep w L d C.toList /\ ∀ o, ¬ L g o
def Y4 (w : World) (L : Nat -> Nat -> Prop) (og : Option Nat) (e : TypeId) (d : D) (v : Value) : Prop :=
 ∃ g C, og = some g /\ v = ptr g 0 /\ w.heap[g]? = some (.cells C e (0, 0)) /\ Rep w L d C.toList /\ ∀ o, ¬ L g o
theorem Y4.r {w : World} {L : Nat -> Nat -> Prop} {og : Option Nat} {e : TypeId} {d : D} {v : Value} (h : Y4 w L og e d v) : a5v w L og d v := by
 obtain ⟨g, C, h⟩ := h; exact ⟨g, C, e, h⟩
theorem a5v.t {w : World} {L : Nat -> Nat -> Prop} {og : Option Nat} {d : D} {v : Value} (h : a5v w L og d v) : ∃ e, Y4 w L og e d v := by
 obtain ⟨g, C, e, h⟩ := h; exact ⟨e, g, C, h⟩
def E5 (P : Program) (t : TypeId) : Option Nat := (P.info? t).map (·.size)
def J9 : List D -> List D -> Bool
 | .str s :: xs, .str t :: ys => decide (s = t) && J9 xs ys
 | .int _ p :: xs, .int _ q :: ys => decide (p = q) && J9 xs ys
 | .bool p :: xs, .bool q :: ys => (p == q) && J9 xs ys
 | _, _ => true
attribute [simp] J9
def O5 : List D -> List D -> Bool
 | .str s :: xs, .str t :: ys => decide (s = t) && O5 xs ys
 | .int _ p :: xs, .int _ q :: ys => decide (p = q) && O5 xs ys
 | .bool p :: xs, .bool q :: ys => (p == q) && O5 xs ys
 | .agg a :: xs, .agg b :: ys => J9 a b && O5 xs ys
 | _, _ => true
def a0F : Option TypeDesc -> D -> D -> Bool
 | some .string, .str _, .str _ => true
 | some .bool, .bool _, .bool _ => true
 | some (.int _), .int k _, .int k' _ => decide (k = k')
 | _, _, _ => false
def Z7 (P : Program) : List Field -> Nat -> List D -> List D -> Bool
 | [], _, [], [] => true
 | f :: fs, off, x :: xs, y :: ys => decide (f.name ≠ "_") && decide (f.offset = off) && a0F (P.underlying f.type) x y && Z7 P fs (off + 1) xs ys
 | _, _, _, _ => false
def a0W : Option TypeDesc -> Bool
 | some (.struct _) => true
 | _ => false
def P7 (P : Program) : List Field -> Nat -> List D -> List D -> Bool
 | [], _, [], [] => true
 | f :: fs, off, .agg a :: xs, .agg b :: ys => decide (f.name ≠ "_") && decide (f.offset = off) && (a0W (P.underlying f.type) && !P.stoodInHeld f.type && decide (E5 P f.type = some (D6 a)) && decide (D6 b = D6 a) && Z7 P (P.fieldsOf f.type).toList 0 a b) && P7 P fs (off + D6 a) xs ys
 | f :: fs, off, x :: xs, y :: ys => decide (f.name ≠ "_") && decide (f.offset = off) && a0F (P.underlying f.type) x y && P7 P fs (off + 1) xs ys
 | _, _, _, _ => false
def a1A (P : Program) (t : TypeId) : Bool := a0W (P.underlying t) && !P.stoodInHeld t && !P.eqGuardType P.depth t
def Y8 : D -> D -> Bool
 | .str a, .str b => decide (a = b)
 | .int k a, .int k' b => decide (k = k') && decide (a = b)
 | .bool a, .bool b => a == b
 | _, _ => false
def a0y : List D -> List D -> Bool
 | [], [] => true
 | x :: xs, y :: ys => Y8 x y && a0y xs ys
 | _, _ => false
def U6 : List D -> List D -> Bool
 | [], [] => true
 | .agg a :: xs, .agg b :: ys => a0y a b && U6 xs ys
 | x :: xs, y :: ys => Y8 x y && U6 xs ys
 | _, _ => false
def I4 : D -> D -> Bool
 | .agg a, .agg b => U6 a b
 | x, y => Y8 x y
def M5 (w : World) (L : Nat -> Nat -> Prop) : List (D × D) -> List MapEntry -> Prop
 | [], es => es = []
 | p :: m, es => ∃ e es', es = e :: es' /\ RepV w L p.1 e.key /\ RepV w L p.2 e.val /\ M5 w L m es'
def Q5 : Option TypeDesc -> D -> Bool
 | some .string, .str _ => true
 | some .bool, .bool _ => true
 | some (.int k), .int k' _ => decide (k = k')
 | _, _ => false
def T7 (P : Program) : List Field -> Nat -> List D -> Bool
 | [], _, [] => true
 | f :: fs, off, x :: xs => decide (f.name ≠ "_") && decide (f.offset = off) && Q5 (P.underlying f.type) x && T7 P fs (off + 1) xs
 | _, _, _ => false
def U1 (P : Program) : List Field -> Nat -> List D -> Bool
 | [], _, [] => true
 | f :: fs, off, .agg a :: xs => decide (f.name ≠ "_") && decide (f.offset = off) && (a0W (P.underlying f.type) && !P.stoodInHeld f.type && decide (E5 P f.type = some (D6 a)) && T7 P (P.fieldsOf f.type).toList 0 a) && U1 P fs (off + D6 a) xs
 | f :: fs, off, x :: xs => decide (f.name ≠ "_") && decide (f.offset = off) && Q5 (P.underlying f.type) x && U1 P fs (off + 1) xs
 | _, _, _ => false
def F4 (P : Program) (kt : TypeId) : D -> Bool
 | .agg xs => a1A P kt && U1 P (P.fieldsOf kt).toList 0 xs
 | d => Q5 (P.underlying kt) d
def O4 (m : List (D × D)) (es : List MapEntry) : List (D × Nat) := (m.map (·.1)).zip (es.map (·.born))
def a2a (w : World) (L : Nat -> Nat -> Prop) (og : Option Nat) (kt : TypeId) (m : List (D × D)) (E : Option (List (D × Nat) × Nat)) (v : Value) : Prop :=
 ∃ g m' es clk, og = some g /\ v = .map (some g) /\ w.heap[g]? = some (.map es clk) /\ (∀ q, ¬ L g q) /\ Perm m' m /\ M5 w L m' es.toList /\ (m.map (·.1)).Nodup /\ (∀ p ∈ m, F4 P kt p.1 = true) /\
   (es.toList.map (·.born)).Nodup /\ (∀ e ∈ es.toList, e.born < clk) /\ ∀ E', E = some E' -> E' = (O4 m' es.toList, clk)
mutual
def RC (w : World) (L : Nat -> Nat -> Prop) (og : Option Nat) : AV -> Value -> Prop
 | .undef, _ => True
 | .d d, v => RepV w L d v
 | .nils, v => v = .slice none 0 0
 | .full l, v => RepV w L (.sl l) v /\ ∃ a, v = .slice a l.length l.length
 | .own m e l, v => F0 P w L og m e l v
 | .tup l, v => ∃ vs : List Value, v = .tuple vs.toArray /\ RCs w L og l vs
 | .hs u e l, _ => F0 P w L og true e l u
 | .hb u e d, _ => Y4 w L og e d u
 | .box d, v => a5v w L og d v
 | .bor .., _ => False
 | .adr .., _ => False
 | .eadr .., _ => False
 | .iter .., _ => False
 | .sub .., _ => False
 | .hm u kt m E, _ => a2a P w L og kt m E u
 | .mit .., _ => False
def RCs (w : World) (L : Nat -> Nat -> Prop) (og : Option Nat) : List AV -> List Value -> Prop
 | [], vs => vs = []
 | x :: xs, vs => ∃ v us, vs = v :: us /\ RC w L og x v /\ RCs w L og xs us
end
def S5 : AV -> Option D
 | .box d => some d
 | .hb _ _ d => some d
 | _ => none
def N8 : AV -> Option (TypeId × List D)
 | .own true e l => some (e, l)
 | .hs _ e l => some (e, l)
 | _ => none
def a4l (y : D) : AV -> AV
 | .hb u e _ => .hb u e y
 | _ => .box y
def c6B : AV -> TypeId -> Prop
 | .hb _ e _, e' => e' = e
 | _, _ => True
def a1Q (e : TypeId) (l : List D) : AV -> AV
 | .hs u _ _ => .hs u e l
 | _ => .own true e l
def a1o (E : List (D × Nat)) (k : D) : Nat := ((E.find? fun p => I4 p.1 k).map (·.2)).getD 0
def Y9 : AV -> Value -> Value
 | .hs u _ _, _ => u
 | .hb u _ _, _ => u
 | .hm u _ _ _, _ => u
 | _, v => v
def RA (w : World) (L : Nat -> Nat -> Prop) (O : Nat -> Option Nat) (σ : St) (tm : Nat -> Value) (og : Option Nat) : AV -> Value -> Prop
 | .bor j m e l, v => σ j = .own m e l /\ v = tm j
 | .adr j p, v => ∃ d g off, S5 (σ j) = some d /\ O j = some g /\ D.off p d = some off /\ v = ptr g off
 | .eadr j i p, v => ∃ e l g sz n c d off, N8 (σ j) = some (e, l) /\ Y9 (σ j) (tm j) = .slice (some ⟨g, 0, none⟩) n c /\ (P.info? (ety e)).map (·.size) = some sz /\ l[i]? = some d /\ D.off p d = some off /\ v = ptr g (i * sz + off)
 | .iter s pos, v => ∃ g, og = some g /\ v = ptr g 0 /\ w.heap[g]? = some (.stringIter ⟨s.toArray⟩ pos) /\ ∀ q, ¬ L g q
 | .sub j lo, v => ∃ e l sz, N8 (σ j) = some (e, l) /\ (P.info? (ety e)).map (·.size) = some sz /\ lo <= l.length /\
     ((Y9 (σ j) (tm j) = .slice none 0 0 /\ v = .slice none 0 0) \/ ∃ g c A, Y9 (σ j) (tm j) = .slice (some ⟨g, 0, none⟩) l.length c /\ v = .slice (some A) (l.length - lo) (c - lo) /\ (lo < l.length -> A = ⟨g, lo * sz, none⟩))
 | .mit u E seen, v => ∃ g r, og = some g /\ v = ptr g 0 /\ u = .map (some r) /\ w.heap[g]? = some (.mapIter (some r) E.2 ((seen.map (a1o E.1)).toArray) E.2) /\ (∀ k ∈ seen, k ∈ E.1.map (·.1)) /\ ∀ q, ¬ L g q
 | x, v => RC P w L og x v
structure F7 (w w' : World) (row : Nat -> Prop) : Prop where
 os : w'.os = w.os
 tape : w'.tape = w.tape
 output : w'.output = w.output
 size : w.heap.size <= w'.heap.size
 block : ∀ k, k < w.heap.size -> ¬ row k -> w'.heap[k]? = w.heap[k]?
 drawn : w.drawn <= w'.drawn
def H1 (o : Option Nat) : Nat -> Prop := fun b => o = some b
def noB : Nat -> Prop := fun _ => False
theorem noB_eq : H1 none = noB := by funext b; simp [H1, noB]
def c6I : D := .sl [.str [], .str [99, 114, 101, 97, 116, 101], .str [114, 101, 109, 111, 118, 101], .str [114, 101, 110, 97, 109, 101], .str [112, 117, 116], .str [100, 114, 111, 112]]
def c8f : D := .agg ([6, 5, 7, 28, 6, 12, 3, 0].map fun n => .int .i64 n)
def c6a : List (String × D) := [("identity/change.words", c6I), ("identity/tree.errors", c8f)]
def b1q (P : Program) (g : Nat) : Option D := (c6a.find? fun p => decide (P.globalNamed p.1 = some g)).map (·.2)
def GL (P : Program) (w : World) (L : Nat -> Nat -> Prop) : Prop := ∀ g d, b1q P g = some d -> ∃ cs, Rep w L d cs /\ At w L g 0 cs
theorem GL.mono {P : Program} {w w' : World} {L L' : Nat -> Nat -> Prop} (hx : Ext w L w' L') (h : GL P w L) : GL P w' L' := fun g d hg =>
 let ⟨cs, h1, h2⟩ := h g d hg
 ⟨cs, Rep.mono hx _ _ h1, h2.mono hx⟩
theorem GL.none {P : Program} {w : World} {L : Nat -> Nat -> Prop} (h : (c6a.all fun p => (P.globalNamed p.1).isNone) = true) : GL P w L := fun g d hg => by
 unfold b1q at hg; rw [find?_eq_none.2 (fun p hp => by
   have := all_eq_true.1 h p hp; rw [Option.isNone_iff_eq_none] at this; simp [this])] at hg
 cases hg
structure Rel (w0 : World) (L0 : Nat -> Nat -> Prop) (row : Nat -> Prop) (w : World) (L : Nat -> Nat -> Prop) (O : Nat -> Option Nat) (σ : St) (tm : Nat -> Value) : Prop where
 grown : F7 w0 w row
 lok : ∀ b o, L b o -> b < w.heap.size
 gl : GL P w L
 old : ∀ b o, b < w0.heap.size -> ¬ row b -> (L b o ↔ L0 b o)
 slots : ∀ i, RA P w L O σ tm (O i) (σ i) (tm i)
 inj : ∀ i j g, O i = some g -> O j = some g -> i = j
 olt : ∀ i g, O i = some g -> g < w.heap.size /\ (w0.heap.size <= g \/ row g)
end
theorem F7.of {w w' : World} {o : Option Nat} (h : w.grownBy w' o) (hd : w.drawn <= w'.drawn) : F7 w w' (H1 o) := ⟨h.os, h.tape, h.output, h.size, fun k hk hn => h.block k hk (fun e => hn e.symm), hd⟩
theorem F7.refl (w : World) (row : Nat -> Prop) : F7 w w row := ⟨rfl, rfl, rfl, Nat.le_refl _, fun _ _ _ => rfl, Nat.le_refl _⟩
theorem F7.then {a w w' : World} {row touch : Nat -> Prop} (h : F7 a w row) (h' : F7 w w' touch) (ht : ∀ g, touch g -> a.heap.size <= g \/ row g) : F7 a w' row :=
 ⟨h'.os.trans h.os, h'.tape.trans h.tape, h'.output.trans h.output, Nat.le_trans h.size h'.size, fun i hi hne => (h'.block i (Nat.lt_of_lt_of_le hi h.size) (fun e => by
   rcases ht i e with h1 | h1
   . omega
   . exact hne h1)).trans (h.block i hi hne), Nat.le_trans h.drawn h'.drawn⟩
theorem F7.sub {w w' : World} {row row' : Nat -> Prop} (h : F7 w w' row) (hs : ∀ b, row b -> row' b) : F7 w w' row' := ⟨h.os, h.tape, h.output, h.size, fun k hk hn => h.block k hk (fun e => hn (hs k e)), h.drawn⟩
variable {P : Program}
structure H4 (w : World) (L : Nat -> Nat -> Prop) (w' : World) (L' : Nat -> Nat -> Prop) (touch : Nat -> Prop) : Prop where
 ext : Ext w L w' L'
 heap : ∀ b, b < w.heap.size -> ¬ touch b -> w'.heap[b]? = w.heap[b]?
 lim : ∀ b o, b < w.heap.size -> ¬ touch b -> (L' b o ↔ L b o)
theorem F0.step {w w' : World} {L L' : Nat -> Nat -> Prop} {touch : Nat -> Prop} {og : Option Nat} {m : Bool} {e : TypeId} {l : List D} {v : Value} (hs : H4 w L w' L' touch)
   (hog : ∀ g, og = some g -> g < w.heap.size /\ ¬ touch g) (h : F0 P w L og m e l v) : F0 P w' L' og m e l v := by
 obtain ⟨css, sz, h1, h2, h3, h4, h5⟩ := h; refine ⟨css, sz, h1, A8.mono hs.ext _ _ h2, h3, ⟨h4.1, ?_⟩, fun g hg => ?_⟩
 . rcases h4.2 with h6 | ⟨g, cap, cur, hv, hh, hr⟩
   . exact .inl h6
   . have hg := h5 g (by rw [hv]; rfl); have := hog g hg.1; exact .inr ⟨g, cap, cur, hv, by rw [hs.heap g this.1 this.2]; exact hh, hr⟩
 . have hg' := h5 g hg; have := hog g hg'.1; exact ⟨hg'.1, fun o => (hs.lim g o this.1 this.2).trans (hg'.2 o)⟩
theorem a5v.step {w w' : World} {L L' : Nat -> Nat -> Prop} {touch : Nat -> Prop} {og : Option Nat} {d : D} {v : Value} (hs : H4 w L w' L' touch)
   (hog : ∀ g, og = some g -> g < w.heap.size /\ ¬ touch g) (h : a5v w L og d v) : a5v w' L' og d v := by
 obtain ⟨g, C, e, h1, h2, h3, h4, h5⟩ := h; have := hog g h1; exact ⟨g, C, e, h1, h2, by rw [hs.heap g this.1 this.2]; exact h3, Rep.mono hs.ext _ _ h4, fun o ho => h5 o ((hs.lim g o this.1 this.2).1 ho)⟩
theorem Y4.step {w w' : World} {L L' : Nat -> Nat -> Prop} {touch : Nat -> Prop} {og : Option Nat} {e : TypeId} {d : D} {v : Value} (hs : H4 w L w' L' touch)
   (hog : ∀ g, og = some g -> g < w.heap.size /\ ¬ touch g) (h : Y4 w L og e d v) : Y4 w' L' og e d v := by
 obtain ⟨g, C, h1, h2, h3, h4, h5⟩ := h; have := hog g h1; exact ⟨g, C, h1, h2, by rw [hs.heap g this.1 this.2]; exact h3, Rep.mono hs.ext _ _ h4, fun o ho => h5 o ((hs.lim g o this.1 this.2).1 ho)⟩
theorem M5.mono {w w' : World} {L L' : Nat -> Nat -> Prop} (hx : Ext w L w' L') : ∀ {m : List (D × D)} {es : List MapEntry}, M5 w L m es -> M5 w' L' m es
 | [], _, h => h
 | p :: m, _, h => by
   obtain ⟨e, es', h1, h2, h3, h4⟩ := h; exact ⟨e, es', h1, h2.mono hx, h3.mono hx, M5.mono hx h4⟩
theorem a2a.step {w w' : World} {L L' : Nat -> Nat -> Prop} {touch : Nat -> Prop} {og : Option Nat} {kt : TypeId} {m : List (D × D)} {E : Option (List (D × Nat) × Nat)} {v : Value} (hs : H4 w L w' L' touch)
   (hog : ∀ g, og = some g -> g < w.heap.size /\ ¬ touch g) (h : a2a P w L og kt m E v) : a2a P w' L' og kt m E v := by
 obtain ⟨g, m', es, clk, h1, h2, h3, h4, h5, h6, h7, h8, h9, h10, h11⟩ := h; have := hog g h1; exact ⟨g, m', es, clk, h1, h2, by rw [hs.heap g this.1 this.2]; exact h3, fun q hq => h4 q ((hs.lim g q this.1 this.2).1 hq), h5, h6.mono hs.ext, h7, h8, h9, h10, h11⟩
mutual
theorem RC.step {w w' : World} {L L' : Nat -> Nat -> Prop} {touch : Nat -> Prop} {og : Option Nat} (hs : H4 w L w' L' touch)
   (hog : ∀ g, og = some g -> g < w.heap.size /\ ¬ touch g) : ∀ (x : AV) (v : Value), RC P w L og x v -> RC P w' L' og x v
 | .undef, _, _ => by simp only [RC]
 | .d d, v, h => by simp only [RC] at h ⊢; exact h.mono hs.ext
 | .nils, _, h => by simp only [RC] at h ⊢; exact h
 | .full l, v, h => by simp only [RC] at h ⊢; exact ⟨h.1.mono hs.ext, h.2⟩
 | .own m e l, v, h => by simp only [RC] at h ⊢; exact h.step hs hog
 | .tup l, v, h => by
   simp only [RC] at h ⊢; obtain ⟨vs, h1, h2⟩ := h; exact ⟨vs, h1, RCs.step hs hog l vs h2⟩
 | .hs u e l, _, h => by simp only [RC] at h ⊢; exact h.step hs hog
 | .hb u e d, _, h => by simp only [RC] at h ⊢; exact h.step hs hog
 | .box d, v, h => by simp only [RC] at h ⊢; exact h.step hs hog
 | .bor .., _, h => by simp only [RC] at h
 | .adr .., _, h => by simp only [RC] at h
 | .eadr .., _, h => by simp only [RC] at h
 | .iter .., _, h => by simp only [RC] at h
 | .sub .., _, h => by simp only [RC] at h
 | .hm u kt m E, _, h => by simp only [RC] at h ⊢; exact h.step hs hog
 | .mit .., _, h => by simp only [RC] at h
theorem RCs.step {w w' : World} {L L' : Nat -> Nat -> Prop} {touch : Nat -> Prop} {og : Option Nat} (hs : H4 w L w' L' touch)
   (hog : ∀ g, og = some g -> g < w.heap.size /\ ¬ touch g) : ∀ (xs : List AV) (vs : List Value), RCs P w L og xs vs -> RCs P w' L' og xs vs
 | [], _, h => by simp only [RCs] at h ⊢; exact h
 | x :: xs, vs, h => by
   simp only [RCs] at h ⊢; obtain ⟨v, us, h1, h2, h3⟩ := h; exact ⟨v, us, h1, RC.step hs hog x v h2, RCs.step hs hog xs us h3⟩
end
theorem RA.step {w w' : World} {L L' : Nat -> Nat -> Prop} {O : Nat -> Option Nat} {σ : St} {tm : Nat -> Value} {touch : Nat -> Prop} {og : Option Nat} (hs : H4 w L w' L' touch)
   (hog : ∀ g, og = some g -> g < w.heap.size /\ ¬ touch g) {x : AV} {v : Value} (h : RA P w L O σ tm og x v) : RA P w' L' O σ tm og x v := by
 cases x with
 | bor j m e l => exact h
 | adr j p => exact h
 | eadr j i p => exact h
 | sub j lo => exact h
 | iter s pos =>
   obtain ⟨g, h1, h2, h3, h4⟩ := h; have := hog g h1; exact ⟨g, h1, h2, by rw [hs.heap g this.1 this.2]; exact h3, fun q hq => h4 q ((hs.lim g q this.1 this.2).1 hq)⟩
 | mit u E seen =>
   obtain ⟨g, r, h1, h2, h3, h4, h5, h6⟩ := h; have := hog g h1; exact ⟨g, r, h1, h2, h3, by rw [hs.heap g this.1 this.2]; exact h4, h5, fun q hq => h6 q ((hs.lim g q this.1 this.2).1 hq)⟩
 | hm u kt m E => exact RC.step hs hog _ _ h
 | undef => exact RC.step hs hog _ _ h
 | d d => exact RC.step hs hog _ _ h
 | nils => exact RC.step hs hog _ _ h
 | full l => exact RC.step hs hog _ _ h
 | own m e l => exact RC.step hs hog _ _ h
 | tup l => exact RC.step hs hog _ _ h
 | hs u e l => exact RC.step hs hog _ _ h
 | hb u e d => exact RC.step hs hog _ _ h
 | box d => exact RC.step hs hog _ _ h
theorem H4.refl (w : World) (L : Nat -> Nat -> Prop) (t : Nat -> Prop) : H4 w L w L t := ⟨fun _ _ h => ⟨h, fun _ hv => hv⟩, fun _ _ _ => rfl, fun _ _ _ _ => Iff.rfl⟩
theorem F0.at_ {w : World} {L : Nat -> Nat -> Prop} {og : Option Nat} {e : TypeId} {l : List D} {v : Value} (h : F0 P w L og false e l v) : RepV w L (.sl l) v := by
 obtain ⟨css, sz, h1, h2, h3, h4, h5⟩ := h; rcases h4.2 with ⟨hv, hn⟩ | ⟨g, cap, cur, hv, hh, hnc, hcm, hsz, ht⟩
 . subst hv; have hl : l = [] := eq_nil_of_length_eq_zero hn; subst hl; refine ⟨?_, rfl⟩; simp only [A8] at h2; simp only [Rep]; refine ⟨none, 0, [], sz, by simp [Value.cells], by simp [A8], by simp, by simp, by simp⟩
 . subst hv; have hL := (h5 g rfl).2; refine ⟨?_, rfl⟩; simp only [Rep]; refine ⟨some ⟨g, 0, none⟩, cap, css, sz, rfl, h2, h3, hnc, fun _ => ⟨g, 0, rfl, fun k u hk => ?_⟩⟩; have hk1 := hk; rw [<- ht, getElem?_take] at hk1; split at hk1
   . rename_i hlt
     refine ⟨?_, (hL _).2 ⟨rfl, by omega⟩⟩; simp only [World.cell?, hh]; simpa using hk1
   . cases hk1
def asD : AV -> Option D
 | .d d => some d
 | .nils => some (.sl [])
 | .full l => some (.sl l)
 | .own false _ l => some (.sl l)
 | .bor _ false _ l => some (.sl l)
 | _ => none
theorem a5E {w : World} {L : Nat -> Nat -> Prop} : RepV w L (.sl []) (.slice none 0 0) := by
 refine ⟨?_, rfl⟩; simp only [Rep]; exact ⟨none, 0, [], 0, by simp [Value.cells], by simp [A8], by simp, by simp, by simp⟩
theorem RA.asD {w : World} {L : Nat -> Nat -> Prop} {O : Nat -> Option Nat} {σ : St} {tm : Nat -> Value} {og : Option Nat} (hs : ∀ i, RA P w L O σ tm (O i) (σ i) (tm i))
   {x : AV} {v : Value} {d : D} (h : RA P w L O σ tm og x v) (hd : Vw.asD x = some d) : RepV w L d v := by
 cases x with
 | d x => simp only [Vw.asD, Option.some.injEq] at hd; subst hd; simpa only [RA, RC] using h
 | nils => simp only [Vw.asD, Option.some.injEq] at hd; subst hd; simp only [RA, RC] at h; subst h; exact a5E
 | full l => simp only [Vw.asD, Option.some.injEq] at hd; subst hd; simp only [RA, RC] at h; exact h.1
 | own m e l =>
   cases m with
   | true => simp [Vw.asD] at hd
   | false => simp only [Vw.asD, Option.some.injEq] at hd; subst hd; simp only [RA, RC] at h; exact h.at_
 | bor j m e l =>
   cases m with
   | true => simp [Vw.asD] at hd
   | false =>
     simp only [Vw.asD, Option.some.injEq] at hd; subst hd; obtain ⟨h1, rfl⟩ := h; have h2 := hs j; rw [h1] at h2; simp only [RA, RC] at h2; exact h2.at_
 | _ => simp [Vw.asD] at hd
def F5 (d : Nat) : AV -> AV
 | .bor j m e l => if j = d then (if m then .undef else .d (.sl l)) else .bor j m e l
 | .adr j p => if j = d then .undef else .adr j p
 | .eadr j i p => if j = d then .undef else .eadr j i p
 | .sub j lo => if j = d then .undef else .sub j lo
 | x => x
def put (σ : St) (d : Nat) (x : AV) : St := fun i => if i = d then F5 d x else F5 d (σ i)
def E4 {α : Type} (f : Nat -> α) (d : Nat) (x : α) : Nat -> α := fun i => if i = d then x else f i
theorem c2H {d : Nat} {x : AV} {m : Bool} {e : TypeId} {l : List D} (h : x = .own m e l) : F5 d x = .own m e l := by subst h; rfl
theorem b9e {d : Nat} {x : AV} {y : D} (h : S5 x = some y) : F5 d x = x := by cases x <;> simp [S5] at h <;> rfl
theorem a3Q {d : Nat} {x : AV} {y : TypeId × List D} (h : N8 x = some y) : F5 d x = x := by cases x <;> simp [N8] at h <;> rfl
theorem RA.killed {w : World} {L : Nat -> Nat -> Prop} {O : Nat -> Option Nat} {σ : St} {tm : Nat -> Value} (hs : ∀ i, RA P w L O σ tm (O i) (σ i) (tm i))
   (d : Nat) (y : AV) (u : Value) (o : Option Nat) {og : Option Nat} {x : AV} {v : Value} (h : RA P w L O σ tm og x v) :
   RA P w L (E4 O d o) (put σ d y) (E4 tm d u) og (F5 d x) v := by
 cases x with
 | bor j m e l =>
   simp only [F5]; split
   . rename_i hj
     cases m with
     | true => simp [RA, RC]
     | false =>
       simp only [Bool.false_eq_true, if_false, RA, RC]; exact RA.asD hs h rfl
   . rename_i hj
     obtain ⟨h1, h2⟩ := h; exact ⟨by simp only [put, if_neg hj]; exact c2H h1, by simpa only [E4, if_neg hj] using h2⟩
 | adr j p =>
   simp only [F5]; split
   . simp [RA, RC]
   . rename_i hj
     obtain ⟨x, g, off, h1, h2, h3, h4⟩ := h; exact ⟨x, g, off, by simp only [put, if_neg hj, b9e h1]; exact h1, by simpa only [E4, if_neg hj] using h2, h3, h4⟩
 | eadr j i p =>
   simp only [F5]; split
   . simp [RA, RC]
   . rename_i hj
     obtain ⟨e, l, g, sz, n, c, x, off, h1, h2, h3⟩ := h; exact ⟨e, l, g, sz, n, c, x, off, by simp only [put, if_neg hj, a3Q h1]; exact h1, by simpa only [E4, put, if_neg hj, a3Q h1] using h2, h3⟩
 | sub j lo =>
   simp only [F5]; split
   . simp [RA, RC]
   . rename_i hj
     obtain ⟨e, l, sz, h1, h2, h3, h4⟩ := h; exact ⟨e, l, sz, by simp only [put, if_neg hj, a3Q h1]; exact h1, h2, h3, by simpa only [E4, put, if_neg hj, a3Q h1] using h4⟩
 | undef => exact h
 | d _ => exact h
 | nils => exact h
 | full _ => exact h
 | own _ _ _ => exact h
 | tup _ => exact h
 | box _ => exact h
 | iter _ _ => exact h
 | hs _ _ _ => exact h
 | hb _ _ _ => exact h
 | hm _ _ _ _ => exact h
 | mit _ _ _ => exact h
variable {w0 : World} {L0 : Nat -> Nat -> Prop} {row : Nat -> Prop} {w w' : World} {L L' : Nat -> Nat -> Prop} {O : Nat -> Option Nat} {σ : St} {tm : Nat -> Value}
theorem Rel.putOwn (h : Rel P w0 L0 row w L O σ tm) (d : Nat) (x : AV) (v : Value) (o : Option Nat) (touch : Nat -> Prop) (hs : H4 w L w' L' touch) (hg : F7 w0 w' row) (hsize : w.heap.size <= w'.heap.size)
   (hlok : ∀ b o, L' b o -> b < w'.heap.size) (hold : ∀ b, touch b -> w0.heap.size <= b \/ row b) (hfree : ∀ i g, i ≠ d -> O i = some g -> ¬ touch g)
   (ho : ∀ g, o = some g -> g < w'.heap.size /\ (w0.heap.size <= g \/ row g) /\ ∀ i, i ≠ d -> O i ≠ some g)
   (hx : RA P w' L' (E4 O d o) (put σ d x) (E4 tm d v) o (F5 d x) v) : Rel P w0 L0 row w' L' (E4 O d o) (put σ d x) (E4 tm d v) := by
 refine ⟨hg, hlok, h.gl.mono hs.ext, fun b q hb hr => ?_, fun i => ?_, fun i j g hi hj => ?_, fun i g hi => ?_⟩
 . have hb' : b < w.heap.size := Nat.lt_of_lt_of_le hb h.grown.size; refine (hs.lim b q hb' (fun e => ?_)).trans (h.old b q hb hr); rcases hold b e with h1 | h1
   . omega
   . exact hr h1
 . by_cases hid : i = d
   . subst hid; simpa only [put, E4, if_true] using hx
   . have h1 := (RA.killed h.slots d x v o (h.slots i)); have h2 := RA.step (og := O i) hs (fun g hg => ⟨(h.olt i g hg).1, hfree i g hid hg⟩) h1; simpa only [put, E4, if_neg hid] using h2
 . simp only [E4] at hi hj; by_cases hid : i = d <;> by_cases hjd : j = d
   . omega
   . rw [if_pos hid] at hi; rw [if_neg hjd] at hj; exact absurd hj ((ho g hi).2.2 j hjd)
   . rw [if_neg hid] at hi; rw [if_pos hjd] at hj; exact absurd hi ((ho g hj).2.2 i hid)
   . rw [if_neg hid] at hi; rw [if_neg hjd] at hj; exact h.inj i j g hi hj
 . simp only [E4] at hi; by_cases hid : i = d
   . rw [if_pos hid] at hi; exact ⟨(ho g hi).1, (ho g hi).2.1⟩
   . rw [if_neg hid] at hi; exact ⟨Nat.lt_of_lt_of_le (h.olt i g hi).1 hsize, (h.olt i g hi).2⟩
theorem Rel.putPure (h : Rel P w0 L0 row w L O σ tm) (d : Nat) (x : AV) (v : Value) (hx : RA P w L O σ tm none x v) : Rel P w0 L0 row w L (E4 O d none) (put σ d x) (E4 tm d v) :=
 h.putOwn d x v none noB (H4.refl w L _) h.grown (Nat.le_refl _) h.lok (fun _ h => h.elim) (fun _ _ _ _ h => h) (by simp) (RA.killed h.slots d x v none hx)
theorem Rel.putUndef (h : Rel P w0 L0 row w L O σ tm) (d : Nat) (v : Value) : Rel P w0 L0 row w L (E4 O d none) (put σ d .undef) (E4 tm d v) :=
 h.putPure d .undef v (by simp [RA, RC])
theorem O0 (tm : Nat -> Value) (d : Nat) : E4 tm d (tm d) = tm := by
 funext i; unfold E4; split
 . subst_vars; rfl
 . rfl
theorem Rel.forget (h : Rel P w0 L0 row w L O σ tm) (d : Nat) : Rel P w0 L0 row w L (E4 O d none) (put σ d .undef) tm := by
 have := h.putUndef d (tm d)
 rwa [O0] at this
end Go.Vw
namespace Go.Vw
open Go.RowKit
def C6 (a : Act) : Nat -> Value := fun i => a.tmps.getD i undef
theorem a1s {a : Act} {d : Nat} {v : Value} (hd : d < a.tmps.size) : C6 (a.put (some d) v) = E4 (C6 a) d v := by
 funext i
 simp only [C6, Act.put, E4]; by_cases h : i = d
 . subst h; simp [hd]
 . simp [h, Ne.symm h]
def D4 (P : Program) (w0 : World) (L0 : Nat -> Nat -> Prop) (row : Nat -> Prop) (n : Nat) (K : St -> Prop) (a : Act) (w : World) : Prop :=
 ∃ L O σ, Rel P w0 L0 row w L O σ (C6 a) /\ a.defers = [] /\ a.tmps.size = n /\ K σ
theorem D4.mono {P : Program} {w0 : World} {L0 : Nat -> Nat -> Prop} {row : Nat -> Prop} {n : Nat} {K K' : St -> Prop} {a : Act} {w : World} (h : D4 P w0 L0 row n K a w) (hk : ∀ σ, K σ -> K' σ) : D4 P w0 L0 row n K' a w :=
 let ⟨L, O, σ, h1, h2, h3, h4⟩ := h
 ⟨L, O, σ, h1, h2, h3, hk σ h4⟩
variable {P : Program} {w0 : World} {L0 : Nat -> Nat -> Prop} {row : Nat -> Prop} {n : Nat} {K : St -> Prop} {Q : Exit -> Act -> World -> Prop}
 {w w' : World} {L L' : Nat -> Nat -> Prop} {O O' : Nat -> Option Nat} {σ σ' : St} {a : Act} {o : Oper} {d : Nat} {v : Value} {tm : Nat -> Value}
theorem J3 (hd : o.dst = some d) (hlt : d < n) (hsz : a.tmps.size = n) (hdef : a.defers = []) (hrun : (execOp a.eval o).run P w = .ok (.value v) w')
   (hrel : Rel P w0 L0 row w' L' O' σ' (E4 (C6 a) d v)) (hK : K σ') : o.wp P a w (D4 P w0 L0 row n K) Q := by
 unfold Oper.wp; rw [hrun]; simp only [Oper.upon, hd]; refine ⟨L', O', σ', ?_, ?_, ?_, hK⟩
 . rw [a1s (by omega)]; exact hrel
 . simpa [Act.put] using hdef
 . simpa [Act.put] using hsz
theorem E6 (hd : o.dst = some d) (hlt : d < n) (hsz : a.tmps.size = n) (hdef : a.defers = []) (h : Rel P w0 L0 row w L O σ (C6 a)) {x : AV}
   (hrun : (execOp a.eval o).run P w = .ok (.value v) w) (hx : RA P w L O σ (C6 a) none x v) (hK : K (put σ d x)) : o.wp P a w (D4 P w0 L0 row n K) Q :=
 J3 hd hlt hsz hdef hrun (h.putPure d x v hx) hK
def a2b : Value -> AV
 | .bool b => .d (.bool b)
 | .int k n => .d (.int k n)
 | .string s => .d (.str s.data.toList)
 | .slice none 0 0 => .nils
 | .pointer none => .d .nilp
 | .map none => .d (.raw (.map none))
 | _ => .undef
def rd (t : Nat) : AV -> AV
 | .own m e l => .bor t m e l
 | .box _ => .adr t []
 | .tup _ => .undef
 | .iter _ _ => .undef
 | .undef => .undef
 | .d x => .d x
 | .nils => .nils
 | .full l => .full l
 | .bor j m e l => .bor j m e l
 | .adr j p => .adr j p
 | .eadr j i p => .eadr j i p
 | .sub j lo => .sub j lo
 | .hs _ _ _ => .undef
 | .hb _ _ _ => .undef
 | .hm _ _ _ _ => .undef
 | .mit _ _ _ => .undef
def A6 (σ : St) : Operand -> AV
 | .tmp t => rd t (σ t)
 | .const v => a2b v
 | .func f => .d (.clo f [])
 | .global _ => .undef
theorem c5f (v : Value) {tm : Nat -> Value} : RA P w L O σ tm none (a2b v) v := by
 cases v <;> try (simp [a2b, RA, RC]; done)
 case bool b => exact RepV.bool
 case int k n => exact RepV.int
 case string s => exact RepV.str
 case slice x len cap =>
   cases x <;> cases len <;> cases cap <;> simp [a2b, RA, RC]
 case pointer x =>
   cases x <;> simp [a2b, RA, RC]
   refine ⟨?_, rfl⟩; simp [Rep, Value.cells]
 case map x =>
   cases x <;> simp [a2b, RA, RC]
   exact RepV.raw (by simp [Value.oneCell']) rfl
theorem c8x {tm : Nat -> Value} (hs : ∀ i, RA P w L O σ tm (O i) (σ i) (tm i)) (t : Nat) : RA P w L O σ tm none (rd t (σ t)) (tm t) := by
 have h := hs t; cases hx : σ t <;> rw [hx] at h <;> simp only [rd]
 case own m e l => exact ⟨hx, rfl⟩
 case box x =>
   obtain ⟨g, C, e, h1, h2, _⟩ := h; exact ⟨x, g, 0, by rw [hx]; rfl, h1, by simp [D.off], h2⟩
 case undef => simp [RA, RC]
 case tup => simp [RA, RC]
 case iter => simp [RA, RC]
 case d => exact h
 case nils => exact h
 case full => exact h
 case bor => exact h
 case adr => exact h
 case eadr => exact h
 case sub => exact h
 case hs => simp [RA, RC]
 case hb => simp [RA, RC]
 case hm => simp [RA, RC]
 case mit => simp [RA, RC]
theorem I7 (h : Rel P w0 L0 row w L O σ (C6 a)) (x : Operand) : RA P w L O σ (C6 a) none (A6 σ x) (a.eval x) := by
 cases x with
 | tmp t => exact c8x h.slots t
 | const v => exact c5f v
 | func f =>
   refine ⟨?_, rfl⟩; simp [Rep, A8, Value.cells, Act.eval]
 | global g => simp [A6, RA, RC]
theorem N4 (h : Rel P w0 L0 row w L O σ (C6 a)) {x : Operand} {d : D} (hd : asD (A6 σ x) = some d) : RepV w L d (a.eval x) :=
 RA.asD h.slots (I7 h x) hd
theorem H3 (h : Rel P w0 L0 row w L O σ (C6 a)) {x : Operand} {d : D} (hd : A6 σ x = .d d) : RepV w L d (a.eval x) := by
 have := I7 h x; rw [hd] at this; exact this
def Z2 : AV -> Option (List D)
 | .bor _ _ _ l => some l
 | .d (.sl l) => some l
 | .nils => some []
 | .full l => some l
 | _ => none
def a4d (w : World) (L : Nat -> Nat -> Prop) (l : List D) (v : Value) : Prop :=
 ∃ a cap css sz, v = .slice a l.length cap /\ A8 w L l css /\ (∀ c ∈ css, c.length = sz) /\ l.length <= cap /\
   (l ≠ [] -> ∃ b off, a = some ⟨b, off, none⟩ /\ ∀ k u, css.flatten[k]? = some u -> w.cell? ⟨b, off + k, none⟩ = some u)
theorem RepV.sliceAt {l : List D} {v : Value} (h : RepV w L (.sl l) v) : a4d w L l v := by
 have h1 := h.cell rfl; simp only [Rep] at h1; obtain ⟨x, cap, css, sz, h2, h3, h4, h5, h6⟩ := h1; refine ⟨x, cap, css, sz, by simpa using h2, h3, h4, h5, fun hn => ?_⟩; obtain ⟨b, off, hx, hat⟩ := h6 hn; exact ⟨b, off, hx, fun k u hk => (hat k u hk).1⟩
theorem F0.sliceAt {og : Option Nat} {m : Bool} {e : TypeId} {l : List D} {v : Value} (h : F0 P w L og m e l v) : a4d w L l v := by
 obtain ⟨css, sz, h1, h2, h3, h4, h5⟩ := h; rcases h4.2 with ⟨hv, hn⟩ | ⟨g, cap, cur, hv, hh, hnc, hcm, hsz, ht⟩
 . subst hv; have hl : l = [] := eq_nil_of_length_eq_zero hn; subst hl; exact ⟨none, 0, css, sz, rfl, h2, h3, Nat.le_refl _, by simp⟩
 . subst hv; refine ⟨some ⟨g, 0, none⟩, cap, css, sz, rfl, h2, h3, hnc, fun _ => ⟨g, 0, rfl, fun k u hk => ?_⟩⟩; have hk1 := hk; rw [<- ht, getElem?_take] at hk1; split at hk1
   . simp only [World.cell?, hh]; simpa using hk1
   . cases hk1
theorem a6s (h : Rel P w0 L0 row w L O σ (C6 a)) {x : Operand} {l : List D} (hx : Z2 (A6 σ x) = some l) : a4d w L l (a.eval x) := by
 have h1 := I7 h x; cases hv : A6 σ x <;> rw [hv] at hx h1 <;> simp only [Z2] at hx
 case bor j m e k =>
   simp only [Option.some.injEq] at hx; subst hx; obtain ⟨h2, h3⟩ := h1; have h4 := h.slots j; rw [h2] at h4; rw [h3]; exact F0.sliceAt h4
 case d y =>
   cases y <;> simp only [] at hx
   case sl k =>
     simp only [Option.some.injEq] at hx; subst hx; exact RepV.sliceAt h1
   all_goals cases hx
 case nils => simp only [Option.some.injEq] at hx; subst hx; simp only [RA, RC] at h1; rw [h1]; exact a5E.sliceAt
 case full k => simp only [Option.some.injEq] at hx; subst hx; exact RepV.sliceAt h1.1
 all_goals cases hx
theorem a3h {css : List (List Value)} {sz : Nat} (hs : ∀ c ∈ css, c.length = sz) : ∀ {i : Nat} {c : List Value}, css[i]? = some c -> ∀ k u, c[k]? = some u -> css.flatten[i * sz + k]? = some u := by
 induction css with
 | nil => intro i c h; simp at h
 | cons x xs ih =>
   intro i c h k u hk; have hx : x.length = sz := hs x (by simp); cases i with
   | zero =>
     simp only [getElem?_cons_zero, Option.some.injEq] at h; subst h; have hlt : k < x.length := (List.getElem?_eq_some_iff.1 hk).1; simp only [Nat.zero_mul, Nat.zero_add, flatten_cons]; rw [getElem?_append_left hlt]; exact hk
   | succ i =>
     simp only [getElem?_cons_succ] at h; have := ih (fun c hc => hs c (by simp [hc])) h k u hk; simp only [flatten_cons]; rw [getElem?_append_right (by rw [hx, Nat.succ_mul]; omega), hx]; rw [show (i + 1) * sz + k - sz = i * sz + k by rw [Nat.succ_mul]; omega]; exact this
def tyk (P : Program) (t : TypeId) : Option (Bool × Nat) :=
 match P.underlying t, P.info? t with
 | some (.struct _), some i => some (true, i.size)
 | some (.array _ _), some i => some (true, i.size)
 | some _, some i => some (false, i.size)
 | _, _ => none
theorem a7d {t : TypeId} {b : Bool} {k : Nat} (h : tyk P t = some (b, k)) (w : World) : (isAgg t).run P w = .ok b w := by
 unfold tyk at h; cases hu : P.underlying t with
 | none => rw [hu] at h; cases P.info? t <;> simp at h
 | some u =>
   rw [hu] at h; cases hi : P.info? t with
   | none => rw [hi] at h; cases u <;> simp at h
   | some i => rw [hi] at h; cases u <;> simp at h <;> simp [isAgg, run_underlying hu, h.1]
theorem b1R {t : TypeId} {b : Bool} {k : Nat} (h : tyk P t = some (b, k)) (w : World) : (sizeOf t).run P w = .ok k w := by
 unfold tyk at h; cases hu : P.underlying t with
 | none => rw [hu] at h; cases P.info? t <;> simp at h
 | some u =>
   rw [hu] at h; cases hi : P.info? t with
   | none => rw [hi] at h; cases u <;> simp at h
   | some i => rw [hi] at h; cases u <;> simp at h <;> simp [sizeOf, typeInfo, hi, h.2]
theorem b1M {x : D} {cs : List Value} (h : Rep w L x cs) (hx : x.isAgg = false) : ∃ u, cs = [u] /\ K7 u = false := by
 cases x <;> simp only [Rep] at h <;> first
   | exact ⟨_, h.1, h.2.2⟩
   | (simp [D.isAgg] at hx; done)
   | (obtain ⟨_, _, _, _, h, rfl, _⟩ := h; exact ⟨_, h, rfl⟩)
   | (obtain ⟨_, _, _, _, h, _⟩ := h; exact ⟨_, h, rfl⟩)
   | (obtain ⟨_, _, _, h, _⟩ := h; exact ⟨_, h, rfl⟩)
   | (obtain ⟨_, _, _, h⟩ := h; exact ⟨_, h, rfl⟩)
   | (obtain ⟨_, _, h⟩ := h; exact ⟨_, h, rfl⟩)
   | exact ⟨_, h, rfl⟩
theorem a8V {t : TypeId} {x : D} {b off : Nat} {cs : List Value} (ht : tyk P t = some (x.isAgg, C0 x)) (hr : Rep w L x cs)
   (hc : ∀ k u, cs[k]? = some u -> w.cell? ⟨b, off + k, none⟩ = some u) : ∃ v, (loadVar t ⟨b, off, none⟩).run P w = .ok v w /\ RepV w L x v := by
 cases hx : x.isAgg with
 | true =>
   rw [hx] at ht; have hl : cs.length = C0 x := Rep.len x cs hr; refine ⟨.agg cs.toArray, ?_, ⟨by simpa [Value.cells] using hr, by simp [K7, hx]⟩⟩; simp only [loadVar, Sem.run_bind, a7d ht, Result.andThen_ok, if_true, b1R ht, <- hl]; rw [run_loadCells_list w ⟨b, off, none⟩ cs (fun j u hj => by rw [Addr.add_lit]; exact hc j u hj)]; rfl
 | false =>
   rw [hx] at ht; obtain ⟨u, hu, hv⟩ := b1M hr hx; subst hu; refine ⟨u, ?_, RepV.of_cell hr hx hv⟩; have := hc 0 u rfl; simp only [Nat.add_zero] at this; simp only [loadVar, Sem.run_bind, a7d ht, Result.andThen_ok, Bool.false_eq_true, if_false, run_load, this]
theorem a8X {x : D} {v : Value} (h : RepV w L (.ref x) v) : ∃ b off cs, v = .pointer (some ⟨b, off, none⟩) /\ Rep w L x cs /\ AtR w L b off cs := by
 have h1 := h.cell rfl; simp only [Rep] at h1; obtain ⟨b, off, cs, h2, h3, h4⟩ := h1; exact ⟨b, off, cs, by simpa using h2, h3, h4⟩
def a0P (σ : St) : AV -> Option D
 | .d (.ref x) => some x
 | .adr j p => match S5 (σ j) with
   | some b => D.get p b
   | none => none
 | .eadr j i p => match N8 (σ j) with
   | some (_, l) => match l[i]? with
     | some y => D.get p y
     | none => none
   | none => none
 | _ => none
def a2T (σ : St) : AV -> Option Unit
 | .d (.raw (.pointer (some _))) => some ()
 | y => (a0P σ y).map fun _ => ()
theorem Rel.boxed (h : Rel P w0 L0 row w L O σ tm) {j : Nat} {d : D} (hj : S5 (σ j) = some d) : a5v w L (O j) d (Y9 (σ j) (tm j)) := by
 have h1 := h.slots j; cases hx : σ j <;> rw [hx] at hj h1 <;> simp only [S5, Option.some.injEq] at hj
 case box => subst hj; exact h1
 case hb => subst hj; exact Y4.r h1
 all_goals cases hj
theorem Rel.boxedT (h : Rel P w0 L0 row w L O σ tm) {j : Nat} {d : D} (hj : S5 (σ j) = some d) : ∃ e, c6B (σ j) e /\ Y4 w L (O j) e d (Y9 (σ j) (tm j)) := by
 have h1 := h.slots j; cases hx : σ j <;> rw [hx] at hj h1 <;> simp only [S5, Option.some.injEq] at hj
 case box => subst hj; obtain ⟨e, h2⟩ := a5v.t h1; exact ⟨e, trivial, h2⟩
 case hb e d => subst hj; exact ⟨e, rfl, h1⟩
 all_goals cases hj
theorem Rel.owned (h : Rel P w0 L0 row w L O σ tm) {j : Nat} {e : TypeId} {l : List D} (hj : N8 (σ j) = some (e, l)) : F0 P w L (O j) true e l (Y9 (σ j) (tm j)) := by
 have h1 := h.slots j; cases hx : σ j <;> rw [hx] at hj h1 <;> simp only [N8] at hj
 case own m e' l' =>
   cases m with
   | false => cases hj
   | true => simp only [Option.some.injEq, Prod.mk.injEq] at hj; obtain ⟨rfl, rfl⟩ := hj; exact h1
 case hs => simp only [Option.some.injEq, Prod.mk.injEq] at hj; obtain ⟨rfl, rfl⟩ := hj; exact h1
 all_goals cases hj
theorem a5N (h : Rel P w0 L0 row w L O σ (C6 a)) {y : AV} {v : Value} {x : D} (hy : RA P w L O σ (C6 a) none y v) (hx : a0P σ y = some x) :
   ∃ b off cs, v = .pointer (some ⟨b, off, none⟩) /\ Rep w L x cs /\ ∀ k u, cs[k]? = some u -> w.cell? ⟨b, off + k, none⟩ = some u := by
 cases y <;> simp only [a0P] at hx
 case d z =>
   cases z <;> simp only [] at hx
   case ref z =>
     simp only [Option.some.injEq] at hx; subst hx; obtain ⟨b, off, cs, h1, h2, h3⟩ := a8X hy; exact ⟨b, off, cs, h1, h2, fun k u hk => (h3 k u hk).1⟩
   all_goals cases hx
 case adr j p =>
   obtain ⟨z, g, off, h1, h2, h3, h4⟩ := hy; rw [h1] at hx; simp only at hx; obtain ⟨g', C, e, h6, h7, h8, h9, h10⟩ := h.boxed h1; rw [h2] at h6; obtain rfl : g = g' := by simpa using h6
   obtain ⟨pre, c, post, hC, hl, hr, _⟩ := Rep.part h9 hx h3; refine ⟨g, off, c, h4, hr, fun k u hk => ?_⟩; have hk1 : k < c.length := (List.getElem?_eq_some_iff.1 hk).1; have : C.toList[off + k]? = some u := by
     rw [hC, getElem?_append_left (by simp only [length_append]; omega), getElem?_append_right (by omega), <- hl]; simpa using hk
   simp only [World.cell?, h8]; simpa using this
 case eadr j i p =>
   obtain ⟨e, l, g, sz, n, c, z, off, h1, h2, h3, h4, h5, h6⟩ := hy; rw [h1] at hx; simp only [h4] at hx; obtain ⟨css, sz', g1, g2, g3, g4, g5⟩ := h.owned h1; rw [h3] at g1; obtain rfl : sz = sz' := by simpa using g1
   rw [h2] at g4; have hcells := g4.cells (g := g) rfl; obtain ⟨ci, hci, hri⟩ := g2.get h4; obtain ⟨pre, c1, post, hC, hl, hr, _⟩ := Rep.part hri hx h5; refine ⟨g, i * sz + off, c1, h6, hr, fun k u hk => ?_⟩; have hk1 : k < c1.length := (List.getElem?_eq_some_iff.1 hk).1; have h8 : ci[off + k]? = some u := by
     rw [hC, getElem?_append_left (by simp only [length_append]; omega), getElem?_append_right (by omega), <- hl]; simpa using hk
   have h9 := hcells _ u (a3h g3 hci _ u h8); rw [Addr.add_lit] at h9; rw [<- h9]; congr 2; omega
 all_goals cases hx
end Go.Vw
namespace Go.Vw
open Go.RowKit
theorem b2h (off : Nat) : ∀ (l : List Value) (k : Nat) (A : Array Value), off + k + l.length <= A.size ->
   ((l.zipIdx k).foldl (fun (cs : Array Value) (p : Value × Nat) => cs.setIfInBounds (off + p.2) p.1) A).toList = A.toList.take (off + k) ++ l ++ A.toList.drop (off + k + l.length)
 | [], k, A, _ => by simp
 | x :: l, k, A, h => by
   simp only [length_cons] at h; simp only [zipIdx_cons, foldl_cons]; rw [b2h off l (k + 1) _ (by simp; omega)]; simp only [Array.toList_setIfInBounds, length_cons]; have h1 : (A.toList.set (off + k) x).take (off + (k + 1)) = A.toList.take (off + k) ++ [x] := by
     rw [<- Nat.add_assoc, take_add_one, take_set_of_le (Nat.le_refl _)]; rw [getElem?_set_self (by simp; omega)]; rfl
   have h2 : (A.toList.set (off + k) x).drop (off + (k + 1) + l.length) = A.toList.drop (off + k + (l.length + 1)) := by
     rw [drop_set_of_lt (by omega)]; congr 1; omega
   rw [h1, h2]; simp
theorem b5B (place : Nat -> Option (Nat × Nat)) (cells : Array Value) (i off : Nat) (v : Value) (rest : List (Nat × Value)) (hp : place i = some (off, v.cells.size)) (h : off + v.cells.size <= cells.size) :
   ∃ cells', Instr.fill place cells ((i, v) :: rest) = Instr.fill place cells' rest /\ cells'.toList = cells.toList.take off ++ v.cells.toList ++ cells.toList.drop (off + v.cells.size) := by
 have h0 : ¬ cells.size < off + v.cells.size := (by omega); refine ⟨v.cells.zipIdx.foldl (fun (cs : Array Value) (p : Value × Nat) => cs.setIfInBounds (off + p.2) p.1) cells, ?_, ?_⟩
 . simp only [Instr.fill, hp, ne_eq, not_true_eq_false, decide_false, gt_iff_lt, h0, Bool.or_self, Bool.false_eq_true, if_false]
 have := b2h off v.cells.toList 0 cells (by simpa using h); simp only [Nat.add_zero, Array.length_toList] at this; rw [<- this, <- Array.foldl_toList, Array.toList_zipIdx]
variable {P : Program} {w0 : World} {L0 : Nat -> Nat -> Prop} {row : Nat -> Prop} {n : Nat} {K : St -> Prop} {Q : Exit -> Act -> World -> Prop}
 {w w' : World} {L L' : Nat -> Nat -> Prop} {O O' : Nat -> Option Nat} {σ σ' : St} {a : Act} {o : Oper} {d : Nat} {v : Value}
def b8N : D -> List Value -> Bool
 | .bool b, [.bool c] => b == c
 | .int k m, [.int k' m'] => decide (k = k') && decide (m = m')
 | .str s, [.string t] => decide (s = t.data.toList)
 | .sl [], [.slice none 0 0] => true
 | .nilp, [.pointer none] => true
 | .raw (.slice none 0 0), [.slice none 0 0] => true
 | .raw .nilFunc, [.nilFunc] => true
 | .raw (.map none), [.map none] => true
 | _, _ => false
theorem c4w {d : D} {cs : List Value} (h : b8N d cs = true) : Rep w L d cs := by
 unfold b8N at h; split at h
 . simp only [beq_iff_eq] at h; subst h; rfl
 . simp only [Bool.and_eq_true, decide_eq_true_eq] at h; obtain ⟨rfl, rfl⟩ := h; rfl
 . rename_i s t
   simp only [decide_eq_true_eq] at h; subst h; simp [Rep]
 . simp only [Rep]; exact ⟨none, 0, [], 0, rfl, by simp [A8], by simp, by simp, by simp⟩
 . rfl
 . simp only [Rep]; exact ⟨trivial, by simp [Value.oneCell'], rfl⟩
 . simp only [Rep]; exact ⟨trivial, by simp [Value.oneCell'], rfl⟩
 . simp only [Rep]; exact ⟨trivial, by simp [Value.oneCell'], rfl⟩
 . cases h
mutual
def a8z : D -> List Value -> Option (List Value)
 | .agg ds, cs => a9Y ds cs
 | x, c :: cs => if b8N x [c] then some cs else none
 | _, [] => none
def a9Y : List D -> List Value -> Option (List Value)
 | [], cs => some cs
 | x :: xs, cs => match a8z x cs with
   | some cs' => a9Y xs cs'
   | none => none
end
theorem X8 {d : D} {cs cs' : List Value} (hd : d.isAgg = false) (h : a8z d cs = some cs') : ∃ c, cs = c ++ cs' /\ Rep w L d c := by
 cases cs with
 | nil => cases d <;> simp [a8z, D.isAgg] at h hd
 | cons c cs =>
   have h1 : (if b8N d [c] then some cs else none) = some cs' := by
     cases d <;> simp only [a8z] at h <;> first | exact h | (simp [D.isAgg] at hd)
   split at h1
   . rename_i hb
     simp only [Option.some.injEq] at h1; subst h1; exact ⟨[c], rfl, c4w hb⟩
   . cases h1
mutual
theorem b6P : ∀ (d : D) (cs cs' : List Value), a8z d cs = some cs' -> ∃ c, cs = c ++ cs' /\ Rep w L d c
 | .agg ds, cs, cs', h => by
   simp only [a8z] at h; obtain ⟨css, h1, h2⟩ := b4c ds cs cs' h; refine ⟨css.flatten, h1, ?_⟩; simp only [Rep]; exact ⟨css, h2, rfl⟩
 | .bool _, _, _, h => X8 rfl h
 | .int _ _, _, _, h => X8 rfl h
 | .str _, _, _, h => X8 rfl h
 | .sl _, _, _, h => X8 rfl h
 | .ref _, _, _, h => X8 rfl h
 | .clo _ _, _, _, h => X8 rfl h
 | .bnd _ _, _, _, h => X8 rfl h
 | .nilp, _, _, h => X8 rfl h
 | .raw _, _, _, h => X8 rfl h
 | .map _ _ _ _ _, _, _, h => X8 rfl h
theorem b4c : ∀ (ds : List D) (cs cs' : List Value), a9Y ds cs = some cs' -> ∃ css, cs = css.flatten ++ cs' /\ A8 w L ds css
 | [], cs, cs', h => by simp only [a9Y, Option.some.injEq] at h; subst h; exact ⟨[], by simp, by simp [A8]⟩
 | x :: xs, cs, cs', h => by
   simp only [a9Y] at h; cases hx : a8z x cs with
   | none => rw [hx] at h; cases h
   | some c1 =>
     rw [hx] at h; simp only at h; obtain ⟨c, h1, h2⟩ := b6P x cs c1 hx; obtain ⟨css, h3, h4⟩ := b4c xs c1 cs' h; refine ⟨c :: css, by simp [h1, h3], ?_⟩; simp only [A8]; exact ⟨c, css, rfl, h2, h4⟩
end
def a4H (P : Program) (N : Bool) : Nat -> TypeId -> D
 | 0, _ => .nilp
 | f + 1, t => match P.underlying t with
   | some .string => .str []
   | some .bool => .bool false
   | some (.int k) => .int k 0
   | some (.slice _) => if N then .raw (.slice none 0 0) else .sl []
   | some (.func _ _ _) => .raw .nilFunc
   | some (.map _ _) => .raw (.map none)
   | some (.struct fs) => .agg (fs.toList.map fun x => a4H P N f x.type)
   | some (.array m e) => .agg (replicate m (a4H P N f e))
   | _ => .nilp
def b1t : Option (List Value) -> Bool
 | some [] => true
 | _ => false
theorem b8m {x : Option (List Value)} (h : b1t x = true) : x = some [] := by
 unfold b1t at h; split at h
 . rfl
 . cases h
def a3v (P : Program) (N : Bool) (t : TypeId) : Option D :=
 match P.info? t with
 | some i => match i.zero with
   | some v => if b1t (a8z (a4H P N 8 t) v.cells.toList) = true /\ K7 v = (a4H P N 8 t).isAgg /\ i.size = C0 (a4H P N 8 t) then some (a4H P N 8 t) else none
   | none => none
 | none => none
theorem a7U {N : Bool} {t : TypeId} {z : D} (h : a3v P N t = some z) (w : World) (L : Nat -> Nat -> Prop) : ∃ v, (zeroValue t).run P w = .ok v w /\ RepV w L z v /\ (sizeOf t).run P w = .ok (C0 z) w := by
 unfold a3v at h; cases hi : P.info? t with
 | none => rw [hi] at h; cases h
 | some i =>
   rw [hi] at h; simp only at h; cases hz : i.zero with
   | none => rw [hz] at h; cases h
   | some v =>
     rw [hz] at h; simp only at h; split at h
     . rename_i hc
       simp only [Option.some.injEq] at h; subst h; obtain ⟨c, hc1, hc2⟩ := b6P (w := w) (L := L) _ _ _ (b8m hc.1); refine ⟨v, by simp [zeroValue, typeInfo, hi, hz], ⟨?_, hc.2.1⟩, by simp [sizeOf, typeInfo, hi, hc.2.2]⟩; rw [hc1]; simpa using hc2
     . cases h
def E3 (P : Program) (t : TypeId) : Option D := a3v P false t
theorem a4N {t : TypeId} {z : D} (h : E3 P t = some z) (w : World) (L : Nat -> Nat -> Prop) : ∃ v, (zeroValue t).run P w = .ok v w /\ RepV w L z v /\ (sizeOf t).run P w = .ok (C0 z) w := a7U h w L
def a3n (P : Program) (zs : List D) : Nat -> List Field -> Bool
 | _, [] => true
 | i, f :: fs => (match P.info? f.type with
   | some x => decide (f.offset = D6 (zs.take i)) && decide (x.size = C0 (zs.getD i .nilp)) && decide (0 < x.size)
   | none => false) && a3n P zs (i + 1) fs
def a0n (P : Program) (N : Bool) (t : TypeId) : Option (List D) :=
 match a3v P N t, P.underlying t with
 | some (.agg zs), some (.struct fs) => if fs.size = zs.length /\ a3n P zs 0 fs.toList = true then some zs else none
 | _, _ => none
def Q7 (P : Program) (t : TypeId) : Option (List D) := a0n P false t
theorem a7c {zs : List D} : ∀ {fs : List Field} {k i : Nat} {f : Field}, a3n P zs k fs = true -> fs[i]? = some f ->
   ∃ x, P.info? f.type = some x /\ f.offset = D6 (zs.take (k + i)) /\ x.size = C0 (zs.getD (k + i) .nilp) /\ 0 < x.size
 | [], _, _, _, _, hi => by simp at hi
 | g :: fs, k, 0, f, h, hi => by
   simp only [getElem?_cons_zero, Option.some.injEq] at hi; subst hi; simp only [a3n, Bool.and_eq_true] at h; cases hx : P.info? g.type with
   | none => rw [hx] at h; simp at h
   | some x =>
     rw [hx] at h; simp only [Bool.and_eq_true, decide_eq_true_eq] at h; exact ⟨x, rfl, by simpa using h.1.1.1, by simpa using h.1.1.2, h.1.2⟩
 | g :: fs, k, i + 1, f, h, hi => by
   simp only [getElem?_cons_succ] at hi; simp only [a3n, Bool.and_eq_true] at h; have := a7c h.2 hi
   rwa [show k + 1 + i = k + (i + 1) by omega] at this
theorem b1Y {N : Bool} {t : TypeId} {zs : List D} (h : a0n P N t = some zs) :
   ∃ fs : Array Field, P.underlying t = some (.struct fs) /\ fs.size = zs.length /\ a3v P N t = some (.agg zs) /\
     ∀ i f, fs[i]? = some f -> ∃ x, P.info? f.type = some x /\ f.offset = D6 (zs.take i) /\ x.size = C0 (zs.getD i .nilp) /\ 0 < x.size := by
 unfold a0n at h; split at h
 . rename_i ys fs hz hu
   split at h
   . rename_i hc
     simp only [Option.some.injEq] at h; subst h; refine ⟨fs, hu, hc.1, hz, fun i f hf => ?_⟩; have := a7c (i := i) (f := f) hc.2 (by simpa using hf); simpa using this
   . cases h
 . cases h
end Go.Vw
namespace Go.Vw
open Go.RowKit
variable {P : Program} {w0 : World} {L0 : Nat -> Nat -> Prop} {row : Nat -> Prop} {n : Nat} {K : St -> Prop} {Q : Exit -> Act -> World -> Prop}
 {w w' : World} {L L' : Nat -> Nat -> Prop} {O O' : Nat -> Option Nat} {σ σ' : St} {a : Act} {o : Oper} {d : Nat} {v : Value}
def InR (k : IntKind) (m : Int) : Prop :=
 match k with
 | .i8 => -128 <= m /\ m <= 127
 | .i16 => -32768 <= m /\ m <= 32767
 | .i32 => -2147483648 <= m /\ m <= 2147483647
 | .i64 => -9223372036854775808 <= m /\ m <= 9223372036854775807
 | .u8 => 0 <= m /\ m <= 255
 | .u16 => 0 <= m /\ m <= 65535
 | .u32 => 0 <= m /\ m <= 4294967295
 | .u64 => 0 <= m /\ m <= 18446744073709551615
theorem InR.wrap {k : IntKind} {m : Int} (h : InR k m) : k.wrap m = m := by
 cases k <;> simp only [InR] at h
 . exact IntWalk.i8_in m h
 . exact IntWalk.i16_in m h
 . exact IntWalk.i32_in m h
 . exact IntWalk.i64_in m h
 . exact IntWalk.u8_in m h
 . exact IntWalk.u16_in m h
 . exact IntWalk.u32_in m h
 . exact IntWalk.u64_in m h
def a0U : Option TypeDesc -> Bool
 | some (.pointer _) => true
 | _ => false
def a2q : Option TypeDesc -> Bool
 | some (.map _ _) => true
 | _ => false
def G9 (u : Option TypeDesc) (op : BinOp) (x y : D) (C : D -> Prop) : Prop :=
 match x, y with
 | .int k p, .int k' q => (match op with
   | .shr => 0 <= q /\ q.toNat <= k.bits /\ 0 <= p /\ C (.int k (p / 2 ^ q.toNat))
   | .shl => 0 <= q /\ q.toNat <= k.bits /\ InR k (p * 2 ^ q.toNat) /\ C (.int k (p * 2 ^ q.toNat))
   | .and => k = k' /\ 0 <= p /\ 0 <= q /\ InR k p /\ InR k q /\ C (.int k ((p.toNat &&& q.toNat : Nat) : Int))
   | .or => k = k' /\ 0 <= p /\ 0 <= q /\ InR k p /\ InR k q /\ C (.int k ((p.toNat ||| q.toNat : Nat) : Int))
   | .add => k = k' /\ InR k (p + q) /\ C (.int k (p + q))
   | .sub => k = k' /\ InR k (p - q) /\ C (.int k (p - q))
   | .mul => k = k' /\ InR k (p * q) /\ C (.int k (p * q))
   | .eql => k = k' /\ C (.bool (decide (p = q)))
   | .neq => k = k' /\ C (.bool (!decide (p = q)))
   | .lss => k = k' /\ C (.bool (decide (p < q)))
   | .leq => k = k' /\ C (.bool (decide (p <= q)))
   | .gtr => k = k' /\ C (.bool (decide (q < p)))
   | .geq => k = k' /\ C (.bool (decide (q <= p)))
   | .quo => k = k' /\ 0 <= p /\ 0 < q /\ InR k (p / q) /\ C (.int k (p / q))
   | .rem => k = k' /\ 0 < q /\ C (.int k (Int.tmod p q))
   | _ => False)
 | .nilp, .nilp => a0U u = true /\ (match op with
   | .eql => C (.bool true)
   | .neq => C (.bool false)
   | _ => False)
 | .raw (.pointer (some _)), .nilp => a0U u = true /\ (match op with
   | .eql => C (.bool false)
   | .neq => C (.bool true)
   | _ => False)
 | .ref _, .nilp => a0U u = true /\ (match op with
   | .eql => C (.bool false)
   | .neq => C (.bool true)
   | _ => False)
 | .raw (.map p), .raw (.map none) => a2q u = true /\ (match op with
   | .eql => C (.bool p.isNone)
   | .neq => C (.bool (!p.isNone))
   | _ => False)
 | .map _ _ _ _ _, .raw (.map none) => a2q u = true /\ (match op with
   | .eql => C (.bool false)
   | .neq => C (.bool true)
   | _ => False)
 | .str s, .str t => (match op with
   | .add => s.length + t.length <= 9223372036854775807 /\ C (.str (s ++ t))
   | .eql => C (.bool (decide (s = t)))
   | .neq => C (.bool (!decide (s = t)))
   | .lss => C (.bool (Op.bytesLess s t))
   | .leq => C (.bool (Op.bytesLess s t || decide (s = t)))
   | .gtr => C (.bool (!(Op.bytesLess s t || decide (s = t))))
   | .geq => C (.bool (!Op.bytesLess s t))
   | _ => False)
 | .bool p, .bool q => u = some .bool /\ (match op with
   | .eql => C (.bool (p == q))
   | .neq => C (.bool (!(p == q)))
   | _ => False)
 | _, _ => False
theorem a4z (s t : Str) : (s == t) = decide (s = t) := by
 by_cases h : s = t <;> simp [h]
theorem b1K (p q : Int) : (p == q) = decide (p = q) := by
 by_cases h : p = q <;> simp [h]
theorem b6t {w : World} (d : Nat) {t e : TypeId} (h : P.underlying t = some (.pointer e)) (p : Option Addr) : (Op.equalIn (d + 1) t (.pointer p) (.pointer none)).run P w = .ok p.isNone w := by
 cases p <;> simp [Op.equalIn, run_underlying h]
theorem a2e {w : World} {t e : TypeId} (h : P.underlying t = some (.pointer e)) (p : Option Addr) : (Op.equal t (.pointer p) (.pointer none)).run P w = .ok p.isNone w := b6t 9999 h p
theorem a7L {u : Option TypeDesc} (h : a0U u = true) : ∃ e, u = some (.pointer e) := by
 unfold a0U at h; split at h
 . exact ⟨_, rfl⟩
 . cases h
theorem b2b {u : Option TypeDesc} (h : a2q u = true) : ∃ k e, u = some (.map k e) := by
 unfold a2q at h; split at h
 . exact ⟨_, _, rfl⟩
 . cases h
theorem b6x {w : World} (d : Nat) {t k e : TypeId} (h : P.underlying t = some (.map k e)) (p : Option Nat) : (Op.equalIn (d + 1) t (.map p) (.map none)).run P w = .ok p.isNone w := by
 cases p <;> simp [Op.equalIn, run_underlying h]
theorem a4n {w : World} {t k e : TypeId} (h : P.underlying t = some (.map k e)) (p : Option Nat) : (Op.equal t (.map p) (.map none)).run P w = .ok p.isNone w := b6x 9999 h p
theorem InR.mono {k : IntKind} {p q : Int} (h : InR k p) (h0 : 0 <= q) (hq : q <= p) : InR k q := by
 cases k <;> simp only [InR] at h ⊢ <;> omega
theorem InR.ofInt {k : IntKind} {p : Int} (h : InR k p) (h0 : 0 <= p) : (BitVec.ofInt k.bits p).toNat = p.toNat := by
 rw [BitVec.toNat_ofInt]; cases k <;> simp only [InR, IntKind.bits] at h ⊢ <;> omega
theorem InR.or {k : IntKind} {p q : Int} (hp : InR k p) (hq : InR k q) (h0 : 0 <= p) (h1 : 0 <= q) : InR k ((p.toNat ||| q.toNat : Nat) : Int) := by
 have key : ∀ n : Nat, p.toNat < 2 ^ n -> q.toNat < 2 ^ n -> p.toNat ||| q.toNat < 2 ^ n := fun n a b => Nat.or_lt_two_pow a b
 cases k <;> simp only [InR] at hp hq ⊢
 case i8 => have := key 7 (by omega) (by omega); omega
 case i16 => have := key 15 (by omega) (by omega); omega
 case i32 => have := key 31 (by omega) (by omega); omega
 case i64 => have := key 63 (by omega) (by omega); omega
 case u8 => have := key 8 (by omega) (by omega); omega
 case u16 => have := key 16 (by omega) (by omega); omega
 case u32 => have := key 32 (by omega) (by omega); omega
 case u64 => have := key 64 (by omega) (by omega); omega
theorem c4T {op : BinOp} {ty : TypeId} {ox oy : Operand} {x y : D} {C : D -> Prop} {vx vy : Value} (hx : RepV w L x vx) (hy : RepV w L y vy) (h : G9 (P.underlying ty) op x y C) :
   ∃ r v, (do eqGuard op ty ox oy vx vy; binOp op ty vx vy : Sem Value).run P w = .ok v w /\ RepV w L r v /\ C r := by
 unfold G9 at h; split at h
 . rename_i k p k' q
   rw [hx.int_inv, hy.int_inv]; cases op <;> simp only at h
   case add => obtain ⟨rfl, h⟩ := h; exact ⟨_, .int k (k.wrap (p + q)), by simp [go_sem], by rw [h.1.wrap]; exact RepV.int, h.2⟩
   case sub => obtain ⟨rfl, h⟩ := h; exact ⟨_, .int k (k.wrap (p - q)), by simp [go_sem], by rw [h.1.wrap]; exact RepV.int, h.2⟩
   case mul => obtain ⟨rfl, h⟩ := h; exact ⟨_, .int k (k.wrap (p * q)), by simp [go_sem], by rw [h.1.wrap]; exact RepV.int, h.2⟩
   case quo =>
     obtain ⟨rfl, h⟩ := h; refine ⟨_, .int k (k.wrap (p.tdiv q)), ?_, ?_, h.2.2.2⟩
     . have : ¬ q = 0 := (by omega); simp [go_sem, this]
     . rw [Int.tdiv_eq_ediv_of_nonneg h.1, h.2.2.1.wrap]; exact RepV.int
   case rem =>
     obtain ⟨rfl, h⟩ := h; refine ⟨_, .int k (p.tmod q), ?_, RepV.int, h.2⟩; have : ¬ q = 0 := (by omega); simp [go_sem, this]
   case eql => obtain ⟨rfl, h⟩ := h; exact ⟨_, .bool (p == q), by simp [go_sem], by rw [b1K]; exact RepV.bool, h⟩
   case neq => obtain ⟨rfl, h⟩ := h; exact ⟨_, .bool (p != q), by simp [go_sem], by rw [bne, b1K]; exact RepV.bool, h⟩
   case lss => obtain ⟨rfl, h⟩ := h; exact ⟨_, .bool (p < q), by simp [go_sem], RepV.bool, h⟩
   case leq => obtain ⟨rfl, h⟩ := h; exact ⟨_, .bool (p <= q), by simp [go_sem], RepV.bool, h⟩
   case gtr => obtain ⟨rfl, h⟩ := h; exact ⟨_, .bool (p > q), by simp [go_sem], RepV.bool, h⟩
   case geq => obtain ⟨rfl, h⟩ := h; exact ⟨_, .bool (p ≥ q), by simp [go_sem], RepV.bool, h⟩
   case shr =>
     obtain ⟨h1, h2, h3, h4⟩ := h; refine ⟨_, .int k (p.fdiv (2 ^ q.toNat)), ?_, ?_, h4⟩
     . have e1 : ¬ q < 0 := (by omega); have e2 : min q.toNat k.bits = q.toNat := Nat.min_eq_left h2; simp [eqGuard, binOp, Op.shift, e1, e2]
     . rw [Int.fdiv_eq_ediv_of_nonneg _ (by have := Int.pow_nonneg (n := (2 : Int)) (m := q.toNat) (by omega); exact this)]; exact RepV.int
   case shl =>
     obtain ⟨h1, h2, h3, h4⟩ := h; refine ⟨_, .int k (k.wrap (p * 2 ^ q.toNat)), ?_, ?_, h4⟩
     . have e1 : ¬ q < 0 := (by omega); have e2 : min q.toNat k.bits = q.toNat := Nat.min_eq_left h2; simp [eqGuard, binOp, Op.shift, e1, e2]
     . rw [h3.wrap]; exact RepV.int
   case and =>
     obtain ⟨rfl, h1, h2, h3, h4, h5⟩ := h; have hle : p.toNat &&& q.toNat <= p.toNat := Nat.and_le_left; refine ⟨_, .int k (k.wrap ((BitVec.ofInt k.bits p &&& BitVec.ofInt k.bits q).toNat : Int)), by simp [eqGuard, binOp, Op.intBits], ?_, h5⟩; rw [BitVec.toNat_and, InR.ofInt h3 h1, InR.ofInt h4 h2, (h3.mono (by omega) (by omega)).wrap]; exact RepV.int
   case or =>
     obtain ⟨rfl, h1, h2, h3, h4, h5⟩ := h; have hor := InR.or h3 h4 h1 h2; refine ⟨_, .int k (k.wrap ((BitVec.ofInt k.bits p ||| BitVec.ofInt k.bits q).toNat : Int)), by simp [eqGuard, binOp, Op.intBits], ?_, h5⟩; rw [BitVec.toNat_or, InR.ofInt h3 h1, InR.ofInt h4 h2, hor.wrap]; exact RepV.int
 . obtain ⟨hu, h⟩ := h; have ex : vx = .pointer none := by have := hx.cell rfl; simpa [Rep] using this
   have ey : vy = .pointer none := by have := hy.cell rfl; simpa [Rep] using this
   subst ex; subst ey; obtain ⟨z, hz⟩ := a7L hu; have he : (Op.equal ty (.pointer none) (.pointer none)).run P w = .ok true w := a2e hz none; cases op <;> simp only at h
   case eql => exact ⟨_, .bool true, by simp [eqGuard, binOp, he], RepV.bool, h⟩
   case neq => exact ⟨_, .bool false, by simp [eqGuard, binOp, he], RepV.bool, h⟩
 . rename_i A
   obtain ⟨hu, h⟩ := h; have ex : vx = .pointer (some A) := hx.raw_inv; have ey : vy = .pointer none := by have := hy.cell rfl; simpa [Rep] using this
   subst ex; subst ey; obtain ⟨z, hz⟩ := a7L hu; have he : (Op.equal ty (.pointer (some A)) (.pointer none)).run P w = .ok false w := a2e hz (some _); cases op <;> simp only at h
   case eql => exact ⟨_, .bool false, by simp [eqGuard, binOp, he], RepV.bool, h⟩
   case neq => exact ⟨_, .bool true, by simp [eqGuard, binOp, he], RepV.bool, h⟩
 . rename_i r
   obtain ⟨hu, h⟩ := h; obtain ⟨b, off, cs, ex, _, _⟩ : ∃ b off cs', [vx] = [Value.pointer (some ⟨b, off, none⟩)] /\ Rep w L r cs' /\ AtR w L b off cs' := by have := hx.cell rfl; simpa only [Rep] using this
   have ex : vx = .pointer (some ⟨b, off, none⟩) := (by simpa using ex); have ey : vy = .pointer none := by have := hy.cell rfl; simpa [Rep] using this
   subst ex; subst ey; obtain ⟨z, hz⟩ := a7L hu; have he : (Op.equal ty (.pointer (some ⟨b, off, none⟩)) (.pointer none)).run P w = .ok false w := a2e hz (some _); cases op <;> simp only at h
   case eql => exact ⟨_, .bool false, by simp [eqGuard, binOp, he], RepV.bool, h⟩
   case neq => exact ⟨_, .bool true, by simp [eqGuard, binOp, he], RepV.bool, h⟩
 . rename_i q
   obtain ⟨hu, h⟩ := h; have ex : vx = .map q := hx.raw_inv; have ey : vy = .map none := hy.raw_inv; subst ex; subst ey; obtain ⟨z1, z2, hz⟩ := b2b hu; have he : (Op.equal ty (.map q) (.map none)).run P w = .ok q.isNone w := a4n hz q; cases op <;> simp only at h
   case eql => exact ⟨_, .bool q.isNone, by simp [eqGuard, binOp, he], RepV.bool, h⟩
   case neq => exact ⟨_, .bool (!q.isNone), by simp [eqGuard, binOp, he], RepV.bool, h⟩
 . rename_i u1 ks vs bs clk
   obtain ⟨hu, h⟩ := h; have ex := hx.cell rfl; simp only [Rep] at ex; obtain ⟨g, es, kss, vss, e1, e2, _⟩ := ex; have ex : vx = .map (some g) := by rw [<- e2]; simpa using e1
   have ey : vy = .map none := hy.raw_inv; subst ex; subst ey; obtain ⟨z1, z2, hz⟩ := b2b hu; have he : (Op.equal ty (.map (some g)) (.map none)).run P w = .ok false w := a4n hz (some g); cases op <;> simp only at h
   case eql => exact ⟨_, .bool false, by simp [eqGuard, binOp, he], RepV.bool, h⟩
   case neq => exact ⟨_, .bool true, by simp [eqGuard, binOp, he], RepV.bool, h⟩
 . rename_i s t
   rw [hx.str_inv, hy.str_inv]; cases op <;> simp only at h
   case add =>
     refine ⟨_, .string (⟨s.toArray⟩ ++ ⟨t.toArray⟩), ?_, ?_, h.2⟩
     . have : ¬ (9223372036854775807 < ((s.length + t.length : Nat) : Int)) := (by omega); simp only [Sem.run_bind, eqGuard_add, Sem.run_pure, Result.andThen_ok, binOp_string_add, Op.stringOp, ByteArray.size, size_toArray, IntKind.max_i64, gt_iff_lt, this, if_false]
     . have e : (⟨s.toArray⟩ ++ ⟨t.toArray⟩ : ByteArray) = ⟨(s ++ t).toArray⟩ := by apply ByteArray.ext; simp
       rw [e]; exact RepV.str
   case eql => exact ⟨_, .bool (s == t), by simp [go_sem, Lib.toList_data], by rw [a4z]; exact RepV.bool, h⟩
   case neq => exact ⟨_, .bool (!(s == t)), by simp [go_sem, Lib.toList_data], by rw [a4z]; exact RepV.bool, h⟩
   case lss => exact ⟨_, .bool (Op.bytesLess s t), by simp [go_sem, Lib.toList_data], RepV.bool, h⟩
   case leq => exact ⟨_, .bool (Op.bytesLess s t || (s == t)), by simp [eqGuard, binOp, Op.stringOp, Lib.toList_data], by rw [a4z]; exact RepV.bool, h⟩
   case gtr => exact ⟨_, .bool (!(Op.bytesLess s t || (s == t))), by simp [eqGuard, binOp, Op.stringOp, Lib.toList_data], by rw [a4z]; exact RepV.bool, h⟩
   case geq => exact ⟨_, .bool (!Op.bytesLess s t), by simp [eqGuard, binOp, Op.stringOp, Lib.toList_data], RepV.bool, h⟩
 . rename_i p q
   obtain ⟨hu, h⟩ := h; rw [hx.bool_inv, hy.bool_inv]; have he : (Op.equal ty (.bool p) (.bool q)).run P w = .ok (p == q) w := run_equalIn_bool' w 9999 ty p q hu; cases op <;> simp only at h
   case eql => exact ⟨_, .bool (p == q), by simp [eqGuard, binOp, he], RepV.bool, h⟩
   case neq => exact ⟨_, .bool (!(p == q)), by simp [eqGuard, binOp, he], RepV.bool, h⟩
 . exact h.elim
theorem J7 {t : TypeId} {k : Nat} (h : E5 P t = some k) (w : World) : (sizeOf t).run P w = .ok k w := by
 simp only [E5, Option.map_eq_some_iff] at h; obtain ⟨i, hi, rfl⟩ := h; simp [sizeOf, typeInfo, hi]
def X0 (P : Program) (t : TypeId) (op : BinOp) (x y : D) (C : D -> Prop) : Prop :=
 match x, y with
 | .agg xs, .agg ys => a1A P t = true /\ P7 P (P.fieldsOf t).toList 0 xs ys = true /\ (match op with
   | .eql => C (.bool (O5 xs ys))
   | .neq => C (.bool (!O5 xs ys))
   | _ => False)
 | _, _ => G9 (P.underlying t) op x y C
theorem a9v {u : TypeId} {x y : D} {cx cy : List Value} (h : a0F (P.underlying u) x y = true) (hx : Rep w L x cx) (hy : Rep w L y cy) :
   ∃ a b, cx = [a] /\ cy = [b] /\ (isAgg u).run P w = .ok false w /\ ∀ d, (Op.equalIn (d + 1) u a b).run P w = .ok (J9 [x] [y]) w := by
 unfold a0F at h; split at h
 . rename_i s t hu
   simp only [Rep] at hx hy; exact ⟨_, _, hx, hy, by simp [isAgg, run_underlying hu], fun d => by rw [run_equalIn_string w d u _ _ hu]; simp only [J9, Lib.toList_data, a4z, Bool.and_true]⟩
 . rename_i p q hu
   simp only [Rep] at hx hy; exact ⟨_, _, hx, hy, by simp [isAgg, run_underlying hu], fun d => by rw [run_equalIn_bool' w d u _ _ hu]; simp [J9]⟩
 . rename_i k' k p k2 q hu
   simp only [decide_eq_true_eq] at h; subst h; simp only [Rep] at hx hy; exact ⟨_, _, hx, hy, by simp [isAgg, run_underlying hu], fun d => by rw [run_equalIn_int w d u _ _ _ _ hu]; simp only [J9, b1K, Bool.and_true]⟩
 . cases h
theorem a7s {u : Option TypeDesc} {x y : D} {xs ys : List D} (h : a0F u x y = true) : J9 (x :: xs) (y :: ys) = (J9 [x] [y] && J9 xs ys) := by
 unfold a0F at h; split at h <;> first | (simp [J9]; done) | cases h
theorem a7W (d : Nat) (A B : Array Value) : ∀ (fs : List Field) (off : Nat) (xs ys : List D) (cxs cys : List (List Value)), Z7 P fs off xs ys = true -> A8 w L xs cxs -> A8 w L ys cys ->
   A.toList.drop off = cxs.flatten -> B.toList.drop off = cys.flatten -> (Op.eqFields (d + 1) A B fs).run P w = .ok (J9 xs ys) w
 | [], off, [], [], _, _, _, _, _, _, _ => by simp [Op.eqFields, J9]
 | f :: fs, off, x :: xs, y :: ys, cxs, cys, h, hx, hy, hA, hB => by
   simp only [Z7, Bool.and_eq_true, decide_eq_true_eq] at h; obtain ⟨⟨⟨h1, h2⟩, h3⟩, h4⟩ := h; simp only [A8] at hx hy; obtain ⟨c1, cs1, rfl, hx1, hx2⟩ := hx; obtain ⟨c2, cs2, rfl, hy1, hy2⟩ := hy; obtain ⟨a, b, rfl, rfl, e1, e2⟩ := a9v h3 hx1 hy1; have ga : A[f.offset]? = some a := by
     have := congrArg (fun l => l[0]?) hA; simp only [getElem?_drop, Nat.add_zero, flatten_cons, cons_append, getElem?_cons_zero] at this; rw [h2]; simpa using this
   have gb : B[f.offset]? = some b := by
     have := congrArg (fun l => l[0]?) hB; simp only [getElem?_drop, Nat.add_zero, flatten_cons, cons_append, getElem?_cons_zero] at this; rw [h2]; simpa using this
   have pa : (part f.type A f.offset).run P w = .ok a w := (by simp [part, e1, ga]); have pb : (part f.type B f.offset).run P w = .ok b w := (by simp [part, e1, gb]); have dA : A.toList.drop (off + 1) = cs1.flatten := by
     rw [<- drop_drop, hA]; simp
   have dB : B.toList.drop (off + 1) = cs2.flatten := by
     rw [<- drop_drop, hB]; simp
   have ih := a7W d A B fs (off + 1) xs ys cs1 cs2 h4 hx2 hy2 dA dB; rw [a7s h3]; simp only [Op.eqFields, ne_eq, h1, not_false_eq_true, if_true, Sem.run_bind, pa, pb, e2 d, Result.andThen_ok, Sem.run_ite]; cases J9 [x] [y]
   . simp
   . simp [ih]
 | [], _, [], _ :: _, _, _, h, _, _, _, _ => by simp [Z7] at h
 | [], _, _ :: _, _, _, _, h, _, _, _, _ => by simp [Z7] at h
 | _ :: _, _, [], _, _, _, h, _, _, _, _ => by simp [Z7] at h
 | _ :: _, _, _ :: _, [], _, _, h, _, _, _, _ => by simp [Z7] at h
theorem a9i {u : Option TypeDesc} {x y : D} {xs ys : List D} (h : a0F u x y = true) : O5 (x :: xs) (y :: ys) = (J9 [x] [y] && O5 xs ys) := by
 unfold a0F at h; split at h <;> first | (simp [O5, J9]; done) | cases h
theorem a5M {t : TypeId} (h : a0W (P.underlying t) = true) : P.underlying t = some (.struct (P.fieldsOf t)) := by
 unfold a0W at h; split at h
 . rename_i fs hfs; simp [Program.fieldsOf, hfs]
 . cases h
theorem b6w {f : Field} {fs : List Field} {off : Nat} {x y : D} {xs ys : List D} (h : P7 P (f :: fs) off (x :: xs) (y :: ys) = true) :
   f.name ≠ "_" /\ f.offset = off /\ ((a0F (P.underlying f.type) x y = true /\ P7 P fs (off + 1) xs ys = true) \/
     ∃ a b, x = .agg a /\ y = .agg b /\ a0W (P.underlying f.type) = true /\ P.stoodInHeld f.type = false /\ E5 P f.type = some (D6 a) /\ D6 b = D6 a /\ Z7 P (P.fieldsOf f.type).toList 0 a b = true /\ P7 P fs (off + D6 a) xs ys = true) := by
 unfold P7 at h; split at h
 . rename_i e1 e2 e3; cases e1
 . rename_i f' fs' off' a xs' b ys' e1 e2 e3
   simp only [List.cons.injEq] at e1 e2 e3; obtain ⟨rfl, rfl⟩ := e1; obtain ⟨rfl, rfl⟩ := e2; obtain ⟨rfl, rfl⟩ := e3; simp only [Bool.and_eq_true, decide_eq_true_eq, Bool.not_eq_true'] at h; obtain ⟨⟨⟨h1, h2⟩, ⟨⟨⟨h3, h4⟩, h5⟩, h6⟩, h7⟩, h8⟩ := h; exact ⟨h1, h2, .inr ⟨a, b, rfl, rfl, h3, h4, h5, h6, h7, h8⟩⟩
 . rename_i f' fs' off' x' xs' y' ys' _ e1 e2 e3
   simp only [List.cons.injEq] at e1 e2 e3; obtain ⟨rfl, rfl⟩ := e1; obtain ⟨rfl, rfl⟩ := e2; obtain ⟨rfl, rfl⟩ := e3; simp only [Bool.and_eq_true, decide_eq_true_eq] at h; exact ⟨h.1.1.1, h.1.1.2, .inl ⟨h.1.2, h.2⟩⟩
 . cases h
theorem a3f (d : Nat) (A B : Array Value) : ∀ (fs : List Field) (off : Nat) (xs ys : List D) (cxs cys : List (List Value)), P7 P fs off xs ys = true -> A8 w L xs cxs -> A8 w L ys cys ->
   A.toList.drop off = cxs.flatten -> B.toList.drop off = cys.flatten -> (Op.eqFields (d + 2) A B fs).run P w = .ok (O5 xs ys) w
 | [], off, [], [], _, _, _, _, _, _, _ => by simp [Op.eqFields, O5]
 | f :: fs, off, x :: xs, y :: ys, cxs, cys, h, hx, hy, hA, hB => by
   obtain ⟨h1, h2, h34⟩ := b6w h; simp only [A8] at hx hy; obtain ⟨c1, cs1, rfl, hx1, hx2⟩ := hx; obtain ⟨c2, cs2, rfl, hy1, hy2⟩ := hy; rcases h34 with ⟨h3, h4⟩ | ⟨a, b, rfl, rfl, h3, h5, h6, h7, h8, h4⟩
   . obtain ⟨a, b, rfl, rfl, e1, e2⟩ := a9v h3 hx1 hy1; have ga : A[f.offset]? = some a := by
       have := congrArg (fun l => l[0]?) hA; simp only [getElem?_drop, Nat.add_zero, flatten_cons, cons_append, getElem?_cons_zero] at this; rw [h2]; simpa using this
     have gb : B[f.offset]? = some b := by
       have := congrArg (fun l => l[0]?) hB; simp only [getElem?_drop, Nat.add_zero, flatten_cons, cons_append, getElem?_cons_zero] at this; rw [h2]; simpa using this
     have pa : (part f.type A f.offset).run P w = .ok a w := (by simp [part, e1, ga]); have pb : (part f.type B f.offset).run P w = .ok b w := (by simp [part, e1, gb]); have dA : A.toList.drop (off + 1) = cs1.flatten := by
       rw [<- drop_drop, hA]; simp
     have dB : B.toList.drop (off + 1) = cs2.flatten := by
       rw [<- drop_drop, hB]; simp
     have ih := a3f d A B fs (off + 1) xs ys cs1 cs2 h4 hx2 hy2 dA dB; rw [a9i h3]; simp only [Op.eqFields, ne_eq, h1, not_false_eq_true, if_true, Sem.run_bind, pa, pb, e2 (d + 1), Result.andThen_ok, Sem.run_ite]; cases J9 [x] [y]
     . simp
     . simp [ih]
   . have hu := a5M h3; have hag : (isAgg f.type).run P w = .ok true w := (by simp [isAgg, run_underlying hu]); have hsz := J7 h6 w; have l1 : c1.length = D6 a := Rep.len _ _ hx1; have l2 : c2.length = D6 a := by rw [Rep.len _ _ hy1]; exact h7
     have tA : (A.extract f.offset (f.offset + D6 a)).toList = c1 := by
       rw [Array.toList_extract, extract_eq_take_drop, h2, hA, flatten_cons, Nat.add_sub_cancel_left, <- l1, take_left]
     have tB : (B.extract f.offset (f.offset + D6 a)).toList = c2 := by
       rw [Array.toList_extract, extract_eq_take_drop, h2, hB, flatten_cons, Nat.add_sub_cancel_left, <- l2, take_left]
     have pa : (part f.type A f.offset).run P w = .ok (.agg (A.extract f.offset (f.offset + D6 a))) w := (by simp [part, hag, hsz]); have pb : (part f.type B f.offset).run P w = .ok (.agg (B.extract f.offset (f.offset + D6 a))) w := (by simp [part, hag, hsz]); simp only [Rep] at hx1 hy1; obtain ⟨d1, r1, r2⟩ := hx1; obtain ⟨d2, r3, r4⟩ := hy1; have e2 : (Op.equalIn (d + 2) f.type (.agg (A.extract f.offset (f.offset + D6 a))) (.agg (B.extract f.offset (f.offset + D6 a)))).run P w = .ok (J9 a b) w := by
       rw [run_equalIn_struct w (d + 1) f.type _ _ hu h5]; exact a7W d _ _ _ 0 a b d1 d2 h8 r1 r3 (by rw [drop_zero, tA, r2]) (by rw [drop_zero, tB, r4])
     have dA : A.toList.drop (off + D6 a) = cs1.flatten := by
       rw [<- drop_drop, hA, flatten_cons, <- l1, drop_left]
     have dB : B.toList.drop (off + D6 a) = cs2.flatten := by
       rw [<- drop_drop, hB, flatten_cons, <- l2, drop_left]
     have ih := a3f d A B fs (off + D6 a) xs ys cs1 cs2 h4 hx2 hy2 dA dB; simp only [Op.eqFields, ne_eq, h1, not_false_eq_true, if_true, Sem.run_bind, pa, pb, e2, Result.andThen_ok, Sem.run_ite, O5]; cases J9 a b
     . simp
     . simp [ih]
 | [], _, [], _ :: _, _, _, h, _, _, _, _ => by simp [P7] at h
 | [], _, _ :: _, _, _, _, h, _, _, _, _ => by simp [P7] at h
 | _ :: _, _, [], _, _, _, h, _, _, _, _ => by simp [P7] at h
 | _ :: _, _, _ :: _, [], _, _, h, _, _, _, _ => by simp [P7] at h
theorem c4S {op : BinOp} {ty : TypeId} {ox oy : Operand} {x y : D} {C : D -> Prop} {vx vy : Value} (hx : RepV w L x vx) (hy : RepV w L y vy) (h : X0 P ty op x y C) :
   ∃ r v, (do eqGuard op ty ox oy vx vy; binOp op ty vx vy : Sem Value).run P w = .ok v w /\ RepV w L r v /\ C r := by
 unfold X0 at h; split at h
 . rename_i xs ys
   obtain ⟨h1, h2, h3⟩ := h; obtain ⟨A, rfl⟩ : ∃ A, vx = .agg A := by have := hx.2; cases vx <;> simp [K7, D.isAgg] at this; exact ⟨_, rfl⟩
   obtain ⟨B, rfl⟩ : ∃ B, vy = .agg B := by have := hy.2; cases vy <;> simp [K7, D.isAgg] at this; exact ⟨_, rfl⟩
   have h9 := hx.1; simp only [Rep] at h9; obtain ⟨cx, r1, r2⟩ := h9; have r2 : A.toList = cx.flatten := r2; have h10 := hy.1; simp only [Rep] at h10; obtain ⟨cy, r3, r4⟩ := h10; have r4 : B.toList = cy.flatten := r4; simp only [a1A, Bool.and_eq_true, Bool.not_eq_true'] at h1; obtain ⟨⟨hs, hst⟩, hg⟩ := h1; have hu : P.underlying ty = some (.struct (P.fieldsOf ty)) := by
     unfold a0W at hs; split at hs
     . rename_i fs hfs; simp [Program.fieldsOf, hfs]
     . cases hs
   have heq : (Op.equalIn 10000 ty (.agg A) (.agg B)).run P w = .ok (O5 xs ys) w := by
     rw [run_equalIn_struct w 9999 ty A B hu hst]; exact a3f 9997 A B _ 0 xs ys cx cy h2 r1 r3 (by simpa using r2) (by simpa using r4)
   have hgd := run_eqGuard_agg w op ty ox oy A B hg; cases op <;> simp only at h3
   case eql => exact ⟨_, .bool (O5 xs ys), by rw [Sem.run_bind, hgd, Result.andThen_ok, run_eql_struct, heq, Result.andThen_ok], RepV.bool, h3⟩
   case neq => exact ⟨_, .bool (!O5 xs ys), by rw [Sem.run_bind, hgd, Result.andThen_ok, run_neq_struct, heq, Result.andThen_ok], RepV.bool, h3⟩
 . exact c4T hx hy h
def b8M : BinOp -> Bool
 | .neq => true
 | _ => false
def c1M : BinOp -> Bool
 | .eql => true
 | .neq => true
 | _ => false
def b4g : Value -> Bool
 | .slice none 0 0 => true
 | _ => false
def b4h : Operand -> Bool
 | .const v => b4g v
 | _ => false
def a9r (op : BinOp) (y : Operand) : Bool := c1M op && b4h y
theorem b9X {op : BinOp} {y : Operand} (h : a9r op y = true) : (op = .eql \/ op = .neq) /\ y = .const (.slice none 0 0) := by
 simp only [a9r, Bool.and_eq_true] at h; refine ⟨?_, ?_⟩
 . cases op <;> simp [c1M] at h ⊢
 . have h2 := h.2; unfold b4h at h2; split at h2
   . unfold b4g at h2; split at h2
     . rfl
     . cases h2
   . cases h2
theorem RepV.sl_head {l : List D} {v : Value} (h : RepV w L (.sl l) v) : ∃ A c, v = .slice A l.length c /\ (l ≠ [] -> ∃ g, A = some g) := by
 obtain ⟨h1, h2⟩ := h; simp only [Rep] at h1; obtain ⟨A, cap, css, sz, h3, _, _, _, h5⟩ := h1; rw [a7B h2] at h3; refine ⟨A, cap, by simpa using h3, fun hn => ?_⟩; obtain ⟨b, off, hA, _⟩ := h5 hn; exact ⟨_, hA⟩
section
variable (hd : o.dst = some d) (hlt : d < n) (hsz : a.tmps.size = n) (hdef : a.defers = []) (hR : Rel P w0 L0 row w L O σ (C6 a))
include hd hlt hsz hdef hR
theorem c3Y {op : BinOp} {t : TypeId} {x y : Operand} {t' : TypeId} (ho : o.op = .binOp op t x y t') {dx dy : D} (hx : asD (A6 σ x) = some dx) (hy : asD (A6 σ y) = some dy)
   (h : X0 P t op dx dy (fun r => K (put σ d (.d r)))) : o.wp P a w (D4 P w0 L0 row n K) Q := by
 obtain ⟨r, v, hrun, hr, hK⟩ := c4S (ox := x) (oy := y) (N4 hR hx) (N4 hR hy) h; refine E6 hd hlt hsz hdef hR (x := .d r) (v := v) ?_ hr hK; simp only [Sem.run_bind] at hrun; simp only [execOp, ho, Sem.run_bind, hrun, Result.andThen_ok, Sem.run_pure]
theorem c5N {op : BinOp} {t e : TypeId} {x y : Operand} {t' : TypeId} (ho : o.op = .binOp op t x y t') (hq : a9r op y = true) (hu : P.underlying t = some (.slice e)) {l : List D} (hx : asD (A6 σ x) = some (.sl l))
   (h1 : l ≠ [] -> K (put σ d (.d (.bool (b8M op))))) (h0 : l = [] -> ∀ b, K (put σ d (.d (.bool b)))) : o.wp P a w (D4 P w0 L0 row n K) Q := by
 obtain ⟨A, c, hv, hA⟩ := (N4 hR hx).sl_head; obtain ⟨hop, rfl⟩ := b9X hq; have hK : ∀ b, (b = b8M op \/ l = []) -> K (put σ d (.d (.bool b))) := by
   rintro b (rfl | hb)
   . by_cases hl : l = []
     . exact h0 hl _
     . exact h1 hl
   . exact h0 hb b
 have he : (Op.equal t (.slice A l.length c) (.slice none 0 0)).run P w = .ok A.isNone w := run_equal_slice_nil w t e A l.length c hu; have hev : a.eval (.const (.slice none 0 0)) = .slice none 0 0 := rfl; have hn : A.isNone = false \/ l = [] := by
   by_cases hl : l = []
   . exact .inr hl
   . exact .inl (by obtain ⟨g, hg⟩ := hA hl; rw [hg]; rfl)
 rcases hop with rfl | rfl
 . refine E6 hd hlt hsz hdef hR (x := .d (.bool A.isNone)) (v := .bool A.isNone) ?_ RepV.bool (hK _ (hn.imp (fun h => by rw [h]; rfl) id)); simp [execOp, ho, hv, hev, eqGuard, binOp, he]
 . refine E6 hd hlt hsz hdef hR (x := .d (.bool !A.isNone)) (v := .bool !A.isNone) ?_ RepV.bool (hK _ (hn.imp (fun h => by rw [h]; rfl) id)); simp [execOp, ho, hv, hev, eqGuard, binOp, he]
theorem a2t {x : Operand} (ho : o.op = .move x \/ o.op = .assign x) (h : K (put σ d (A6 σ x))) : o.wp P a w (D4 P w0 L0 row n K) Q := by
 refine E6 hd hlt hsz hdef hR (x := A6 σ x) (v := a.eval x) ?_ (I7 hR x) h; rcases ho with ho | ho <;> simp [execOp, ho]
theorem c0m {c x y : Operand} (ho : o.op = .pick c x y) {b : Bool} (hc : A6 σ c = .d (.bool b)) (ht : b = true -> K (put σ d (A6 σ x))) (hf : b = false -> K (put σ d (A6 σ y))) :
   o.wp P a w (D4 P w0 L0 row n K) Q := by
 have hc1 := (H3 hR hc).bool_inv; cases b with
 | true => exact E6 hd hlt hsz hdef hR (x := A6 σ x) (v := a.eval x) (by simp [execOp, ho, hc1, asBool]) (I7 hR x) (ht rfl)
 | false => exact E6 hd hlt hsz hdef hR (x := A6 σ y) (v := a.eval y) (by simp [execOp, ho, hc1, asBool]) (I7 hR y) (hf rfl)
theorem c3T {t : TypeId} {x : Operand} (ho : o.op = .unOp .not t x) {b : Bool} (hx : A6 σ x = .d (.bool b)) (h : K (put σ d (.d (.bool !b)))) : o.wp P a w (D4 P w0 L0 row n K) Q := by
 have hx1 := (H3 hR hx).bool_inv; exact E6 hd hlt hsz hdef hR (x := .d (.bool !b)) (v := .bool !b) (by simp [execOp, ho, hx1, Op.unary]) RepV.bool h
def a1t (P : Program) (σ : St) : Operand -> Option D
 | .global g => b1q P g
 | x => a0P σ (A6 σ x)
omit hd hlt hsz hdef in
theorem b9V {x : Operand} {y : D} (hx : a1t P σ x = some y) : ∃ b off cs, a.eval x = .pointer (some ⟨b, off, none⟩) /\ Rep w L y cs /\ ∀ k u, cs[k]? = some u -> w.cell? ⟨b, off + k, none⟩ = some u := by
 cases x with
 | global g =>
   obtain ⟨cs, h1, h2⟩ := hR.gl g y hx; exact ⟨g, 0, cs, rfl, h1, fun k u hk => (h2 k u hk).1⟩
 | tmp t => exact a5N hR (I7 hR (.tmp t)) hx
 | const v => exact a5N hR (I7 hR (.const v)) hx
 | func f => exact a5N hR (I7 hR (.func f)) hx
theorem c0w {t : TypeId} {x : Operand} (ho : o.op = .load t x) {y : D} (hx : a1t P σ x = some y) (ht : tyk P t = some (y.isAgg, C0 y)) (h : K (put σ d (.d y))) :
   o.wp P a w (D4 P w0 L0 row n K) Q := by
 obtain ⟨b, off, cs, h1, h2, h3⟩ := b9V hR hx; obtain ⟨v, hv, hr⟩ := a8V ht h2 h3; refine E6 hd hlt hsz hdef hR (x := .d y) (v := v) ?_ hr h; simp only [execOp, ho, h1, Instr.loadAt, Instr.sureAddr, Sem.run_bind, Sem.run_pure, Result.andThen_ok, hv]
theorem b0j {x : Operand} (ho : o.op = .nilCheck x) {y : Unit} (hx : a2T σ (A6 σ x) = some y) (h : K (put σ d (A6 σ x))) : o.wp P a w (D4 P w0 L0 row n K) Q := by
 have hv : ∃ A, a.eval x = .pointer (some A) := by
   unfold a2T at hx; split at hx
   . rename_i A hA
     exact ⟨A, (H3 hR hA).raw_inv⟩
   . obtain ⟨z, hz, _⟩ := Option.map_eq_some_iff.1 hx; obtain ⟨b, off, cs, h1, h2, h3⟩ := a5N hR (I7 hR x) hz; exact ⟨_, h1⟩
 obtain ⟨A, hA⟩ := hv; refine E6 hd hlt hsz hdef hR (x := A6 σ x) (v := a.eval x) ?_ (I7 hR x) h; simp [execOp, ho, hA]
def a3G : AV -> Option Nat
 | .d (.raw (.slice _ k _)) => some k
 | y => (Z2 y).map List.length
theorem c3Q {t : TypeId} {x : Operand} (ho : o.op = .call { callee := .builtin .len, args := #[x], argTypes := #[t] }) {e : TypeId} (ht : P.underlying t = some (.slice e)) {l : Nat} (hx : a3G (A6 σ x) = some l)
   (h : K (put σ d (.d (.int .i64 l)))) : o.wp P a w (D4 P w0 L0 row n K) Q := by
 obtain ⟨ad, cap, hv⟩ : ∃ ad cap, a.eval x = .slice ad l cap := by
   have other : (Z2 (A6 σ x)).map List.length = some l -> ∃ ad cap, a.eval x = .slice ad l cap := by
     intro h; simp only [Option.map_eq_some_iff] at h; obtain ⟨ds, hds, rfl⟩ := h; obtain ⟨ad, cap, css, sz, hv, _⟩ := a6s hR hds; exact ⟨ad, cap, hv⟩
   unfold a3G at hx; split at hx
   . rename_i A k c hv
     simp only [Option.some.injEq] at hx; subst hx; exact ⟨A, c, (H3 hR hv).raw_inv⟩
   . exact other hx
 refine E6 hd hlt hsz hdef hR (x := .d (.int .i64 l)) (v := .int .i64 l) ?_ RepV.int h; simp [execOp, ho, resolve, invoke, builtin, hv, Builtin.len_, run_underlying ht, goInt]
theorem c0t {t : TypeId} {x : Operand} (ho : o.op = .call { callee := .builtin .len, args := #[x], argTypes := #[t] }) (ht : P.underlying t = some .string) {s : Str} (hx : A6 σ x = .d (.str s))
   (h : K (put σ d (.d (.int .i64 s.length)))) : o.wp P a w (D4 P w0 L0 row n K) Q := by
 have hx1 := (H3 hR hx).str_inv; refine E6 hd hlt hsz hdef hR (x := .d (.int .i64 s.length)) (v := .int .i64 s.length) ?_ RepV.int h; have h1 := run_len_string (P := P) w t o.type ⟨s.toArray⟩ ht; have h2 : goInt ((⟨s.toArray⟩ : ByteArray).size : Nat) = .int .i64 s.length := (by simp [goInt, ByteArray.size]); rw [h2] at h1; simp [execOp, ho, resolve, invoke, builtin, hx1, h1]
theorem b4F {t : TypeId} {x i : Operand} (ho : o.op = .index t x i) (ht : P.underlying t = some .string) {s : Str} (hx : A6 σ x = .d (.str s)) {k : IntKind} {m : Int} (hi : A6 σ i = .d (.int k m))
   {c : UInt8} (h0 : 0 <= m) (hc : s[m.toNat]? = some c) (h : K (put σ d (.d (.int .u8 c.toNat)))) : o.wp P a w (D4 P w0 L0 row n K) Q := by
 have hx1 := (H3 hR hx).str_inv; have hi1 := (H3 hR hi).int_inv; refine E6 hd hlt hsz hdef hR (x := .d (.int .u8 c.toNat)) (v := .int .u8 c.toNat) ?_ RepV.int h; have hlt' : m.toNat < s.length := (List.getElem?_eq_some_iff.1 hc).1; have hce := (List.getElem?_eq_some_iff.1 hc).2; have h2 : 0 <= m /\ m < ((⟨s.toArray⟩ : ByteArray).size : Int) := ⟨h0, by simp [ByteArray.size]; omega⟩; have h3 := run_index_string (P := P) w t ⟨s.toArray⟩ k m ht; rw [dif_pos h2] at h3; simp only [execOp, ho, hx1, hi1, Sem.run_bind, h3, Result.andThen_ok, Sem.run_pure]; have h5 : (⟨s.toArray⟩ : ByteArray)[m.toNat]'(by simp [ByteArray.size]; omega) = c := by rw [<- hce]; rfl
 rw [h5]
theorem b3o {x : Operand} {t i : Nat} (ho : o.op = .extract x i) (hxo : x = .tmp t) {l : List AV} (hx : σ t = .tup l) {y : D} (hy : l[i]? = some (.d y)) (h : K (put σ d (.d y))) : o.wp P a w (D4 P w0 L0 row n K) Q := by
 have h1 := hR.slots t; rw [hx] at h1; obtain ⟨vs, hv, hs⟩ : ∃ vs : List Value, C6 a t = .tuple vs.toArray /\ RCs P w L (O t) l vs := h1; have key : ∀ (l : List AV) (vs : List Value) (i : Nat), RCs P w L (O t) l vs -> l[i]? = some (.d y) -> ∃ v, vs[i]? = some v /\ RepV w L y v := by
   intro l
   induction l with
   | nil => intro vs i _ hi; simp at hi
   | cons x xs ih =>
     intro vs i hs hi; simp only [RCs] at hs; obtain ⟨v, us, rfl, h2, h3⟩ := hs; cases i with
     | zero => simp only [getElem?_cons_zero, Option.some.injEq] at hi; subst hi; exact ⟨v, rfl, h2⟩
     | succ i => simp only [getElem?_cons_succ] at hi ⊢; exact ih us i h3 hi
 obtain ⟨v, hvi, hrv⟩ := key l vs i hs hy; refine E6 hd hlt hsz hdef hR (x := .d y) (v := v) ?_ hrv h; have he : a.eval x = .tuple vs.toArray := by subst hxo; exact hv
 simp [execOp, ho, he, Instr.extract, hvi]
theorem b2r {s t : TypeId} {x : Operand} (ho : o.op = .convert s t x) {k k' : IntKind} {m : Int} (hs : (P.underlying s).isSome = true) (ht : P.underlying t = some (.int k')) (hx : A6 σ x = .d (.int k m)) (hr : InR k' m)
   (h : K (put σ d (.d (.int k' m)))) : o.wp P a w (D4 P w0 L0 row n K) Q := by
 have hx1 := (H3 hR hx).int_inv; obtain ⟨u, hu⟩ := Option.isSome_iff_exists.mp hs; refine E6 hd hlt hsz hdef hR (x := .d (.int k' m)) (v := .int k' (k'.wrap m)) ?_ (by rw [hr.wrap]; exact RepV.int) h; simp [execOp, ho, hx1, convert, run_underlying hu, run_underlying ht, Conv.intToInt]
theorem b2y {s t : TypeId} {x : Operand} (ho : o.op = .convert s t x) {st : Str} (hs : P.underlying s = some .string) (ht : P.underlying t = some .string) (hx : A6 σ x = .d (.str st))
   (h : K (put σ d (.d (.str st)))) : o.wp P a w (D4 P w0 L0 row n K) Q := by
 have hx1 := (H3 hR hx).str_inv; refine E6 hd hlt hsz hdef hR (x := .d (.str st)) (v := .string ⟨st.toArray⟩) ?_ RepV.str h; simp [execOp, ho, hx1, convert, run_underlying hs, run_underlying ht]
theorem b6A {s t e : TypeId} {x : Operand} (ho : o.op = .convert s t x) {l : List D} {st : Str} (hs : P.underlying s = some (.slice e)) (he : P.underlying e = some (.int .u8)) (ht : P.underlying t = some .string)
   (hx : Z2 (A6 σ x) = some l) (hl : l = st.map fun c => .int .u8 c.toNat) (h : K (put σ d (.d (.str st)))) : o.wp P a w (D4 P w0 L0 row n K) Q := by
 obtain ⟨ad, cap, css, sz, hv, h2, h3, h4, h5⟩ := a6s hR hx; refine E6 hd hlt hsz hdef hR (x := .d (.str st)) (v := .string ⟨st.toArray⟩) ?_ RepV.str h; have hcss : ∀ (st : Str) (css : List (List Value)), A8 w L (st.map fun c => D.int .u8 c.toNat) css -> css.flatten = st.map fun c => Value.int .u8 c.toNat := by
   intro st
   induction st with
   | nil => intro css h; simp only [map_nil, A8] at h; subst h; rfl
   | cons c st ih =>
     intro css h; simp only [map_cons, A8] at h; obtain ⟨x, xs, rfl, h6, h7⟩ := h; simp only [Rep] at h6; subst h6; simp [ih _ h7]
 have hf := hcss st css (hl ▸ h2); have hcv : (convert s t (.slice ad l.length cap)).run P w = .ok (.string ⟨st.toArray⟩) w := by
   cases st with
   | nil =>
     subst hl; cases ad with
     | none =>
       rw [run_convert_bytes_string w s t e _ _ _ hs he ht]; simp [Conv.bytesToString]; rfl
     | some ad =>
       exact run_convert_bytes_back (P := P) w s t e ad cap [] hs he ht (by simp)
   | cons c st' =>
     obtain ⟨b, off, rfl, hc⟩ := h5 (by rw [hl]; simp); have hll : l.length = (c :: st').length := by rw [hl]; simp
     rw [hll]; refine run_convert_bytes_back (P := P) w s t e ⟨b, off, none⟩ cap (c :: st') hs he ht ?_; intro j hj; rw [Addr.add_lit]; refine hc j _ ?_; rw [hf, getElem?_map, getElem?_eq_getElem hj]; rfl
 simp only [execOp, ho, hv, Sem.run_bind, hcv, Result.andThen_ok, Sem.run_pure]
def E0 (P : Program) (s : TypeId) (f : Nat) : Option Nat :=
 match P.underlying s with
 | some (.struct fs) => match fs[f]? with
   | some x => match P.info? x.type with
     | some i => if i.size = 0 then none else some x.offset
     | none => none
   | none => none
 | _ => none
omit hd hlt hsz hdef hR in
theorem a3d {s f k b off : Nat} (h : E0 P s f = some k) (w : World) : (Instr.fieldAt s (.pointer (some ⟨b, off, none⟩)) f).run P w = .ok (.pointer (some ⟨b, off + k, none⟩)) w := by
 unfold E0 at h; split at h
 . rename_i fs hu
   split at h
   . rename_i x hx
     split at h
     . rename_i i hi
       split at h
       . cases h
       . rename_i h0
         simp only [Option.some.injEq] at h; subst h; simp [Instr.fieldAt, run_underlying hu, hx, Instr.sureAddr, fieldPlace, sizeOf, typeInfo, hi, h0, Addr.add_lit]
     . cases h
   . cases h
 . cases h
omit hd hlt hsz hdef hR in
theorem A8.flat_at {ds : List D} {css : List (List Value)} (h : A8 w L ds css) {k : Nat} {x : D} (hk : ds[k]? = some x) :
   ∃ pre c post, css.flatten = pre ++ c ++ post /\ pre.length = D6 (ds.take k) /\ Rep w L x c := by
 have h1 : Rep w L (.agg ds) css.flatten := by simp only [Rep]; exact ⟨css, h, rfl⟩
 obtain ⟨pre, c, post, h2, h3, h4, _⟩ := Rep.part (p := [k]) (x := x) (o := D6 (ds.take k)) h1 (by simp [D.get, hk]) (by simp [D.off, hk]); exact ⟨pre, c, post, h2, h3, h4⟩
theorem b0a {s f : Nat} {x : Operand} (ho : o.op = .fieldAddr s x f) {ds : List D} (hx : A6 σ x = .d (.ref (.agg ds))) {y : D} (hy : ds[f]? = some y) (hf : E0 P s f = some (D6 (ds.take f)))
   (h : K (put σ d (.d (.ref y)))) : o.wp P a w (D4 P w0 L0 row n K) Q := by
 obtain ⟨b, off, cs, h1, h2, h3⟩ := a8X (H3 hR hx); simp only [Rep] at h2; obtain ⟨css, h4, rfl⟩ := h2; obtain ⟨pre, c, post, h5, h6, h7⟩ := h4.flat_at hy; refine E6 hd hlt hsz hdef hR (x := .d (.ref y)) (v := .pointer (some ⟨b, off + D6 (ds.take f), none⟩)) ?_ ?_ h
 . simp only [execOp, ho, h1, Sem.run_bind, a3d hf, Result.andThen_ok, Sem.run_pure]
 . refine ⟨?_, rfl⟩; simp only [Rep]; refine ⟨b, off + D6 (ds.take f), c, by simp [Value.cells], h7, fun k u hk => ?_⟩; have hk1 : k < c.length := (List.getElem?_eq_some_iff.1 hk).1; have := h3 (D6 (ds.take f) + k) u (by
     rw [h5, getElem?_append_left (by simp only [length_append]; omega), getElem?_append_right (by omega), <- h6]; simpa using hk)
   simpa [Nat.add_assoc] using this
theorem b0z {s f : Nat} {x : Operand} (ho : o.op = .fieldAddr s x f) {j : Nat} {p : List Nat} (hx : A6 σ x = .adr j p) {b : D} (hj : S5 (σ j) = some b) {ds : List D} (hp : D.get p b = some (.agg ds))
   (hl : f < ds.length) (hf : E0 P s f = some (D6 (ds.take f))) (h : K (put σ d (.adr j (p ++ [f])))) : o.wp P a w (D4 P w0 L0 row n K) Q := by
 have h1 := I7 hR x; rw [hx] at h1; obtain ⟨b', g, off, h2, h3, h4, h5⟩ := h1; rw [hj] at h2; obtain rfl : b = b' := by simpa using h2
 refine E6 hd hlt hsz hdef hR (x := .adr j (p ++ [f])) (v := ptr g (off + D6 (ds.take f))) ?_ ⟨b, g, _, hj, h3, D.off_snoc hp h4 hl, rfl⟩ h; simp only [execOp, ho, h5, ptr, Sem.run_bind, a3d hf, Result.andThen_ok, Sem.run_pure]
theorem a9k {s f : Nat} {x : Operand} (ho : o.op = .fieldAddr s x f) {j i : Nat} {p : List Nat} (hx : A6 σ x = .eadr j i p) {e : TypeId} {l : List D} (hj : N8 (σ j) = some (e, l)) {y : D} (hi : l[i]? = some y)
   {ds : List D} (hp : D.get p y = some (.agg ds)) (hl : f < ds.length) (hf : E0 P s f = some (D6 (ds.take f))) (h : K (put σ d (.eadr j i (p ++ [f])))) : o.wp P a w (D4 P w0 L0 row n K) Q := by
 have h1 := I7 hR x; rw [hx] at h1; obtain ⟨e', l', g, sz, m, c, y', off, h2, h3, h4, h5, h6, h7⟩ := h1; rw [hj] at h2; simp only [Option.some.injEq, Prod.mk.injEq] at h2; obtain ⟨rfl, rfl⟩ := h2; rw [hi] at h5; obtain rfl : y = y' := by simpa using h5
 refine E6 hd hlt hsz hdef hR (x := .eadr j i (p ++ [f])) (v := ptr g (i * sz + (off + D6 (ds.take f)))) ?_
   ⟨e, l, g, sz, m, c, y, _, hj, h3, h4, hi, D.off_snoc hp h6 hl, rfl⟩ h
 simp only [execOp, ho, h7, ptr, Sem.run_bind, a3d hf, Result.andThen_ok, Sem.run_pure, Nat.add_assoc]
theorem b0N {t e sz : Nat} {x i : Operand} (ho : o.op = .indexAddr t x i) (ht : P.underlying t = some (.slice e)) (hz : E5 P e = some sz) {ds : List D} (hx : asD (A6 σ x) = some (.sl ds)) {k : IntKind} {m : Int}
   (hi : A6 σ i = .d (.int k m)) (h0 : 0 <= m) {y : D} (hy : ds[m.toNat]? = some y) (hw : C0 y = sz) (h : K (put σ d (.d (.ref y)))) : o.wp P a w (D4 P w0 L0 row n K) Q := by
 have hx1 := (N4 hR hx).cell rfl; simp only [Rep] at hx1; obtain ⟨ad, cap, css, sz', h1, h2, h3, h4, h5⟩ := hx1; have hi1 := (H3 hR hi).int_inv; have hlt' : m.toNat < ds.length := (List.getElem?_eq_some_iff.1 hy).1; obtain ⟨b, off, rfl, hat⟩ := h5 (by intro e; subst e; simp at hlt'); obtain ⟨c, hc, hr⟩ := h2.get hy; have hsz' : sz' = sz := by rw [<- hw, <- Rep.len _ _ hr]; exact (h3 c (mem_of_getElem? hc)).symm
 subst hsz'; refine E6 hd hlt hsz hdef hR (x := .d (.ref y)) (v := .pointer (some ⟨b, off + m.toNat * sz', none⟩)) ?_ ?_ h
 . have hb : 0 <= m /\ m < (ds.length : Int) := ⟨h0, by omega⟩; have hv : a.eval x = .slice (some ⟨b, off, none⟩) ds.length cap := (by simpa using h1); simp only [execOp, ho, hv, hi1, Instr.indexAt, asIntOf, Sem.run_bind, Sem.run_pure, Result.andThen_ok, run_underlying ht, J7 hz, Addr.add_lit, Sem.run_ite, hb, and_self, if_true]
 . refine ⟨?_, rfl⟩; simp only [Rep]; refine ⟨b, off + m.toNat * sz', c, by simp [Value.cells], hr, fun k u hk => ?_⟩; have := hat _ u (a3h h3 hc k u hk); exact ⟨by simpa [Nat.add_assoc] using this.1, .inl (by simpa [Nat.add_assoc] using this.2)⟩
theorem a8T {t e e' : Nat} {x i : Operand} (ho : o.op = .indexAddr t x i) (ht : P.underlying t = some (.slice e)) {j : Nat} {l : List D} (hx : A6 σ x = .bor j true e' l) (he : ety e' = e) {k : IntKind} {m : Int}
   (hi : A6 σ i = .d (.int k m)) (h0 : 0 <= m) (hy : m.toNat < l.length) (h : K (put σ d (.eadr j m.toNat []))) : o.wp P a w (D4 P w0 L0 row n K) Q := by
 subst he; have h1 := I7 hR x; rw [hx] at h1; obtain ⟨h2, h3⟩ := h1; have h4 := hR.slots j; rw [h2] at h4; obtain ⟨css, sz, g1, g2, g3, g4, g5⟩ := h4; have hi1 := (H3 hR hi).int_inv; have hown : N8 (σ j) = some (e', l) := by rw [h2]; rfl
 have hval : Y9 (σ j) (C6 a j) = C6 a j := by rw [h2]; rfl
 rcases g4.2 with ⟨hv, hn⟩ | ⟨g, cap, cur, hv, hh, hnc, hcm, hsz', ht'⟩
 . omega
 . refine E6 hd hlt hsz hdef hR (x := .eadr j m.toNat []) (v := ptr g (m.toNat * sz + 0)) ?_
     ⟨e', l, g, sz, l.length, cap, l[m.toNat], 0, hown, by rw [hval]; exact hv, g1, getElem?_eq_getElem hy, by simp [D.off], rfl⟩ h
   have hb : 0 <= m /\ m < (l.length : Int) := ⟨h0, by omega⟩; simp only [execOp, ho, h3, hv, hi1, Instr.indexAt, asIntOf, Sem.run_bind, Sem.run_pure, Result.andThen_ok, run_underlying ht, J7 g1, Addr.add_lit, Sem.run_ite, hb, and_self, if_true, ptr, Nat.add_zero, Nat.zero_add]
theorem b0d {t e e' : Nat} {x i : Operand} (ho : o.op = .indexAddr t x i) (ht : P.underlying t = some (.slice e)) {u : Value} (hx : A6 σ x = .d (.raw u)) {j : Nat} {l : List D} (hj : σ j = .hs u e' l) (he : ety e' = e) {k : IntKind} {m : Int}
   (hi : A6 σ i = .d (.int k m)) (h0 : 0 <= m) (hy : m.toNat < l.length) (h : K (put σ d (.eadr j m.toNat []))) : o.wp P a w (D4 P w0 L0 row n K) Q := by
 subst he; have h3 : a.eval x = u := (H3 hR hx).raw_inv; have h4 := hR.slots j; rw [hj] at h4; obtain ⟨css, sz, g1, g2, g3, g4, g5⟩ : F0 P w L (O j) true e' l u := h4; have hi1 := (H3 hR hi).int_inv; have hown : N8 (σ j) = some (e', l) := by rw [hj]; rfl
 have hval : Y9 (σ j) (C6 a j) = u := by rw [hj]; rfl
 rcases g4.2 with ⟨hv, hn⟩ | ⟨g, cap, cur, hv, hh, hnc, hcm, hsz', ht'⟩
 . omega
 . refine E6 hd hlt hsz hdef hR (x := .eadr j m.toNat []) (v := ptr g (m.toNat * sz + 0)) ?_
     ⟨e', l, g, sz, l.length, cap, l[m.toNat], 0, hown, by rw [hval]; exact hv, g1, getElem?_eq_getElem hy, by simp [D.off], rfl⟩ h
   have hb : 0 <= m /\ m < (l.length : Int) := ⟨h0, by omega⟩; simp only [execOp, ho, h3, hv, hi1, Instr.indexAt, asIntOf, Sem.run_bind, Sem.run_pure, Result.andThen_ok, run_underlying ht, J7 g1, Addr.add_lit, Sem.run_ite, hb, and_self, if_true, ptr, Nat.add_zero, Nat.zero_add]
theorem b0U {t e e' : Nat} {x i : Operand} (ho : o.op = .indexAddr t x i) (ht : P.underlying t = some (.slice e)) {j lo : Nat} (hx : A6 σ x = .sub j lo) {l : List D} (hj : N8 (σ j) = some (e', l)) (he : ety e' = e) {k : IntKind} {m : Int}
   (hi : A6 σ i = .d (.int k m)) (h0 : 0 <= m) (hy : lo + m.toNat < l.length) (h : K (put σ d (.eadr j (lo + m.toNat) []))) : o.wp P a w (D4 P w0 L0 row n K) Q := by
 subst he; have h1 := I7 hR x; rw [hx] at h1; obtain ⟨e1, l1, sz, q1, g1, q3, q4⟩ := h1; rw [hj] at q1; simp only [Option.some.injEq, Prod.mk.injEq] at q1; obtain ⟨rfl, rfl⟩ := q1; have hi1 := (H3 hR hi).int_inv; obtain ⟨css, sz2, g1', g2, g3, g4, g5⟩ := hR.owned hj; rcases q4 with ⟨hv, h3⟩ | ⟨g, c, A, hv, h3, hA⟩
 . have hv' : Y9 (σ j) (C6 a j) = .slice none 0 0 := hv; rw [hv'] at g4; rcases g4.2 with ⟨_, hn⟩ | ⟨g, cap, cur, hv2, _⟩
   . omega
   . simp at hv2
 . obtain rfl := hA (by omega); have hv' : Y9 (σ j) (C6 a j) = .slice (some ⟨g, 0, none⟩) l.length c := hv; refine E6 hd hlt hsz hdef hR (x := .eadr j (lo + m.toNat) []) (v := ptr g ((lo + m.toNat) * sz + 0)) ?_
     ⟨e', l, g, sz, l.length, c, l[lo + m.toNat], 0, hj, hv', g1, getElem?_eq_getElem hy, by simp [D.off], rfl⟩ h
   have hb : 0 <= m /\ m < ((l.length - lo : Nat) : Int) := ⟨h0, by omega⟩; simp only [execOp, ho, h3, hi1, Instr.indexAt, asIntOf, Sem.run_bind, Sem.run_pure, Result.andThen_ok, run_underlying ht, J7 g1, Addr.add_lit, Sem.run_ite, hb, and_self, if_true, ptr, Nat.add_zero, Nat.zero_add, Nat.add_mul]
theorem c3s {t : TypeId} {x : Operand} (ho : o.op = .call { callee := .builtin .len, args := #[x], argTypes := #[t] }) {e : TypeId} (ht : P.underlying t = some (.slice e)) {j lo : Nat} (hx : A6 σ x = .sub j lo) {e' : TypeId} {l : List D} (hj : N8 (σ j) = some (e', l))
   (h : K (put σ d (.d (.int .i64 ((l.length - lo : Nat) : Int))))) : o.wp P a w (D4 P w0 L0 row n K) Q := by
 have h1 := I7 hR x; rw [hx] at h1; obtain ⟨e1, l1, sz, q1, g1, q3, q4⟩ := h1; rw [hj] at q1; simp only [Option.some.injEq, Prod.mk.injEq] at q1; obtain ⟨rfl, rfl⟩ := q1; obtain ⟨ad, cap, hv⟩ : ∃ ad cap, a.eval x = .slice ad (l.length - lo) cap := by
   obtain ⟨css, sz2, g1', g2, g3, g4, g5⟩ := hR.owned hj; rcases q4 with ⟨hv, h3⟩ | ⟨g, c, A, hv, h3, hA⟩
   . have hv' : Y9 (σ j) (C6 a j) = .slice none 0 0 := hv; rw [hv'] at g4; rcases g4.2 with ⟨_, hn⟩ | ⟨g, cap, cur, hv2, _⟩
     . exact ⟨none, 0, by rw [h3, hn]; simp⟩
     . simp at hv2
   . exact ⟨_, _, h3⟩
 refine E6 hd hlt hsz hdef hR (x := .d (.int .i64 ((l.length - lo : Nat) : Int))) (v := .int .i64 ((l.length - lo : Nat) : Int)) ?_ RepV.int h; simp [execOp, ho, resolve, invoke, builtin, hv, Builtin.len_, run_underlying ht, goInt]
theorem b0D {s f : Nat} {x : Operand} (ho : o.op = .fieldAddr s x f) {u : Value} (hx : A6 σ x = .d (.raw u)) {j : Nat} {e0 : TypeId} {ds : List D} (hj : σ j = .hb u e0 (.agg ds))
   (hl : f < ds.length) (hf : E0 P s f = some (D6 (ds.take f))) (h : K (put σ d (.adr j [f]))) : o.wp P a w (D4 P w0 L0 row n K) Q := by
 have h3 : a.eval x = u := (H3 hR hx).raw_inv; have h4 := hR.slots j; rw [hj] at h4; obtain ⟨g, C, g1, g2, g3, g4, g5⟩ : Y4 w L (O j) e0 (.agg ds) u := h4; have hoff : D.off [f] (.agg ds) = some (0 + D6 (ds.take f)) := D.off_snoc (p := []) rfl rfl hl; refine E6 hd hlt hsz hdef hR (x := .adr j [f]) (v := ptr g (0 + D6 (ds.take f))) ?_ ⟨.agg ds, g, _, by rw [hj]; rfl, g1, hoff, rfl⟩ h; simp only [execOp, ho, h3, g2, ptr, Sem.run_bind, a3d hf, Result.andThen_ok, Sem.run_pure]
def bnd (σ : St) (x : Option Operand) (dflt : Nat) : Option Nat :=
 match x with
 | none => some dflt
 | some y => match A6 σ y with
   | .d (.int _ m) => if 0 <= m then some m.toNat else none
   | _ => none
omit hd hlt hsz hdef in
include hR in
theorem a4L {x : Option Operand} {dflt b : Nat} (h : bnd σ x dflt = some b) : (x = none /\ b = dflt) \/ ∃ y k, x = some y /\ a.eval y = .int k b := by
 unfold bnd at h; cases x with
 | none => simp only [Option.some.injEq] at h; exact .inl ⟨rfl, h.symm⟩
 | some y =>
   simp only at h; split at h
   . rename_i k m hm
     split at h
     . simp only [Option.some.injEq] at h; refine .inr ⟨y, k, rfl, ?_⟩; rw [(H3 hR hm).int_inv]; congr 1; omega
     . cases h
   . cases h
theorem b3T {t : TypeId} {x : Operand} {lo hi : Option Operand} (ho : o.op = .slice t x lo hi none) (ht : P.underlying t = some .string) {s : Str} (hx : A6 σ x = .d (.str s)) {i j : Nat}
   (hi' : bnd σ lo 0 = some i) (hj' : bnd σ hi s.length = some j) (h1 : i <= j) (h2 : j <= s.length) (h : K (put σ d (.d (.str ((s.drop i).take (j - i)))))) : o.wp P a w (D4 P w0 L0 row n K) Q := by
 have hx1 := (H3 hR hx).str_inv; refine E6 hd hlt hsz hdef hR (x := .d (.str ((s.drop i).take (j - i)))) (v := .string ⟨((s.drop i).take (j - i)).toArray⟩) ?_ RepV.str h; have e1 : (Instr.sliceBounds false s.length s.length (lo.map a.eval) (hi.map a.eval) none).run P w = .ok (i, j, s.length) w := by
   have hj2 : (0 : Int) <= j /\ (j : Int) <= (s.length : Int) := (by omega); have hi2 : (0 : Int) <= i /\ (i : Int) <= (j : Int) := (by omega); rcases a4L hR hi' with ⟨rfl, rfl⟩ | ⟨y, k, rfl, hy⟩ <;> rcases a4L hR hj' with ⟨rfl, rfl⟩ | ⟨z, k', rfl, hz⟩ <;>
     simp [Instr.sliceBounds, Instr.sliceBound, asIntOf, *]
 have e2 : (⟨s.toArray⟩ : ByteArray).size = s.length := (by simp [ByteArray.size]); simp only [execOp, ho, hx1, Instr.sliceAt, Instr.slice, Sem.run_bind, run_underlying ht, Result.andThen_ok, e2, Option.map_none, Option.isSome_none, Bool.false_eq_true, if_false, e1, Sem.run_pure, ByteArray.extract_mk]
theorem c7w {t e e' sz : Nat} {x lo : Operand} (ho : o.op = .slice t x (some lo) none none) (ht : P.underlying t = some (.slice e)) (hz : E5 P e = some sz) {j : Nat} {l : List D} (hx : A6 σ x = .bor j true e' l) (he : ety e' = e) {i : Nat}
   (hi' : bnd σ (some lo) 0 = some i) (h1 : i <= l.length) (h : K (put σ d (.sub j i))) : o.wp P a w (D4 P w0 L0 row n K) Q := by
 subst he; have h2 := I7 hR x; rw [hx] at h2; obtain ⟨h2, h3⟩ := h2; have h4 := hR.slots j; rw [h2] at h4; obtain ⟨css, sz', g1, g2, g3, g4, g5⟩ : F0 P w L (O j) true e' l (C6 a j) := h4; have hown : N8 (σ j) = some (e', l) := by rw [h2]; rfl
 have hval : Y9 (σ j) (C6 a j) = C6 a j := by rw [h2]; rfl
 have hsz1 : sz' = sz := by
   have : E5 P (ety e') = some sz' := g1; rw [this] at hz; simpa using hz
 subst hsz1; rcases g4.2 with ⟨hv, hn⟩ | ⟨g, cap, cur, hv, hh, hnc, hcm, hsz', ht'⟩
 . have hi0 : i = 0 := (by omega); subst hi0; refine E6 hd hlt hsz hdef hR (x := .sub j 0) (v := .slice none 0 0) ?_ ⟨e', l, sz', hown, g1, h1, .inl ⟨by rw [hval]; exact hv, rfl⟩⟩ h; have e1 : (Instr.sliceBounds true 0 0 ((some lo).map a.eval) none none).run P w = .ok (0, 0, 0) w := by
     rcases a4L hR hi' with ⟨hc, _⟩ | ⟨y, k, hy, hz⟩
     . cases hc
     . simp only [Option.some.injEq] at hy; subst hy; simp [Instr.sliceBounds, Instr.sliceBound, asIntOf, hz]
   simp only [execOp, ho, h3, hv, Instr.sliceAt, Instr.slice, Sem.run_bind, run_underlying ht, Result.andThen_ok, Option.map_none, e1, Sem.run_pure, J7 hz, if_true]
 . refine E6 hd hlt hsz hdef hR (x := .sub j i) (v := .slice (if cap = i then some ⟨g, 0, none⟩ else (some (⟨g, 0, none⟩ : Addr)).map (·.add (i * sz'))) (l.length - i) (cap - i)) ?_ ?_ h
   . have e1 : (Instr.sliceBounds true l.length cap ((some lo).map a.eval) none none).run P w = .ok (i, l.length, cap) w := by
       rcases a4L hR hi' with ⟨hc, _⟩ | ⟨y, k, hy, hz⟩
       . cases hc
       . simp only [Option.some.injEq] at hy; subst hy; have hi2 : (0 : Int) <= i /\ (i : Int) <= (l.length : Int) := (by omega); simp [Instr.sliceBounds, Instr.sliceBound, asIntOf, hz, hi2]; intro hh; omega
     simp only [execOp, ho, h3, hv, Instr.sliceAt, Instr.slice, Sem.run_bind, run_underlying ht, Result.andThen_ok, Option.map_none, e1, Sem.run_pure, J7 hz]
   . refine ⟨e', l, sz', hown, g1, h1, .inr ⟨g, cap, if cap = i then ⟨g, 0, none⟩ else ⟨g, i * sz', none⟩, by rw [hval]; exact hv, ?_, fun hlt => if_neg (by omega)⟩⟩; by_cases hc : cap = i <;> simp [hc, Addr.add_lit]
theorem b4y {t e sz : Nat} {x : Operand} {lo hi : Option Operand} (ho : o.op = .slice t x lo hi none) (ht : P.underlying t = some (.slice e)) (hz : E5 P e = some sz) {ds : List D} (hx : asD (A6 σ x) = some (.sl ds)) {i j : Nat}
   (hi' : bnd σ lo 0 = some i) (hj' : bnd σ hi ds.length = some j) (h1 : i <= j) (h2 : j <= ds.length) (hw : ∀ y ∈ ds, C0 y = sz) (h : K (put σ d (.d (.sl ((ds.drop i).take (j - i)))))) : o.wp P a w (D4 P w0 L0 row n K) Q := by
 have hx1 := (N4 hR hx).cell rfl; simp only [Rep] at hx1; obtain ⟨ad, cap, css, sz', g1, g2, g3, g4, g5⟩ := hx1; have hv : a.eval x = .slice ad ds.length cap := (by simpa using g1); refine E6 hd hlt hsz hdef hR (x := .d (.sl ((ds.drop i).take (j - i)))) (v := .slice (if cap = i then ad else ad.map (·.add (i * sz))) (j - i) (cap - i)) ?_ ?_ h
 . have e1 : (Instr.sliceBounds true ds.length cap (lo.map a.eval) (hi.map a.eval) none).run P w = .ok (i, j, cap) w := by
     have hj2 : (0 : Int) <= j /\ (j : Int) <= (cap : Int) := (by omega); have hi2 : (0 : Int) <= i /\ (i : Int) <= (j : Int) := (by omega); rcases a4L hR hi' with ⟨rfl, rfl⟩ | ⟨y, k, rfl, hy⟩ <;> rcases a4L hR hj' with ⟨rfl, rfl⟩ | ⟨z, k', rfl, hz⟩ <;>
       simp [Instr.sliceBounds, Instr.sliceBound, asIntOf, *] <;> (intro hh; omega)
   simp only [execOp, ho, hv, Instr.sliceAt, Instr.slice, Sem.run_bind, run_underlying ht, Result.andThen_ok, Option.map_none, e1, Sem.run_pure, J7 hz]
 . refine ⟨?_, rfl⟩; simp only [Rep, Value.cells]; have hlen : ((ds.drop i).take (j - i)).length = j - i := by simp; omega
   refine ⟨_, cap - i, (css.drop i).take (j - i), sz', by rw [hlen], (g2.drop i).take (j - i), fun c hc => g3 c (mem_of_mem_drop (mem_of_mem_take hc)), by rw [hlen]; omega, fun hne => ?_⟩; have hij : i < j := by
     rcases Nat.lt_or_ge i j with h' | h'
     . exact h'
     . exact absurd (eq_nil_of_length_eq_zero (by rw [hlen]; omega)) hne
   obtain ⟨b, off, rfl, hat⟩ := g5 (by intro e; subst e; simp at h2; omega); rw [if_neg (by omega)]; refine ⟨b, off + i * sz, by simp [Addr.add_lit], fun k u hk => ?_⟩; have hsz0 : sz' = sz := by
     obtain ⟨c, hc, hr⟩ := g2.get (getElem?_eq_getElem (show i < ds.length by omega)); rw [<- g3 c (mem_of_getElem? hc), Rep.len _ _ hr]; exact hw _ (getElem_mem _)
   subst hsz0; have hfl : css.flatten[i * sz' + k]? = some u := by
     have e3 : css.flatten = (css.take i).flatten ++ ((css.drop i).take (j - i)).flatten ++ ((css.drop i).drop (j - i)).flatten := by
       rw [<- flatten_append, <- flatten_append, append_assoc, take_append_drop, take_append_drop]
     have e4 : (css.take i).flatten.length = i * sz' := by
       have hcl : ∀ (l : List (List Value)), (∀ c ∈ l, c.length = sz') -> l.flatten.length = l.length * sz' := by
         intro l
         induction l with
         | nil => intro _; simp
         | cons x xs ih => intro hx; simp only [flatten_cons, length_append, length_cons, Nat.succ_mul, ih (fun c hc => hx c (by simp [hc])), hx x (by simp)]; omega
       rw [hcl _ (fun c hc => g3 c (mem_of_mem_take hc)), length_take, g2.count, Nat.min_eq_left (by omega)]
     have hk1 : k < ((css.drop i).take (j - i)).flatten.length := (List.getElem?_eq_some_iff.1 hk).1; rw [e3, getElem?_append_left (by simp only [length_append]; omega), getElem?_append_right (by omega), e4]; simpa using hk
   have := hat _ u hfl; simpa [Nat.add_assoc] using this
end
end Go.Vw
namespace Go.Vw
open Go.RowKit
variable {P : Program} {w0 : World} {L0 : Nat -> Nat -> Prop} {row : Nat -> Prop} {n : Nat} {K : St -> Prop} {Q : Exit -> Act -> World -> Prop}
 {w w' : World} {L L' : Nat -> Nat -> Prop} {O O' : Nat -> Option Nat} {σ σ' : St} {a : Act} {o : Oper} {d : Nat} {v : Value} {tm : Nat -> Value}
theorem b6u {a w : World} {row : Nat -> Prop} (h : F7 a w row) (o : Obj) : F7 a (w.alloc o) row :=
 ⟨h.os, h.tape, h.output, Nat.le_trans h.size (by simp), fun i hi hne => (Below.heap_alloc w o i (Nat.lt_of_lt_of_le hi h.size)).trans (h.block i hi hne), h.drawn⟩
theorem b7N {a w : World} {row : Nat -> Prop} (h : F7 a w row) : F7 a w.drew row := ⟨h.os, h.tape, h.output, h.size, h.block, Nat.le_trans h.drawn (Nat.le_succ _)⟩
theorem b1h {a w w' : World} {row : Nat -> Prop} {touch : Option Nat} (h : F7 a w row) (h' : w.grownBy w' touch) (hd : w.drawn <= w'.drawn) (ht : ∀ g, touch = some g -> a.heap.size <= g \/ row g) : F7 a w' row :=
 h.then (.of h' hd) ht
theorem H4.drew (w : World) (L : Nat -> Nat -> Prop) : H4 w L w.drew L noB := ⟨fun _ _ h => ⟨h, fun _ hv => hv⟩, fun _ _ _ => rfl, fun _ _ _ _ => Iff.rfl⟩
theorem Rel.drew (h : Rel P w0 L0 row w L O σ tm) : Rel P w0 L0 row w.drew L O σ tm :=
 ⟨b7N h.grown, h.lok, h.gl.mono (H4.drew w L).ext, h.old, fun i => RA.step (H4.drew w L) (fun g hg => ⟨(h.olt i g hg).1, id⟩) (h.slots i), h.inj, h.olt⟩
def R5 (L : Nat -> Nat -> Prop) (g k : Nat) : Nat -> Nat -> Prop := fun b q => L b q \/ (b = g /\ q < k)
theorem H4.alloc (hl : ∀ b q, L b q -> b < w.heap.size) (ob : Obj) (k : Nat) : H4 w L (w.alloc ob) (R5 L w.heap.size k) noB where
 ext := fun b q h => ⟨.inl h, fun v hv => by rw [J4 (Below.heap_alloc w ob b (hl b q h))]; exact hv⟩
 heap := fun b hb _ => Below.heap_alloc w ob b hb
 lim := fun b q hb _ => ⟨fun h => by
   rcases h with h | ⟨h, _⟩
   . exact h
   . omega, .inl⟩
theorem Rel.putNew (h : Rel P w0 L0 row w L O σ tm) (ob : Obj) (k : Nat) (d : Nat) (x : AV) (v : Value)
   (hx : RA P (w.alloc ob) (R5 L w.heap.size k) (E4 O d (some w.heap.size)) (put σ d x) (E4 tm d v) (some w.heap.size) (F5 d x) v) :
   Rel P w0 L0 row (w.alloc ob) (R5 L w.heap.size k) (E4 O d (some w.heap.size)) (put σ d x) (E4 tm d v) := by
 refine h.putOwn d x v (some w.heap.size) noB (H4.alloc h.lok ob k) (b6u h.grown ob) (by simp) (fun b q hb => ?_) (fun _ h => h.elim) (fun _ _ _ _ h => h) (fun g hg => ?_) hx
 . rcases hb with hb | ⟨hb, _⟩
   . have := h.lok b q hb; simp; omega
   . simp; omega
 . simp only [Option.some.injEq] at hg; subst hg; exact ⟨by simp, .inl h.grown.size, fun i hi e => by have := (h.olt i _ e).1; omega⟩
theorem Rel.move (h : Rel P w0 L0 row w L O σ tm) (t d : Nat) (x y : AV) (u : Value) (hx : RA P w L O σ tm none x (tm t)) (hy : RC P w L (O t) y u) (hk : F5 d y = y) (hRA : ∀ O' σ' tm' og, RC P w L og y u -> RA P w L O' σ' tm' og y u) :
   Rel P w0 L0 row w L (E4 (E4 O t none) d (O t)) (put (put σ t x) d y) (E4 tm d u) := by
 have h1 := h.putPure t x (tm t) hx; rw [O0] at h1; refine h1.putOwn d y u (O t) noB (H4.refl w L _) h1.grown (Nat.le_refl _) h1.lok (fun _ h => h.elim) (fun _ _ _ _ h => h) (fun g hg => ?_) (by rw [hk]; exact hRA _ _ _ _ hy); refine ⟨(h.olt t g hg).1, (h.olt t g hg).2, fun i _ e => ?_⟩; by_cases hi : i = t
 . subst hi; simp [E4] at e
 . simp only [E4, if_neg hi] at e; exact hi (h.inj i t g e hg)
def a5j : AV -> AV
 | .own _ _ _ => .undef
 | .tup _ => .undef
 | .hs _ _ _ => .undef
 | .hb _ _ _ => .undef
 | .hm _ _ _ _ => .undef
 | .mit _ _ _ => .undef
 | .box _ => .undef
 | x => x
section
variable (hd : o.dst = some d) (hlt : d < n) (hsz : a.tmps.size = n) (hdef : a.defers = []) (hR : Rel P w0 L0 row w L O σ (C6 a))
include hd hlt hsz hdef hR
theorem b9U {t : Nat} (ho : o.op = .assign (.tmp t) \/ o.op = .move (.tmp t)) {m : Bool} {e : TypeId} {l : List D} (ht : σ t = .own m e l) (h : K (put (put σ t .undef) d (.own m e l))) : o.wp P a w (D4 P w0 L0 row n K) Q := by
 have h1 := hR.slots t; rw [ht] at h1; refine J3 hd hlt hsz hdef (v := C6 a t) ?_ (hR.move t d .undef (.own m e l) (C6 a t) (by simp [RA, RC]) h1 rfl (fun _ _ _ _ h => h)) h; rcases ho with ho | ho <;> simp [execOp, ho] <;> rfl
theorem c0M {t : Nat} (ho : o.op = .assign (.tmp t) \/ o.op = .move (.tmp t)) {l : List AV} (ht : σ t = .tup l) (h : K (put (put σ t .undef) d (.tup l))) : o.wp P a w (D4 P w0 L0 row n K) Q := by
 have h1 := hR.slots t; rw [ht] at h1; refine J3 hd hlt hsz hdef (v := C6 a t) ?_ (hR.move t d .undef (.tup l) (C6 a t) (by simp [RA, RC]) h1 rfl (fun _ _ _ _ h => h)) h; rcases ho with ho | ho <;> simp [execOp, ho] <;> rfl
omit hd hlt hsz hdef hR in
theorem RCs.get {og : Option Nat} : ∀ {l : List AV} {vs : List Value} {i : Nat} {x : AV}, RCs P w L og l vs -> l[i]? = some x -> ∃ v, vs[i]? = some v /\ RC P w L og x v
 | [], _, _, _, _, hi => by simp at hi
 | y :: l, vs, 0, x, h, hi => by
   simp only [getElem?_cons_zero, Option.some.injEq] at hi; subst hi; simp only [RCs] at h; obtain ⟨v, us, rfl, h1, h2⟩ := h; exact ⟨v, rfl, h1⟩
 | y :: l, vs, i + 1, x, h, hi => by
   simp only [getElem?_cons_succ] at hi; simp only [RCs] at h; obtain ⟨v, us, rfl, h1, h2⟩ := h; simpa using RCs.get h2 hi
omit hd hlt hsz hdef hR in
theorem RCs.noOwn {og og' : Option Nat} : ∀ {l : List AV} {vs : List Value}, RCs P w L og l vs -> RCs P w L og' (l.map Vw.a5j) vs
 | [], _, h => by simpa [RCs] using h
 | x :: l, _, h => by
   simp only [RCs] at h; obtain ⟨v, us, rfl, h1, h2⟩ := h; simp only [map_cons, RCs]; refine ⟨v, us, rfl, ?_, RCs.noOwn h2⟩; cases x <;> simp only [Vw.a5j, RC] at h1 ⊢ <;> exact h1
theorem b4P {t i : Nat} (ho : o.op = .extract (.tmp t) i) {l : List AV} (ht : σ t = .tup l) {m : Bool} {e : TypeId} {k : List D} (hi : l[i]? = some (.own m e k))
   (h : K (put (put σ t (.tup (l.map a5j))) d (.own m e k))) : o.wp P a w (D4 P w0 L0 row n K) Q := by
 have h1 := hR.slots t; rw [ht] at h1; obtain ⟨vs, hv, hs⟩ : ∃ vs : List Value, C6 a t = .tuple vs.toArray /\ RCs P w L (O t) l vs := h1; obtain ⟨v, hvi, hrv⟩ := hs.get hi; refine J3 hd hlt hsz hdef (v := v) ?_ (hR.move t d (.tup (l.map a5j)) (.own m e k) v ?_ hrv rfl (fun _ _ _ _ h => h)) h
 . have he : a.eval (.tmp t) = .tuple vs.toArray := hv; simp [execOp, ho, he, Instr.extract, hvi]
 . exact ⟨vs, hv, hs.noOwn⟩
theorem c8i {e sz : Nat} (ho : o.op = .assign (.const (.slice none 0 0)) \/ o.op = .move (.const (.slice none 0 0))) (hz : E5 P e = some sz) (he : e < 100000) (m : Bool) (h : K (put σ d (.own m e []))) : o.wp P a w (D4 P w0 L0 row n K) Q := by
 refine J3 hd hlt hsz hdef (w' := w) (v := .slice none 0 0) ?_ (hR.putOwn d (.own m e []) (.slice none 0 0) none noB (H4.refl w L _) hR.grown (Nat.le_refl _) hR.lok (fun _ h => h.elim) (fun _ _ _ _ h => h) (by simp) ?_) h
 . rcases ho with ho | ho <;> simp [execOp, ho, Act.eval]
 . exact ⟨[], sz, by rw [W6 he]; exact hz, by simp [A8], by simp, ⟨by simp, .inl ⟨rfl, rfl⟩⟩, by simp [Value.ownBlock]⟩
theorem c7B {e : TypeId} {x : Operand} (ho : o.op = .box e x) {y : D} (hx : asD (A6 σ x) = some y) (h : K (put σ d (.box y))) : o.wp P a w (D4 P w0 L0 row n K) Q := by
 have hx1 := N4 hR hx; refine J3 hd hlt hsz hdef (v := ptr w.heap.size 0) (w' := w.alloc (.cells (a.eval x).cells e)) ?_ (hR.putNew (.cells (a.eval x).cells e) 0 d (.box y) (ptr w.heap.size 0) ?_) h
 . simp [execOp, ho, Instr.box, newVar, newRow, ptr]
 . refine ⟨w.heap.size, (a.eval x).cells, e, rfl, rfl, heap_alloc_new w _, Rep.mono (H4.alloc hR.lok _ 0).ext _ _ hx1.1, fun q hq => ?_⟩; rcases hq with hq | hq
   . have := hR.lok _ _ hq; omega
   . omega
theorem c5d {e : TypeId} (ho : o.op = .alloc e) {z : D} (hz : E3 P e = some z) (h : K (put σ d (.box z))) : o.wp P a w (D4 P w0 L0 row n K) Q := by
 obtain ⟨v, hv, hr, _⟩ := a4N hz w L; refine J3 hd hlt hsz hdef (v := ptr w.heap.size 0) (w' := w.alloc (.cells v.cells e)) ?_ (hR.putNew (.cells v.cells e) 0 d (.box z) (ptr w.heap.size 0) ?_) h
 . simp [execOp, ho, Instr.alloc, hv, newVar, newRow, ptr]
 . refine ⟨w.heap.size, v.cells, e, rfl, rfl, heap_alloc_new w _, Rep.mono (H4.alloc hR.lok _ 0).ext _ _ hr.1, fun q hq => ?_⟩; rcases hq with hq | hq
   . have := hR.lok _ _ hq; omega
   . omega
theorem c6d {e : TypeId} {x : Operand} (ho : o.op = .box e x) {y : D} (hx : asD (A6 σ x) = some y) {j : Nat} (hj : σ j = .undef) (h : ∀ g, K (put (put σ j (.hb (.pointer (some ⟨g, 0, none⟩)) e y)) d (.d (.raw (.pointer (some ⟨g, 0, none⟩)))))) :
   o.wp P a w (D4 P w0 L0 row n K) Q := by
 have hx1 := N4 hR hx; have h1 := hR.putNew (.cells (a.eval x).cells e) 0 j (.hb (.pointer (some ⟨w.heap.size, 0, none⟩)) e y) (C6 a j) (by
   refine ⟨w.heap.size, (a.eval x).cells, rfl, rfl, heap_alloc_new w _, Rep.mono (H4.alloc hR.lok _ 0).ext _ _ hx1.1, fun q hq => ?_⟩; rcases hq with hq | hq
   . have := hR.lok _ _ hq; omega
   . omega)
 rw [O0] at h1; refine J3 hd hlt hsz hdef (v := .pointer (some ⟨w.heap.size, 0, none⟩)) (w' := w.alloc (.cells (a.eval x).cells e)) ?_ (h1.putPure d (.d (.raw (.pointer (some ⟨w.heap.size, 0, none⟩)))) _ (RepV.raw (by simp [Value.oneCell']) rfl)) (h w.heap.size); simp [execOp, ho, Instr.box, newVar, newRow]
theorem c3I {e : TypeId} (ho : o.op = .alloc e) {z : D} (hz : a3v P true e = some z) {j : Nat} (hj : σ j = .undef) (h : ∀ g, K (put (put σ j (.hb (.pointer (some ⟨g, 0, none⟩)) e z)) d (.d (.raw (.pointer (some ⟨g, 0, none⟩)))))) :
   o.wp P a w (D4 P w0 L0 row n K) Q := by
 obtain ⟨v, hv, hr, _⟩ := a7U hz w L; have h1 := hR.putNew (.cells v.cells e) 0 j (.hb (.pointer (some ⟨w.heap.size, 0, none⟩)) e z) (C6 a j) (by
   refine ⟨w.heap.size, v.cells, rfl, rfl, heap_alloc_new w _, Rep.mono (H4.alloc hR.lok _ 0).ext _ _ hr.1, fun q hq => ?_⟩; rcases hq with hq | hq
   . have := hR.lok _ _ hq; omega
   . omega)
 rw [O0] at h1; refine J3 hd hlt hsz hdef (v := .pointer (some ⟨w.heap.size, 0, none⟩)) (w' := w.alloc (.cells v.cells e)) ?_ (h1.putPure d (.d (.raw (.pointer (some ⟨w.heap.size, 0, none⟩)))) _ (RepV.raw (by simp [Value.oneCell']) rfl)) (h w.heap.size); simp [execOp, ho, Instr.alloc, hv, newVar, newRow]
end
def Q8 (σ : St) : List (Nat × Operand) -> Option (List (Nat × D))
 | [] => some []
 | (i, x) :: ps => match asD (A6 σ x), Q8 σ ps with
   | some y, some ys => some ((i, y) :: ys)
   | _, _ => none
def a3L (zs : List D) : List (Nat × D) -> List D
 | [] => zs
 | (i, y) :: ys => a3L (zs.set i y) ys
def a0q (zs : List D) : List (Nat × D) -> Prop
 | [] => True
 | (i, y) :: ys => i < zs.length /\ C0 y = C0 (zs.getD i .nilp) /\ a0q zs ys
theorem b0i : ∀ {zs : List D} {i : Nat} {y : D}, C0 y = C0 (zs.getD i .nilp) -> ∀ k, D6 ((zs.set i y).take k) = D6 (zs.take k)
 | [], _, _, _, k => by simp
 | z :: zs, 0, y, h, k => by
   simp only [getD_cons_zero] at h; cases k <;> simp [D6, h]
 | z :: zs, i + 1, y, h, k => by
   simp only [getD_cons_succ] at h; cases k with
   | zero => simp
   | succ k => simp [D6, b0i h k]
theorem a8g {zs : List D} {i : Nat} {y : D} (h : C0 y = C0 (zs.getD i .nilp)) : ∀ {ys : List (Nat × D)}, a0q zs ys -> a0q (zs.set i y) ys
 | [], _ => trivial
 | (j, z) :: ys, hf => by
   refine ⟨by simpa using hf.1, ?_, a8g h hf.2.2⟩; rw [hf.2.1]; by_cases hij : i = j
   . subst hij; simp only [getD_eq_getElem?_getD, getElem?_set_self hf.1, Option.getD_some]; simpa [getD_eq_getElem?_getD] using h.symm
   . simp [getD_eq_getElem?_getD, getElem?_set_ne hij]
theorem a8Z (hR : Rel P w0 L0 row w L O σ (C6 a)) (place : Nat -> Option (Nat × Nat)) : ∀ (ps : List (Nat × Operand)) (ys : List (Nat × D)) (zs : List D) (cells : Array Value), Q8 σ ps = some ys -> a0q zs ys ->
   (∀ i, i < zs.length -> place i = some (D6 (zs.take i), C0 (zs.getD i .nilp))) -> Rep w L (.agg zs) cells.toList ->
   ∃ cells', Instr.fill place cells (ps.map fun (i, x) => (i, a.eval x)) = some cells' /\ Rep w L (.agg (a3L zs ys)) cells'.toList
 | [], ys, zs, cells, hp, _, _, hr => by
   simp only [Q8, Option.some.injEq] at hp; subst hp; exact ⟨cells, rfl, hr⟩
 | (i, x) :: ps, ys, zs, cells, hp, hf, hpl, hr => by
   simp only [Q8] at hp; split at hp
   . rename_i y ys' hy hys
     simp only [Option.some.injEq] at hp; subst hp; obtain ⟨h1, h2, h3⟩ := hf; have hx := N4 hR hy; have hxl : (a.eval x).cells.size = C0 y := by rw [<- Rep.len _ _ hx.1, Array.length_toList]
     have hzi : zs[i]? = some (zs.getD i .nilp) := (by simp [getElem?_eq_getElem h1]); obtain ⟨pre, c, post, g1, g2, g3, g4⟩ := Rep.part (p := [i]) (x := zs.getD i .nilp) (o := D6 (zs.take i)) hr (by simp only [D.get, hzi]) (by simp only [D.off, hzi]; simp); have hcl : c.length = C0 y := by rw [Rep.len _ _ g3, h2]
     have hcs : cells.size = pre.length + c.length + post.length := by rw [<- Array.length_toList, g1]; simp only [length_append]
     obtain ⟨cells', e1, e2⟩ := b5B place cells i (D6 (zs.take i)) (a.eval x) (ps.map fun (i, x) => (i, a.eval x)) (by rw [hpl i h1, hxl, h2]) (by omega); have e3 : cells'.toList = pre ++ (a.eval x).cells.toList ++ post := by
       have t1 : List.take pre.length (pre ++ c ++ post) = pre := by rw [append_assoc, take_left]
       have t2 : List.drop (pre.length + c.length) (pre ++ c ++ post) = post := by rw [<- length_append, drop_left]
       rw [e2, g1, <- g2, hxl, <- hcl, t1, t2]
     have hr' : Rep w L (.agg (zs.set i y)) cells'.toList := by
       have := g4 y _ hx.1; simp only [D.upd, hzi] at this; rw [e3]; exact this
     obtain ⟨cells'', e4, e5⟩ := a8Z hR place ps ys' (zs.set i y) cells' hys (a8g h2 h3) (fun j hj => by
       rw [hpl j (by simpa using hj), b0i h2]; congr 2
       by_cases hij : i = j
       . subst hij; simp [getElem?_set_self h1]; simpa using h2.symm
       . simp [getElem?_set_ne hij]) hr'
     refine ⟨cells'', ?_, e5⟩; rw [<- e4, <- e1]; rfl
   . cases hp
section
variable (hd : o.dst = some d) (hlt : d < n) (hsz : a.tmps.size = n) (hdef : a.defers = []) (hR : Rel P w0 L0 row w L O σ (C6 a))
include hd hlt hsz hdef hR
theorem a8J {N : Bool} {t : TypeId} {ps : Array (Nat × Operand)} (ho : o.op = .build t ps) {zs : List D} (hz : a0n P N t = some zs) {ys : List (Nat × D)} (hp : Q8 σ ps.toList = some ys) (hf : a0q zs ys)
   (h : K (put σ d (.d (.agg (a3L zs ys))))) : o.wp P a w (D4 P w0 L0 row n K) Q := by
 obtain ⟨fs, hu, hfs, hzd, hfit⟩ := b1Y hz; obtain ⟨v, hv, hr, _⟩ := a7U hzd w L; have hpl : ∀ i, i < zs.length -> ((fs.map fun f => (f.offset, ((P.info? f.type).map (·.size)).getD 0))[i]? = some (D6 (zs.take i), C0 (zs.getD i .nilp))) := by
   intro i hi; have hif : i < fs.size := (by omega); obtain ⟨x, h1, h2, h3, h4⟩ := hfit i fs[i] (Array.getElem?_eq_getElem hif); simp only [Array.getElem?_map, Array.getElem?_eq_getElem hif, Option.map_some, h1, Option.getD_some, h2, h3]
 obtain ⟨cells', e1, e2⟩ := a8Z hR (fun i => (fs.map fun f => (f.offset, ((P.info? f.type).map (·.size)).getD 0))[i]?) ps.toList ys zs v.cells hp hf hpl hr.1; refine E6 hd hlt hsz hdef hR (x := .d (.agg (a3L zs ys))) (v := .agg cells') ?_ ⟨by simpa [Value.cells] using e2, rfl⟩ h; have hmap : (fs.mapM (fun f => do pure (f.offset, <- sizeOf f.type) : Field -> Sem (Nat × Nat))).run P w = .ok (fs.map fun f => (f.offset, ((P.info? f.type).map (·.size)).getD 0)) w := by
   have key : ∀ (l : List Field), (∀ f ∈ l, ∃ x, P.info? f.type = some x) -> (l.mapM (fun f => do pure (f.offset, <- sizeOf f.type) : Field -> Sem (Nat × Nat))).run P w = .ok (l.map fun f => (f.offset, ((P.info? f.type).map (·.size)).getD 0)) w := by
     intro l
     induction l with
     | nil => intro _; rfl
     | cons f l ih =>
       intro hl; obtain ⟨x, hx⟩ := hl f (by simp); have := ih (fun g hg => hl g (by simp [hg])); simp only [mapM_cons, Sem.run_bind, sizeOf, typeInfo, run_program, Result.andThen_ok, hx, Sem.run_pure, map_cons, Option.map_some, Option.getD_some] at this ⊢; rw [this]; rfl
   rw [Array.mapM_eq_mapM_toList]; simp only [Sem.run_map]; rw [key fs.toList (fun f hf => by
     obtain ⟨i, hi, rfl⟩ := mem_iff_getElem.1 hf; obtain ⟨x, h1, _⟩ := hfit i fs[i] (Array.getElem?_eq_getElem (by simpa using hi)); exact ⟨x, by simpa using h1⟩)]
   simp only [Result.andThen_ok, <- Array.toList_map, Array.toArray_toList]
 have e3 : (ps.map fun (i, x) => (i, a.eval x)).toList = ps.toList.map fun (i, x) => (i, a.eval x) := by simp
 simp only [execOp, ho, Instr.build, Sem.run_bind, hv, Result.andThen_ok, run_underlying hu, hmap, e3, e1, Sem.run_pure]
end
theorem a1C {g off : Nat} {e : TypeId} {fz : Nat × Nat} : ∀ (cs : List Value) (i : Nat) (w : World) (C : Array Value), w.heap[g]? = some (.cells C e fz) -> (fz = (0, 0) \/ C.size <= fz.1) -> off + i + cs.length <= C.size -> (∀ u ∈ cs, u.oneCell' = true) ->
   ∃ w' C', (storeCells ⟨g, off, none⟩ cs i).run P w = .ok () w' /\ w'.heap[g]? = some (.cells C' e fz) /\ C'.toList = C.toList.take (off + i) ++ cs ++ C.toList.drop (off + i + cs.length) /\ w.grownBy w' (some g) /\ w'.heap.size = w.heap.size
 | [], i, w, C, h, _, _, _ => ⟨w, C, rfl, h, by simp, World.grownBy.refl w _, rfl⟩
 | c :: cs, i, w, C, h, hf, hl, h1 => by
   simp only [length_cons] at hl; have hlt : off + i < C.size := (by omega); have hcell : w.cell? ⟨g, off + i, none⟩ = some C[off + i] := (by simp [World.cell?, h, Array.getElem?_eq_getElem hlt]); have hfr : w.frozen? ⟨g, off + i, none⟩ = false := by
     rcases hf with rfl | hf
     . simp [World.frozen?, h]
     . simp [World.frozen?, h]; omega
   have hst : (store ⟨g, off + i, none⟩ c).run P w = .ok () (w.setCell ⟨g, off + i, none⟩ c) := by
     rw [run_store P w _ c _ (h1 c (by simp)), hcell, hfr]; rfl
   have hh : (w.setCell ⟨g, off + i, none⟩ c).heap[g]? = some (.cells (C.setIfInBounds (off + i) c) e fz) := (by simp [World.setCell, Array.getElem?_modify, h]); obtain ⟨w', C', e1, e2, e3, e4, e5⟩ := a1C (off := off) cs (i + 1) (w.setCell ⟨g, off + i, none⟩ c) (C.setIfInBounds (off + i) c) hh (by simpa using hf) (by simp; omega) (fun u hu => h1 u (by simp [hu])); refine ⟨w', C', ?_, e2, ?_, ?_, by rw [e5]; simp⟩
   . simp only [storeCells, Sem.run_bind, Addr.add_lit, hst, Result.andThen_ok]; exact e1
   . rw [e3]; simp only [Array.toList_setIfInBounds, length_cons]; have t1 : (C.toList.set (off + i) c).take (off + (i + 1)) = C.toList.take (off + i) ++ [c] := by
       rw [<- Nat.add_assoc, take_add_one, take_set_of_le (Nat.le_refl _), getElem?_set_self (by simp; omega)]; rfl
     have t2 : (C.toList.set (off + i) c).drop (off + (i + 1) + cs.length) = C.toList.drop (off + i + (cs.length + 1)) := by
       rw [drop_set_of_lt (by omega)]; congr 1; omega
     rw [t1, t2]; simp
   . refine ⟨e4.os, e4.tape, e4.output, by have := e4.size; simpa using this, fun k hk hne => ?_⟩; rw [e4.block k (by simpa using hk) hne, Below.heap_setCell _ _ _ _ (by intro e; exact hne (by simp [e]))]
theorem a7R (hd : o.dst = none) (hsz : a.tmps.size = n) (hdef : a.defers = []) (hrun : (execOp a.eval o).run P w = .ok .skip w') (hrel : Rel P w0 L0 row w' L' O' σ' (C6 a)) (hK : K σ') :
   o.wp P a w (D4 P w0 L0 row n K) Q := by
 unfold Oper.wp; rw [hrun]; simp only [Oper.upon, hd, Act.put]; exact ⟨L', O', σ', hrel, hdef, hsz, hK⟩
theorem a5J {α : Type} (f : Nat -> α) (d : Nat) : E4 f d (f d) = f := by
 funext i; unfold E4; split
 . subst_vars; rfl
 . rfl
theorem H4.write {g : Nat} (hg : w.grownBy w' (some g)) (hL : ∀ q, ¬ L g q) (hlok : ∀ b q, L b q -> b < w.heap.size) : H4 w L w' L (H1 (some g)) where
 ext := fun b q h => ⟨h, fun v hv => by
   have hb : b ≠ g := by rintro rfl; exact hL q h
   rw [J4 (hg.block b (hlok b q h) (by simpa using hb))]; exact hv⟩
 heap := fun b hb hne => hg.block b hb (fun e => hne e.symm)
 lim := fun _ _ _ _ => Iff.rfl
theorem c0C {O' : Nat -> Option Nat} {σ' : St} {tm' : Nat -> Value} {og : Option Nat} {x : AV} {y z : D} {v : Value} (hx : S5 x = some y) {e : TypeId} (he : c6B x e) (h : Y4 w L og e z (Y9 x v)) (d : Nat) : RA P w L O' σ' tm' og (F5 d (a4l z x)) v := by
 cases x <;> simp [S5] at hx
 case hb => obtain rfl := he; exact h
 case box => exact Y4.r h
theorem b2l {O' : Nat -> Option Nat} {σ' : St} {tm' : Nat -> Value} {og : Option Nat} {x : AV} {y : TypeId × List D} {e : TypeId} {l : List D} {v : Value} (hx : N8 x = some y) (h : F0 P w L og true e l (Y9 x v)) (d : Nat) : RA P w L O' σ' tm' og (F5 d (a1Q e l x)) v := by
 cases x with
 | own m e' l' => cases m with
   | true => exact h
   | false => simp [N8] at hx
 | hs u e' l' => exact h
 | _ => simp [N8] at hx
theorem b5R (hd : o.dst = none) (hsz : a.tmps.size = n) (hdef : a.defers = []) (hR : Rel P w0 L0 row w L O σ (C6 a)) {t : TypeId} {x y : Operand} (ho : o.op = .store t x y) {j g off : Nat} {p : List Nat}
   {b z u : D} (hj : S5 (σ j) = some b) (h3 : O j = some g) (h4 : D.off p b = some off) (h5 : a.eval x = ptr g off) (hp : D.get p b = some z) (hy : asD (A6 σ y) = some u) (hw : C0 u = C0 z) (ht : E5 P t = some (C0 u)) (h : K (put σ j (a4l (D.upd p b u) (σ j)))) :
   o.wp P a w (D4 P w0 L0 row n K) Q := by
 obtain ⟨e, hte, g', C, h7, h8, h9, h10, h11⟩ := hR.boxedT hj; rw [h3] at h7; obtain rfl : g = g' := by simpa using h7
 have hu := N4 hR hy; obtain ⟨pre, c, post, g1, g2, g3, g4⟩ := Rep.part h10 hp h4; have hcl : c.length = C0 u := by rw [Rep.len _ _ g3, hw]
 have hul : (a.eval y).cells.toList.length = C0 u := Rep.len _ _ hu.1; have hCs : C.size = pre.length + c.length + post.length := by rw [<- Array.length_toList, g1]; simp only [length_append]
 obtain ⟨w', C', e1, e2, e3, e4, e5⟩ := a1C (P := P) (off := off) (a.eval y).cells.toList 0 w C h9 (.inl rfl) (by omega) (Rep.one _ _ hu.1); have hsame := H4.write (L := L) e4 h11 hR.lok; refine a7R hd hsz hdef (w' := w') (L' := L) (O' := E4 O j (O j)) (σ' := put σ j (a4l (D.upd p b u) (σ j))) ?_ ?_ h
 . have hs2 : (a.eval y).cells.size = C0 u := by rw [<- Array.length_toList]; exact hul
   simp only [execOp, ho, Instr.storeAt, h5, ptr, Instr.sureAddr, Sem.run_bind, Sem.run_pure, Result.andThen_ok, storeVar, J7 ht, hs2, ne_eq, not_true_eq_false, if_false, e1]
 . have := hR.putOwn j (a4l (D.upd p b u) (σ j)) (C6 a j) (O j) (H1 (some g)) hsame (b1h hR.grown e4 (K2 _ e1) (fun q hq => by obtain rfl : g = q := (by simpa using hq); exact (hR.olt j g h3).2)) (by omega) (fun b q hb => by rw [e5]; exact hR.lok b q hb)
     (fun q hq => by obtain rfl : g = q := (by simpa [H1] using hq); exact (hR.olt j g h3).2) (fun i q hi hO e => hi (hR.inj i j q hO (by rw [h3]; exact e)))
     (fun q hq => ⟨by rw [e5]; exact (hR.olt j q hq).1, (hR.olt j q hq).2, fun i hi e => hi (hR.inj i j q e hq)⟩) ?_
   . rwa [a5J (C6 a) j] at this
   . refine c0C hj hte ⟨g, C', by simpa [E4] using h3, h8, e2, ?_, h11⟩ j; rw [e3, g1]; have t1 : List.take (off + 0) (pre ++ c ++ post) = pre := by rw [Nat.add_zero, <- g2, append_assoc, take_left]
     have t2 : List.drop (off + 0 + (a.eval y).cells.toList.length) (pre ++ c ++ post) = post := by rw [Nat.add_zero, <- g2, hul, <- hcl, <- length_append, drop_left]
     rw [t1, t2]; exact Rep.mono hsame.ext _ _ (g4 u _ hu.1)
theorem b1a (hd : o.dst = none) (hsz : a.tmps.size = n) (hdef : a.defers = []) (hR : Rel P w0 L0 row w L O σ (C6 a)) {t : TypeId} {x y : Operand} (ho : o.op = .store t x y) {j : Nat} {p : List Nat} (hx : A6 σ x = .adr j p)
   {b z u : D} (hj : S5 (σ j) = some b) (hp : D.get p b = some z) (hy : asD (A6 σ y) = some u) (hw : C0 u = C0 z) (ht : E5 P t = some (C0 u)) (h : K (put σ j (a4l (D.upd p b u) (σ j)))) :
   o.wp P a w (D4 P w0 L0 row n K) Q := by
 have h1 := I7 hR x; rw [hx] at h1; obtain ⟨b', g, off, h2, h3, h4, h5⟩ := h1; rw [hj] at h2; obtain rfl : b = b' := by simpa using h2
 exact b5R hd hsz hdef hR ho hj h3 h4 h5 hp hy hw ht h
theorem b9a {css : List (List Value)} {sz i : Nat} {c : List Value} (hs : ∀ c ∈ css, c.length = sz) (hi : css[i]? = some c) :
   ∃ A B, css.flatten = A ++ c ++ B /\ A.length = i * sz /\ ∀ c', (css.set i c').flatten = A ++ c' ++ B := by
 have hl : i < css.length := (List.getElem?_eq_some_iff.1 hi).1; have hc : css[i] = c := (List.getElem?_eq_some_iff.1 hi).2; have hcl : ∀ (l : List (List Value)), (∀ c ∈ l, c.length = sz) -> l.flatten.length = l.length * sz := by
   intro l
   induction l with
   | nil => intro _; simp
   | cons x xs ih => intro hx; simp only [flatten_cons, length_append, length_cons, Nat.succ_mul, ih (fun c hc => hx c (by simp [hc])), hx x (by simp)]; omega
 refine ⟨(css.take i).flatten, (css.drop (i + 1)).flatten, ?_, ?_, fun c' => ?_⟩
 . conv => lhs; rw [<- take_append_drop i css, drop_eq_getElem_cons hl, hc]
   simp [append_assoc]
 . rw [hcl _ (fun c hc => hs c (mem_of_mem_take hc)), length_take, Nat.min_eq_left (by omega)]
 . rw [set_eq_take_append_cons_drop, if_pos hl]; simp [append_assoc]
theorem b6j (hd : o.dst = none) (hsz : a.tmps.size = n) (hdef : a.defers = []) (hR : Rel P w0 L0 row w L O σ (C6 a)) {t : TypeId} {x y : Operand} (ho : o.op = .store t x y) {j i : Nat} {p : List Nat} (hx : A6 σ x = .eadr j i p)
   {e : TypeId} {l : List D} {b z u : D} (hj : N8 (σ j) = some (e, l)) (hi : l[i]? = some b) (hp : D.get p b = some z) (hy : asD (A6 σ y) = some u) (hw : C0 u = C0 z) (ht : E5 P t = some (C0 u))
   {σ2 : St} (hq : ∀ w L O, Rel P w0 L0 row w L O (put σ j (a1Q e (l.set i (D.upd p b u)) (σ j))) (C6 a) -> ∃ O2, Rel P w0 L0 row w L O2 σ2 (C6 a)) (h : K σ2) : o.wp P a w (D4 P w0 L0 row n K) Q := by
 have h1 := I7 hR x; rw [hx] at h1; obtain ⟨e', l', g, sz, m, c, b', off, h2, h3, h4, h5, h6, h7⟩ := h1; rw [hj] at h2; simp only [Option.some.injEq, Prod.mk.injEq] at h2; obtain ⟨rfl, rfl⟩ := h2; rw [hi] at h5; obtain rfl : b = b' := by simpa using h5
 obtain ⟨css, sz', g1, g2, g3, g4, g5⟩ := hR.owned hj; have h3' : Y9 (σ j) (C6 a j) = .slice (some ⟨g, 0, none⟩) m c := h3; have hsz' : sz = sz' := by rw [h4] at g1; simpa using g1
 subst hsz'; have hO := g5 g (by rw [h3']; rfl); have hLg : ∀ q, ¬ L g q := fun q hq => by have := (hO.2 q).1 hq; simp at this
 rw [h3'] at g4; rcases g4.2 with ⟨h0, _⟩ | ⟨g', cap, cur, hv, hh, hnc, hcm, hcs, htk⟩
 . cases h0
 . simp only [Value.slice.injEq, Option.some.injEq, Addr.mk.injEq, and_true] at hv; obtain ⟨rfl, rfl, rfl⟩ := hv; have hu := N4 hR hy; obtain ⟨ci, hci, hri⟩ := g2.get hi; obtain ⟨pre, c1, post, f1, f2, f3, f4⟩ := Rep.part hri hp h6; obtain ⟨A, B, f5, f6, f7⟩ := b9a g3 hci; have hcl : c1.length = C0 u := by rw [Rep.len _ _ f3, hw]
   have hul : (a.eval y).cells.toList.length = C0 u := Rep.len _ _ hu.1; have hcil : ci.length = sz := g3 ci (mem_of_getElem? hci); obtain ⟨R, hcur⟩ : ∃ R, cur.toList = A ++ pre ++ c1 ++ post ++ B ++ R := ⟨cur.toList.drop (l.length * sz), by
     conv => lhs; rw [<- take_append_drop (l.length * sz) cur.toList, htk, f5, f1]
     simp [append_assoc]⟩
   have hlen : cur.size = A.length + pre.length + c1.length + post.length + B.length + R.length := by
     rw [<- Array.length_toList, hcur]; simp only [length_append]
   obtain ⟨w', C', e1, e2, e3, e4, e5⟩ := a1C (P := P) (off := i * sz + off) (a.eval y).cells.toList 0 w cur hh (by unfold mk; split <;> simp) (by omega) (Rep.one _ _ hu.1); have hsame := H4.write (L := L) e4 hLg hR.lok; have hC' : C'.toList = A ++ (pre ++ (a.eval y).cells.toList ++ post) ++ B ++ R := by
     rw [e3, hcur]; have t1 : List.take (i * sz + off + 0) (A ++ pre ++ c1 ++ post ++ B ++ R) = A ++ pre := by
       rw [Nat.add_zero, <- f6, <- f2, <- length_append]; simp only [append_assoc]; rw [<- append_assoc A pre, take_left]
     have t2 : List.drop (i * sz + off + 0 + (a.eval y).cells.toList.length) (A ++ pre ++ c1 ++ post ++ B ++ R) = post ++ B ++ R := by
       rw [Nat.add_zero, <- f6, <- f2, hul, <- hcl, <- length_append, <- length_append]; rw [append_assoc (A ++ pre ++ c1) post B, append_assoc (A ++ pre ++ c1) (post ++ B) R, drop_left]
     rw [t1, t2]; simp [append_assoc]
   have hflat : (css.set i (pre ++ (a.eval y).cells.toList ++ post)).flatten = A ++ (pre ++ (a.eval y).cells.toList ++ post) ++ B := f7 _; have hfl : (A ++ (pre ++ (a.eval y).cells.toList ++ post) ++ B).length = l.length * sz := by
     have := g4.1; rw [f5, f1] at this; simp only [length_append] at this ⊢; omega
   have hrel : Rel P w0 L0 row w' L (E4 O j (O j)) (put σ j (a1Q e (l.set i (D.upd p b u)) (σ j))) (C6 a) := by
     have := hR.putOwn j (a1Q e (l.set i (D.upd p b u)) (σ j)) (C6 a j) (O j) (H1 (some g)) hsame (b1h hR.grown e4 (K2 _ e1) (fun q hq => by obtain rfl : g = q := (by simpa using hq); exact (hR.olt j g hO.1).2)) (by omega) (fun b q hb => by rw [e5]; exact hR.lok b q hb)
       (fun q hq => by obtain rfl : g = q := (by simpa [H1] using hq); exact (hR.olt j g hO.1).2) (fun i q hi hO' e => hi (hR.inj i j q hO' (by rw [hO.1]; exact e)))
       (fun q hq => ⟨by rw [e5]; exact (hR.olt j q hq).1, (hR.olt j q hq).2, fun i hi e => hi (hR.inj i j q e hq)⟩) ?_
     . rwa [a5J (C6 a) j] at this
     . refine b2l hj ⟨css.set i (pre ++ (a.eval y).cells.toList ++ post), sz, g1, A8.mono hsame.ext _ _ (g2.set (f4 u _ hu.1)), fun c' hc' => ?_, ⟨?_, .inr ⟨g, c, C', ?_, (by rw [show C'.size = cur.size by rw [<- Array.length_toList, hC', <- Array.length_toList, hcur]; simp only [length_append]; omega]; exact e2), by simpa using hnc, hcm, ?_, ?_⟩⟩, fun q hq => ?_⟩ j
       . rcases mem_or_eq_of_mem_set hc' with h9 | h9
         . exact g3 c' h9
         . subst h9; rw [<- hcil, f1]; simp only [length_append]; omega
       . rw [hflat, hfl]; simp
       . rw [h3']; simp
       . refine Nat.le_trans hcs (Nat.le_of_eq ?_); rw [<- Array.length_toList, hcur, <- Array.length_toList, hC']; simp only [length_append]; omega
       . rw [hflat, hC']; simp only [length_set]; rw [<- hfl, take_left]
       . have hq' : some g = some q := by rw [h3'] at hq; exact hq
         obtain rfl : g = q := by simpa using hq'
         exact ⟨by simpa [E4] using hO.1, fun q => by simpa using hLg q⟩
   obtain ⟨O2, h2q⟩ := hq _ _ _ hrel; refine a7R hd hsz hdef (w' := w') (L' := L) (O' := O2) (σ' := σ2) ?_ h2q h
   . have hs2 : (a.eval y).cells.size = C0 u := by rw [<- Array.length_toList]; exact hul
     simp only [execOp, ho, Instr.storeAt, h7, ptr, Instr.sureAddr, Sem.run_bind, Sem.run_pure, Result.andThen_ok, storeVar, J7 ht, hs2, ne_eq, not_true_eq_false, if_false, e1]
theorem b1d (hd : o.dst = none) (hsz : a.tmps.size = n) (hdef : a.defers = []) (hR : Rel P w0 L0 row w L O σ (C6 a)) {t : TypeId} {x y : Operand} (ho : o.op = .store t x y) {j i : Nat} {p : List Nat} (hx : A6 σ x = .eadr j i p)
   {e : TypeId} {l : List D} {b z u : D} (hj : N8 (σ j) = some (e, l)) (hi : l[i]? = some b) (hp : D.get p b = some z) (hy : asD (A6 σ y) = some u) (hw : C0 u = C0 z) (ht : E5 P t = some (C0 u))
   (h : K (put σ j (a1Q e (l.set i (D.upd p b u)) (σ j)))) : o.wp P a w (D4 P w0 L0 row n K) Q :=
 b6j hd hsz hdef hR ho hx hj hi hp hy hw ht (fun _ _ O h => ⟨O, h⟩) h
end Go.Vw
namespace Go.Vw
open Go.RowKit Go.Proofs
variable {P : Program} {w0 : World} {L0 : Nat -> Nat -> Prop} {row : Nat -> Prop} {n : Nat} {K : St -> Prop} {Q : Exit -> Act -> World -> Prop}
 {w w' : World} {L L' : Nat -> Nat -> Prop} {O O' : Nat -> Option Nat} {σ σ' : St} {a : Act} {o : Oper} {d : Nat} {v : Value} {tm : Nat -> Value}
def esz (P : Program) (e : TypeId) : Option (Nat × Nat) :=
 match P.info? e with
 | some i => match i.zero with
   | some z => if z.cells.size = i.size /\ 0 < i.size then some (i.size, i.bytes) else none
   | none => none
 | none => none
theorem a0E {e sz by_ : Nat} (h : esz P e = some (sz, by_)) : ∃ i z, P.info? e = some i /\ i.zero = some z /\ i.size = sz /\ i.bytes = by_ /\ z.cells.size = sz /\ 0 < sz := by
 unfold esz at h; split at h
 . rename_i i hi
   split at h
   . rename_i z hz
     split at h
     . rename_i hc
       simp only [Option.some.injEq, Prod.mk.injEq] at h; exact ⟨i, z, hi, hz, h.1, h.2, by rw [hc.1, h.1], by rw [<- h.1]; exact hc.2⟩
     . cases h
   . cases h
 . cases h
theorem b4r (hR : Rel P w0 L0 row w L O σ (C6 a)) (sz : Nat) : ∀ (ps : List (Nat × Operand)) (ys : List (Nat × D)) (k : Nat) (cells : Array Value), Q8 σ ps = some ys -> ys.map (·.1) = range' k ys.length ->
   (∀ y ∈ ys.map (·.2), C0 y = sz) -> cells.size = (k + ys.length) * sz ->
   ∃ cells' css, Instr.fill (fun i => some (i * sz, sz)) cells (ps.map fun (i, x) => (i, a.eval x)) = some cells' /\ A8 w L (ys.map (·.2)) css /\ cells'.toList = cells.toList.take (k * sz) ++ css.flatten
 | [], ys, k, cells, hp, _, _, hs => by
   simp only [Q8, Option.some.injEq] at hp; subst hp; refine ⟨cells, [], rfl, by simp [A8], ?_⟩; rw [take_of_length_le (by simp at hs ⊢; omega)]; simp
 | (i, x) :: ps, ys, k, cells, hp, hi, hw, hs => by
   simp only [Q8] at hp; split at hp
   . rename_i y ys' hy hys
     simp only [Option.some.injEq] at hp; subst hp; simp only [map_cons, length_cons, range'_succ, List.cons.injEq] at hi; obtain ⟨rfl, hi⟩ := hi; simp only [map_cons, mem_cons, forall_eq_or_imp] at hw; simp only [length_cons] at hs; have hx := N4 hR hy; have hxl : (a.eval x).cells.size = sz := by rw [<- hw.1, <- Rep.len _ _ hx.1, Array.length_toList]
     have hsz1 : (i + (ys'.length + 1)) * sz = i * sz + sz + ys'.length * sz := by rw [Nat.add_mul, Nat.succ_mul]; omega
     obtain ⟨c1, e1, e2⟩ := b5B (fun i => some (i * sz, sz)) cells i (i * sz) (a.eval x) (ps.map fun (i, x) => (i, a.eval x)) (by rw [hxl]) (by rw [hxl, hs, hsz1]; omega); have hc1 : c1.size = (i + 1 + ys'.length) * sz := by
       rw [<- Array.length_toList, e2]; simp only [length_append, length_take, length_drop, Array.length_toList, hxl, hs, hsz1]; have : (i + 1 + ys'.length) * sz = i * sz + sz + ys'.length * sz := by rw [Nat.add_mul, Nat.succ_mul]
       omega
     obtain ⟨c2, css, e3, e4, e5⟩ := b4r hR sz ps ys' (i + 1) c1 hys hi hw.2 hc1; refine ⟨c2, (a.eval x).cells.toList :: css, ?_, ?_, ?_⟩
     . rw [<- e3, <- e1]; rfl
     . simp only [map_cons, A8]; exact ⟨_, _, rfl, hx.1, e4⟩
     . rw [e5, e2]; have hl : (cells.toList.take (i * sz) ++ (a.eval x).cells.toList).length = (i + 1) * sz := by
         rw [length_append, length_take, Array.length_toList, Array.length_toList, hxl, hs, hsz1, Nat.succ_mul]; omega
       rw [<- hl, take_left]; simp [append_assoc]
   . cases hp
theorem F0.new {e sz by_ : Nat} (he : e < 100000) {l : List D} {css : List (List Value)} {C : Array Value} {m : Bool} {cap : Nat} (hz : esz P e = some (sz, by_)) (hlok : ∀ b q, L b q -> b < w.heap.size) (hr : A8 w L l css) (hw : ∀ c ∈ css, c.length = sz)
   (hC : C.size = cap * sz) (hn : l.length <= cap) (hm : cap <= maxLen) (ht : C.toList.take (l.length * sz) = css.flatten) :
   F0 P (w.alloc (.cells C e)) (R5 L w.heap.size (if m then 0 else l.length * sz)) (some w.heap.size) m e l (.slice (some ⟨w.heap.size, 0, none⟩) l.length cap) := by
 obtain ⟨i, z, h1, h2, h3, h4, h5, h6⟩ := a0E hz; have hfl : css.flatten.length = l.length * sz := by
   have hcl : C.toList.length = cap * sz := by rw [Array.length_toList, hC]
   rw [<- ht, length_take, hcl, Nat.min_eq_left (Nat.mul_le_mul_right _ hn)]
 refine ⟨css, sz, by simp [W6 he, h1, h3], A8.mono (H4.alloc hlok _ _).ext _ _ hr, hw, ⟨hfl, .inr ⟨w.heap.size, cap, C, rfl, by rw [W6 he, a6Q he]; exact heap_alloc_new w _, hn, hm, Nat.le_of_eq hC.symm, ht⟩⟩, fun g hg => ?_⟩; have hg' : some w.heap.size = some g := hg; refine ⟨hg', fun q => ?_⟩; obtain rfl : w.heap.size = g := by simpa using hg'
 simp only [R5]; constructor
 . rintro (h | ⟨_, h⟩)
   . have := hlok _ _ h; omega
   . cases m <;> simp at h ⊢; exact h
 . rintro ⟨rfl, h⟩; exact .inr ⟨trivial, by simpa using h⟩
section
variable (hd : o.dst = some d) (hlt : d < n) (hsz : a.tmps.size = n) (hdef : a.defers = []) (hR : Rel P w0 L0 row w L O σ (C6 a))
include hd hlt hsz hdef hR
theorem a7n {t e sz by_ len : Nat} {ps : Array (Nat × Operand)} (ho : o.op = .buildSlice t len ps) (ht : P.underlying t = some (.slice e)) (he : e < 100000) (hz : esz P e = some (sz, by_)) {ys : List (Nat × D)} (hp : Q8 σ ps.toList = some ys)
   (hi : ys.map (·.1) = List.range len) (hw : ∀ y ∈ ys.map (·.2), C0 y = sz) (hb : len * sz <= 16777216) (m : Bool) (h : K (put σ d (.own m e (ys.map (·.2))))) : o.wp P a w (D4 P w0 L0 row n K) Q := by
 obtain ⟨i, z, h1, h2, h3, h4, h5, h6⟩ := a0E hz; have hlen : ys.length = len := by have := congrArg List.length hi; simpa using this
 have hi' : ys.map (·.1) = range' 0 ys.length := by rw [hi, hlen, range_eq_range']
 let z0 : Array Value := (Array.range (len * sz)).map fun q => (if len * sz = 0 then #[] else z.cells)[q % (if len * sz = 0 then #[] else z.cells).size]!
 obtain ⟨cells', css, e1, e2, e3⟩ := b4r hR sz ps.toList ys 0 z0 hp hi' hw (by simp [z0, hlen]); have hcs : ∀ c ∈ css, c.length = sz := by
   intro c hc; obtain ⟨j, hj, rfl⟩ := mem_iff_getElem.1 hc; have hjl : j < (ys.map (·.2)).length := by rw [<- e2.count]; exact hj
   obtain ⟨c', hc', hr'⟩ := e2.get (getElem?_eq_getElem hjl); rw [getElem?_eq_getElem hj] at hc'; obtain rfl : css[j] = c' := by simpa using hc'
   rw [Rep.len _ _ hr', hw _ (getElem_mem _)]
 have hfl : css.flatten.length = len * sz := by
   rw [A8.len _ _ e2]; have : ∀ (l : List D), (∀ y ∈ l, C0 y = sz) -> D6 l = l.length * sz := by
     intro l
     induction l with
     | nil => intro _; simp [D6]
     | cons x xs ih => intro hx; simp only [D6, length_cons, Nat.succ_mul, ih (fun c hc => hx c (by simp [hc])), hx x (by simp)]; omega
   rw [this _ hw, length_map, hlen]
 have hC : cells'.size = len * sz := by rw [<- Array.length_toList, e3]; simp [hfl]
 have hlenle : len <= maxLen := by
   have : len <= len * sz := Nat.le_mul_of_pos_right _ h6; unfold maxLen; omega
 have hys : (ys.map (·.2)).length = len := by rw [length_map, hlen]
 have own := F0.new he (m := m) (cap := len) hz hR.lok e2 hcs hC (by rw [hys]; exact Nat.le_refl _) hlenle (by rw [hys, <- hC, take_of_length_le (by simp), e3]; simp); rw [hys] at own; refine J3 hd hlt hsz hdef (v := .slice (some ⟨w.heap.size, 0, none⟩) len len) (w' := w.alloc (.cells cells' e)) ?_ (hR.putNew (.cells cells' e) (if m then 0 else len * sz) d (.own m e (ys.map fun y : Nat × D => y.2)) _ own) h; have e4 : (ps.map fun (i, x) => (i, a.eval x)).toList = ps.toList.map fun (i, x) => (i, a.eval x) := by simp
 have hb' : ¬ (16777216 < len * sz) := (by omega); have hsz' : (sizeOf e).run P w = .ok sz w := (by simp [sizeOf, typeInfo, h1, h3]); have e1' : Instr.fill (fun i => some (i * sz, sz)) ((Array.range (len * sz)).map fun q => (if len * sz = 0 then #[] else z.cells)[q % (if len * sz = 0 then #[] else z.cells).size]!) (ps.toList.map fun (i, x) => (i, a.eval x)) = some cells' := e1; simp only [execOp, ho, Instr.buildSlice, Sem.run_bind, run_underlying ht, Result.andThen_ok, hsz', gt_iff_lt, Nat.reducePow, hb', if_false, e4, Sem.run_ite]; by_cases h0 : len * sz = 0
 . simp only [h0, if_true] at e1'; simp only [h0, if_true, Sem.run_bind, Sem.run_pure, Result.andThen_ok, e1', newRow, run_newObj_alloc]
 . simp only [h0, if_false] at e1'; simp only [h0, if_false, Sem.run_bind, zeroValue, typeInfo, run_program, h1, h2, Sem.run_pure, Result.andThen_ok, e1', newRow, run_newObj_alloc]
end
def left (m : Bool) (l : List D) : AV := if m then .undef else .d (.sl l)
theorem F0.left_ok {og : Option Nat} {m : Bool} {e : TypeId} {l : List D} {v : Value} {O' : Nat -> Option Nat} {σ' : St} (h : F0 P w L og m e l v) : RA P w L O' σ' tm none (left m l) v := by
 cases m with
 | true => simp [left, RA, RC]
 | false => exact h.at_
theorem b1k (t ty e : TypeId) (i : TypeInfo) (size : Nat) (ht : P.underlying t = some (.slice e)) (hi : P.info? e = some i)
   (v : Value) (n : Nat) (xs : List Value) (hown : a2m w e size v n xs) (c : Nat) : (Builtin.append_ #[t, t] ty #[v, .slice none 0 c]).run P w = .ok v w := by
 rcases hown.2 with ⟨rfl, rfl⟩ | ⟨g, cap, cur, rfl, _, hnc, _⟩
 . simp [Builtin.append_, run_underlying ht, sizeOf, typeInfo, hi, Builtin.lenOf, Builtin.firstCells]
 . simp [Builtin.append_, run_underlying ht, sizeOf, typeInfo, hi, Builtin.lenOf, Builtin.firstCells, hnc, storeCells]
theorem a9A {t ty e sz by_ : Nat} (he : e < 100000) (ht : P.underlying t = some (.slice e)) (hz : esz P e = some (sz, by_)) {v : Value} {n : Nat} {xs : List Value} (hown : a2m w e sz v n xs)
   {A : Option Addr} {m c : Nat} {news : List Value} (hl : news.length = m * sz) (hA : 0 < m -> ∃ b off, A = some ⟨b, off, none⟩ /\ ∀ k u, news[k]? = some u -> w.cell? ⟨b, off + k, none⟩ = some u)
   (h1 : ∀ u ∈ news, u.oneCell' = true) (hb : (n + m) * by_ <= 140737488355328) (h63 : n + m <= 140737488355328) :
   ∃ v' w', (Builtin.append_ #[t, t] ty #[v, .slice A m c]).run P w = .ok v' w' /\ ((v' = v /\ w' = w /\ m = 0) \/
     (∃ g, v.ownBlock = some g /\ v'.ownBlock = some g /\ a2m w' e sz v' (n + m) (xs ++ news) /\ w.grownBy w' (some g) /\ w'.heap.size = w.heap.size) \/
     (∃ C cap, v' = .slice (some ⟨w.heap.size, 0, none⟩) (n + m) cap /\ w' = w.drew.alloc (.cells C e) /\ C.size = cap * sz /\ n + m <= cap /\ cap <= maxLen /\ C.toList.take ((n + m) * sz) = xs ++ news)) := by
 obtain ⟨i, z, g1, g2, g3, g4, g5, g6⟩ := a0E hz; subst g3; subst g4; by_cases hm : m = 0
 . subst hm; have hn : news = [] := eq_nil_of_length_eq_zero (by simpa using hl); subst hn; cases A with
   | none => exact ⟨v, w, b1k t ty e i i.size ht g1 v n xs hown c, .inl ⟨rfl, rfl, rfl⟩⟩
   | some ad =>
     refine ⟨v, w, ?_, .inl ⟨rfl, rfl, rfl⟩⟩; rcases hown.2 with ⟨rfl, rfl⟩ | ⟨g, cap, cur, rfl, _, hnc, _⟩
     . simp [Builtin.append_, run_underlying ht, sizeOf, typeInfo, g1, Builtin.lenOf, Builtin.firstCells, loadCells, loadCellsFrom]
     . simp [Builtin.append_, run_underlying ht, sizeOf, typeInfo, g1, Builtin.lenOf, Builtin.firstCells, hnc, storeCells, loadCells, loadCellsFrom]
 . obtain ⟨b, off, rfl, hc⟩ := hA (by omega); have hnews : ∀ j u, news[j]? = some u -> w.cell? ((⟨b, off, none⟩ : Addr).add j) = some u := fun j u hj => by rw [Addr.add_lit]; exact hc j u hj
   have hmax : n + m <= maxLen := by unfold maxLen; omega
   have fresh : ∀ old, old < n + m -> (xs.toArray ++ news.toArray ++ Builtin.zeroCells z.cells (grownCap w (n + m) old e - (n + m))).size = grownCap w (n + m) old e * i.size /\ n + m <= grownCap w (n + m) old e /\
       grownCap w (n + m) old e <= maxLen /\ (xs.toArray ++ news.toArray ++ Builtin.zeroCells z.cells (grownCap w (n + m) old e - (n + m))).toList.take ((n + m) * i.size) = xs ++ news := by
     intro old ho; have hge := grownCap_ge w (n + m) old e; refine ⟨?_, hge, grownCap_le_maxLen w (n + m) old e hmax, ?_⟩
     . simp only [Array.size_append, size_toArray, size_zeroCells, g5, hown.1, hl, <- Nat.add_mul]; congr 1; omega
     . simp only [Array.toList_append, append_assoc]; rw [<- append_assoc, show (n + m) * i.size = (xs ++ news).length by rw [length_append, hown.1, hl, Nat.add_mul]]; exact take_left
   have hlen : (xs ++ news).length = (n + m) * i.size := by rw [length_append, hown.1, hl, Nat.add_mul]
   rcases hown.2 with ⟨rfl, rfl⟩ | ⟨g, cap, cur, rfl, hg, hnc, hcm, hcs, htake⟩
   . have hx : xs = [] := eq_nil_of_length_eq_zero (by simpa using hown.1); subst hx; have hr := run_append_nil (P := P) w t ty e i z ht g1 g2 ⟨b, off, none⟩ m c news hl hnews (by omega) (by omega) (by simp only [Nat.zero_add] at hb; omega); have hf := fresh 0 (by omega); simp only [Nat.zero_add, nil_append, Array.empty_append] at hf ⊢; exact ⟨_, _, hr, .inr (.inr ⟨_, _, rfl, rfl, by simpa using hf.1, hf.2.1, hf.2.2.1, by simpa using hf.2.2.2⟩)⟩
   . by_cases hroom : n + m <= cap
     . have hg' := hg; rw [W6 he, a6Q he] at hg'; have hfit : n * i.size + news.length <= cur.size := by rw [hl, <- Nat.add_mul]; exact Nat.le_trans (Nat.mul_le_mul_right _ hroom) hcs
       have hr := run_append_room (P := P) w t ty e i ht g1 g n cap cur hg' ⟨b, off, none⟩ m c news hl hnews h1 hroom hfit; refine ⟨_, _, hr, .inr (.inl ⟨g, rfl, rfl, ⟨hlen, .inr ⟨g, cap, _, rfl, by rw [W6 he, a6Q he]; exact setRow_heap w g cur _ e _ hg', hroom, hcm, ?_, ?_⟩⟩, ⟨rfl, rfl, rfl, by simp, fun k _ hk => setRow_other w g k _ (fun e => hk (by simp [e]))⟩, by simp⟩)⟩
       . simp only [size_toArray, length_append, length_take, length_drop, Array.length_toList]; omega
       . rw [htake, <- hlen]; exact take_left
     . have holds : ∀ j u, xs[j]? = some u -> w.cell? ((⟨g, 0, none⟩ : Addr).add j) = some u := hown.cells (g := g) rfl; have hr := run_append_grow (P := P) w t ty e i z ht g1 g2 ⟨g, 0, none⟩ n cap xs hown.1 holds ⟨b, off, none⟩ m c news hl hnews (by omega) (by omega) (growslice_fits (by omega) hb); have hf := fresh cap (by omega); exact ⟨_, _, hr, .inr (.inr ⟨_, _, rfl, rfl, hf.1, hf.2.1, hf.2.2.1, hf.2.2.2⟩)⟩
theorem a8R {t u ty e : Nat} (he : e < 100000) (ht : P.underlying t = some (.slice e)) (hu : P.underlying u = some .string) (hz : esz P e = some (1, 1)) {v : Value} {n : Nat} {xs : List Value} (hown : a2m w e 1 v n xs) (s : ByteArray)
   (h63 : n + s.size <= 140737488355328) :
   ∃ v' w', (Builtin.append_ #[t, u] ty #[v, .string s]).run P w = .ok v' w' /\ ((v' = v /\ w' = w /\ s.size = 0) \/
     (∃ g, v.ownBlock = some g /\ v'.ownBlock = some g /\ a2m w' e 1 v' (n + s.size) (xs ++ Lib.strCells s) /\ w.grownBy w' (some g) /\ w'.heap.size = w.heap.size) \/
     (∃ C cap, v' = .slice (some ⟨w.heap.size, 0, none⟩) (n + s.size) cap /\ w' = w.drew.alloc (.cells C e) /\ C.size = cap * 1 /\ n + s.size <= cap /\ cap <= maxLen /\ C.toList.take ((n + s.size) * 1) = xs ++ Lib.strCells s)) := by
 obtain ⟨i, z, g1, g2, g3, g4, g5, g6⟩ := a0E hz; by_cases hm : s.size = 0
 . have hs : s = ByteArray.empty := by
     obtain ⟨a⟩ := s; have : a = #[] := Array.eq_empty_of_size_eq_zero hm; rw [this]; rfl
   subst hs; refine ⟨v, w, ?_, .inl ⟨rfl, rfl, rfl⟩⟩; have hf : ∀ n : Nat, (Builtin.firstCells 1 0 (.string ByteArray.empty)).run P w = .ok #[] w := fun n => by simp [Builtin.firstCells]
   rcases hown.2 with ⟨rfl, rfl⟩ | ⟨g, cap, cur, rfl, _, hnc, _⟩
   . simp [Builtin.append_, run_underlying ht, run_underlying hu, sizeOf, typeInfo, g1, Builtin.lenOf, Builtin.firstCells]
   . simp [Builtin.append_, run_underlying ht, run_underlying hu, sizeOf, typeInfo, g1, Builtin.lenOf, Builtin.firstCells, hnc, storeCells]
 . have hmax : n + s.size <= maxLen := by unfold maxLen; omega
   have hl := Lib.strCells_length s; have fresh : ∀ old, old < n + s.size -> (xs.toArray ++ (Lib.strCells s).toArray ++ Builtin.zeroCells z.cells (grownCap w (n + s.size) old e - (n + s.size))).size = grownCap w (n + s.size) old e * 1 /\ n + s.size <= grownCap w (n + s.size) old e /\
       grownCap w (n + s.size) old e <= maxLen /\ (xs.toArray ++ (Lib.strCells s).toArray ++ Builtin.zeroCells z.cells (grownCap w (n + s.size) old e - (n + s.size))).toList.take ((n + s.size) * 1) = xs ++ Lib.strCells s := by
     intro old ho; have hge := grownCap_ge w (n + s.size) old e; refine ⟨?_, hge, grownCap_le_maxLen w (n + s.size) old e hmax, ?_⟩
     . simp only [Array.size_append, size_toArray, size_zeroCells, g5, hown.1, hl, g3]; omega
     . simp only [Array.toList_append, append_assoc]; rw [<- append_assoc, show (n + s.size) * 1 = (xs ++ Lib.strCells s).length by rw [length_append, hown.1, hl]; omega]; exact take_left
   have hlen : (xs ++ Lib.strCells s).length = (n + s.size) * 1 := by rw [length_append, hown.1, hl]; omega
   have hbytes : i.bytes = 1 := g4; rcases hown.2 with ⟨rfl, rfl⟩ | ⟨g, cap, cur, rfl, hg, hnc, hcm, hcs, htake⟩
   . have hx : xs = [] := eq_nil_of_length_eq_zero (by simpa using hown.1); subst hx; have hr := run_append_nil_string (P := P) w t u ty e i z ht hu g1 g2 s (by omega) (by omega) (by rw [hbytes]; omega); have hf := fresh 0 (by omega); have hmap : s.data.map (fun b => Value.int .u8 b.toNat) = (Lib.strCells s).toArray := by apply Array.ext'; simp [Lib.strCells]
     rw [hmap] at hr; simp only [Nat.zero_add, nil_append, Array.empty_append] at hf ⊢; exact ⟨_, _, hr, .inr (.inr ⟨_, _, rfl, rfl, by simpa using hf.1, hf.2.1, hf.2.2.1, by simpa using hf.2.2.2⟩)⟩
   . by_cases hroom : n + s.size <= cap
     . have hg' := hg; rw [W6 he, a6Q he] at hg'; have hfit : n + s.size <= cur.size := (by omega); have hr := Lib.run_append_room_string (P := P) w t u ty e i ht hu g1 g3 g n cap cur hg' s hroom hfit; refine ⟨_, _, hr, .inr (.inl ⟨g, rfl, rfl, ⟨hlen, .inr ⟨g, cap, _, rfl, by rw [W6 he, a6Q he]; exact setRow_heap w g cur _ e _ hg', hroom, hcm, ?_, ?_⟩⟩, ⟨rfl, rfl, rfl, by simp, fun k _ hk => setRow_other w g k _ (fun e => hk (by simp [e]))⟩, by simp⟩)⟩
       . simp only [size_toArray, length_append, length_take, length_drop, Array.length_toList, hl]; omega
       . rw [Nat.mul_one] at htake; rw [htake, <- hlen]; exact take_left
     . have holds : ∀ j u, xs[j]? = some u -> w.cell? ((⟨g, 0, none⟩ : Addr).add j) = some u := hown.cells (g := g) rfl; have hr := Lib.run_append_grow_string (P := P) w t u ty e i z ht hu g1 g2 ⟨g, 0, none⟩ n cap xs (by rw [hown.1, g3]) holds s (by omega) (by omega) (growslice_fits (by omega) (by rw [hbytes]; omega)); have hf := fresh cap (by omega); exact ⟨_, _, hr, .inr (.inr ⟨_, _, rfl, rfl, hf.1, hf.2.1, hf.2.2.1, hf.2.2.2⟩)⟩
theorem c1z (cs : Array Value) {sz : Nat} (h : cs.size = sz) (k : Nat) : (madeCells cs (k * sz)).toList = (replicate k cs.toList).flatten := by
 subst h; refine ext_getElem? fun j => ?_
 have hall : ∀ c ∈ replicate k cs.toList, c.length = cs.size := fun c hc => by rw [(mem_replicate.1 hc).2]; simp
 by_cases hj : j < k * cs.size
 . have h0 : 0 < cs.size := by
     rcases Nat.eq_zero_or_pos cs.size with h | h
     . rw [h] at hj; omega
     . exact h
   have hq : j / cs.size < k := (Nat.div_lt_iff_lt_mul h0).2 hj; have hm := Nat.mod_lt j h0; have := a3h hall (i := j / cs.size) (c := cs.toList) (by simp [getElem?_replicate, hq]) (j % cs.size) cs[j % cs.size] (by simp [hm]); rw [show j / cs.size * cs.size + j % cs.size = j by rw [Nat.mul_comm]; exact Nat.div_add_mod j cs.size] at this; rw [this]; simp [madeCells, hj, hm]
 . have h1 : (madeCells cs (k * cs.size)).toList.length <= j := by simp [madeCells]; omega
   have h2 : (replicate k cs.toList).flatten.length <= j := by simp; omega
   rw [getElem?_eq_none h1, getElem?_eq_none h2]
theorem A8.sized {l : List D} {css : List (List Value)} {sz : Nat} (h : A8 w L l css) (hw : ∀ y ∈ l, C0 y = sz) : ∀ c ∈ css, c.length = sz := by
 intro c hc; obtain ⟨j, hj, rfl⟩ := mem_iff_getElem.1 hc; have hjl : j < l.length := by rw [<- h.count]; exact hj
 obtain ⟨c', hc', hr'⟩ := h.get (getElem?_eq_getElem hjl); rw [getElem?_eq_getElem hj] at hc'; obtain rfl : css[j] = c' := by simpa using hc'
 rw [Rep.len _ _ hr', hw _ (getElem_mem _)]
theorem W4 {css : List (List Value)} {sz : Nat} (h : ∀ c ∈ css, c.length = sz) : css.flatten.length = css.length * sz := by
 induction css with
 | nil => simp
 | cons x xs ih => simp only [flatten_cons, length_append, length_cons, Nat.succ_mul, ih (fun c hc => h c (by simp [hc])), h x (by simp)]; omega
theorem F0.shape {og : Option Nat} {m : Bool} {e : TypeId} {l : List D} {v : Value} (h : F0 P w L og m e l v) : ∃ a c, v = .slice a l.length c := by
 obtain ⟨css, sz, h1, h2, h3, h4, h5⟩ := h; rcases h4.2 with ⟨hv, hn⟩ | ⟨g, cap, cur, hv, _⟩
 . exact ⟨none, 0, by rw [hv, hn]⟩
 . exact ⟨_, _, hv⟩
theorem a9c {e sz by_ : Nat} (he : e < 100000) (hz : esz P e = some (sz, by_)) {og : Option Nat} {m : Bool} {l : List D} {v : Value} (hown : F0 P w L og m e l v)
   (hlok : ∀ b q, L b q -> b < w.heap.size) (hog : ∀ g, og = some g -> g < w.heap.size) {ds : List D} (hw : ∀ z ∈ ds, C0 z = sz) {dss : List (List Value)} (e2 : A8 w L ds dss) {run : Sem Value}
   (hrun0 : ∀ xs, a2m w e sz v l.length xs -> ∃ v' w', run.run P w = .ok v' w' /\ ((v' = v /\ w' = w /\ ds.length = 0) \/
     (∃ g, v.ownBlock = some g /\ v'.ownBlock = some g /\ a2m w' e sz v' (l.length + ds.length) (xs ++ dss.flatten) /\ w.grownBy w' (some g) /\ w'.heap.size = w.heap.size) \/
     (∃ C cap, v' = .slice (some ⟨w.heap.size, 0, none⟩) (l.length + ds.length) cap /\ w' = w.drew.alloc (.cells C e) /\ C.size = cap * sz /\ l.length + ds.length <= cap /\ cap <= maxLen /\ C.toList.take ((l.length + ds.length) * sz) = xs ++ dss.flatten))) :
   ∃ v' w' L' og' touch, run.run P w = .ok v' w' /\ F0 P w' L' og' m e (l ++ ds) v' /\ H4 w L w' L' touch /\ F7 w w' touch /\ (∀ b q, L' b q -> b < w'.heap.size) /\ (∀ b, touch b -> og = some b) /\
     (∀ g, og' = some g -> g < w'.heap.size /\ (og = some g \/ w.heap.size <= g)) := by
 obtain ⟨css, sz', g1, g2, g3, g4, g5⟩ := hown; rw [W6 he] at g1; obtain ⟨i, z, f1, f2, f3, f4, f5, f6⟩ := a0E hz; obtain rfl : sz = sz' := by rw [f1] at g1; simpa [f3] using g1
 have hds := e2.sized hw; have hnl : dss.flatten.length = ds.length * sz := by rw [W4 hds, e2.count]
 obtain ⟨v', w', hrun, hcase⟩ := hrun0 _ g4; rcases hcase with ⟨rfl, rfl, hm⟩ | ⟨g, hv, hv', ho', hgr, hsame⟩ | ⟨C, cap', rfl, rfl, hC, hnc, hcm, htk⟩
 . have hds0 : ds = [] := eq_nil_of_length_eq_zero hm; subst hds0; refine ⟨_, _, L, og, noB, hrun, ?_, H4.refl w' L _, F7.refl _ _, hlok, fun _ h => h.elim, fun g hg => ⟨hog g hg, .inl hg⟩⟩; rw [append_nil]; exact ⟨css, sz, by rw [W6 he]; exact g1, g2, g3, g4, g5⟩
 . have hg := g5 g hv; have hxs : css.flatten.length = l.length * sz := g4.1; have hS : H4 w L w' (R5 L g (if m then 0 else (l.length + ds.length) * sz)) (H1 (some g)) := by
     refine ⟨fun b q hq => ⟨.inl hq, fun u hu => ?_⟩, fun b hb hne => hgr.block b hb (fun e => hne e.symm), fun b q hb hne => ⟨fun hq => ?_, .inl⟩⟩
     . by_cases hbg : b = g
       . subst hbg; have hq' := (hg.2 q).1 hq; rcases g4.2 with ⟨h0, _⟩ | ⟨g', cp, cur, h0, hh, _, _, _, htk⟩
         . rw [h0] at hv; simp [Value.ownBlock] at hv
         . rcases ho'.2 with ⟨h0', _⟩ | ⟨g2', cp', cur', h0', hh', _, _, _, htk'⟩
           . rw [h0'] at hv'; simp [Value.ownBlock] at hv'
           . rw [h0] at hv; rw [h0'] at hv'; obtain rfl : g' = b := by simpa [Value.ownBlock] using hv
             obtain rfl : g2' = g' := by simpa [Value.ownBlock] using hv'
             have hql : q < css.flatten.length := (by omega); obtain ⟨v0, hv0⟩ : ∃ v0, css.flatten[q]? = some v0 := ⟨_, getElem?_eq_getElem hql⟩; have c1 : w.cell? ⟨g2', q, none⟩ = some v0 := by
               rw [<- htk, getElem?_take] at hv0; split at hv0
               . simp only [World.cell?, hh]; simpa using hv0
               . cases hv0
             have c2 : w'.cell? ⟨g2', q, none⟩ = some v0 := by
               have t2 : (css.flatten ++ dss.flatten)[q]? = some v0 := by rw [getElem?_append_left hql]; exact hv0
               rw [<- htk', getElem?_take] at t2; split at t2
               . simp only [World.cell?, hh']; simpa using t2
               . cases t2
             rw [a4X.2 c1] at hu; rw [a4X.2 c2]; exact hu
       . rw [J4 (hgr.block b (hlok b q hq) (by simpa using hbg))]; exact hu
     . rcases hq with hq | ⟨hq, _⟩
       . exact hq
       . exact absurd (by rw [hq]; rfl) hne
   refine ⟨v', w', _, some g, H1 (some g), hrun, ⟨css ++ dss, sz, by rw [W6 he]; exact g1, A8.append (A8.mono hS.ext _ _ g2) (A8.mono hS.ext _ _ e2), fun c hc => ?_, ?_, fun q hq => ?_⟩, hS, .of hgr (K2 _ hrun), fun b q hq => ?_, fun b hb => by rw [hg.1]; exact hb, fun q hq => ?_⟩
   . rcases mem_append.1 hc with hc | hc
     . exact g3 c hc
     . exact hds c hc
   . rw [length_append, flatten_append]; exact ho'
   . rw [hv'] at hq; refine ⟨hq, fun p => ?_⟩; obtain rfl : g = q := by simpa using hq
     simp only [R5, hg.2 p, true_and, length_append]; have hmul : l.length * sz <= (l.length + ds.length) * sz := Nat.mul_le_mul_right _ (by omega); cases m <;> simp
     intro h9; omega
   . rw [hsame]; rcases hq with hq | ⟨rfl, _⟩
     . exact hlok b q hq
     . exact hog b hg.1
   . obtain rfl : g = q := by simpa using hq
     rw [hsame]; exact ⟨hog g hg.1, .inl hg.1⟩
 . have own := F0.new he (w := w.drew) (L := L) (m := m) (l := l ++ ds) (css := css ++ dss) (C := C) (cap := cap') hz hlok (A8.append (A8.mono (H4.drew w L).ext _ _ g2) (A8.mono (H4.drew w L).ext _ _ e2))
     (fun c hc => by
       rcases mem_append.1 hc with hc | hc
       . exact g3 c hc
       . exact hds c hc) hC (by rw [length_append]; exact hnc) hcm (by rw [length_append, flatten_append]; exact htk)
   rw [length_append] at own; have hS := H4.alloc (w := w.drew) (L := L) hlok (.cells C e) (if m then 0 else (l.length + ds.length) * sz); refine ⟨_, _, _, some w.heap.size, noB, hrun, own, ⟨hS.ext, fun b hb hn => hS.heap b hb hn, fun b q hb hn => hS.lim b q hb hn⟩, ⟨rfl, rfl, rfl, by simp, fun k hk hn => hS.heap k hk hn, Nat.le_succ _⟩, fun b q hq => ?_, fun _ h => h.elim, fun g hg => ?_⟩
   . rcases hq with hq | ⟨rfl, _⟩
     . have := hlok b q hq; simp; omega
     . simp
   . obtain rfl : w.heap.size = g := by simpa using hg
     exact ⟨by simp, .inr (Nat.le_refl _)⟩
theorem a7M {t ty e sz by_ : Nat} (he : e < 100000) (ht : P.underlying t = some (.slice e)) (hz : esz P e = some (sz, by_)) {og : Option Nat} {m : Bool} {l : List D} {v y : Value} (hown : F0 P w L og m e l v)
   (hlok : ∀ b q, L b q -> b < w.heap.size) (hog : ∀ g, og = some g -> g < w.heap.size) {ds : List D} (hy : a4d w L ds y) (hw : ∀ z ∈ ds, C0 z = sz) (hb : (l.length + ds.length) * by_ <= 140737488355328) (h63 : l.length + ds.length <= 140737488355328) :
   ∃ v' w' L' og' touch, (Builtin.append_ #[t, t] ty #[v, y]).run P w = .ok v' w' /\ F0 P w' L' og' m e (l ++ ds) v' /\ H4 w L w' L' touch /\ F7 w w' touch /\ (∀ b q, L' b q -> b < w'.heap.size) /\ (∀ b, touch b -> og = some b) /\
     (∀ g, og' = some g -> g < w'.heap.size /\ (og = some g \/ w.heap.size <= g)) := by
 obtain ⟨A, cap, dss, sz2, e1, e2, e3, e4, e5⟩ := hy; have hds := e2.sized hw; have hnl : dss.flatten.length = ds.length * sz := by rw [W4 hds, e2.count]
 rw [e1]; exact a9c he hz hown hlok hog hw e2 fun xs hrow => a9A (ty := ty) he ht hz hrow (A := A) (c := cap) hnl (fun hm => e5 (by intro e; subst e; simp at hm)) (A8.ones _ _ e2) hb h63
def B5 (s : Str) : List D := s.map fun c => .int .u8 c.toNat
theorem b1m (w : World) (L : Nat -> Nat -> Prop) : ∀ (s : Str), A8 w L (B5 s) (s.map fun c => [.int .u8 c.toNat])
 | [] => by simp [B5, A8]
 | c :: s => by
   simp only [B5, map_cons, A8]; exact ⟨_, _, rfl, by simp [Rep], b1m w L s⟩
theorem a9a : ∀ (s : Str), (s.map fun c => [Value.int .u8 (c.toNat : Int)]).flatten = s.map fun c => Value.int .u8 (c.toNat : Int)
 | [] => rfl
 | c :: s => by rw [map_cons, map_cons, flatten_cons, a9a s]; rfl
theorem b8l (s : Str) : (s.map fun c => [Value.int .u8 (c.toNat : Int)]).flatten = Lib.strCells ⟨s.toArray⟩ := by
 rw [a9a]; simp [Lib.strCells]
theorem a3U (s : Str) : (B5 s).length = List.length s := by simp [B5]
theorem a7b {t u ty e : Nat} (he : e < 100000) (ht : P.underlying t = some (.slice e)) (hu : P.underlying u = some .string) (hz : esz P e = some (1, 1)) {og : Option Nat} {m : Bool} {l : List D} {v : Value} (hown : F0 P w L og m e l v)
   (hlok : ∀ b q, L b q -> b < w.heap.size) (hog : ∀ g, og = some g -> g < w.heap.size) (s : Str) (h63 : l.length + List.length s <= 140737488355328) :
   ∃ v' w' L' og' touch, (Builtin.append_ #[t, u] ty #[v, .string ⟨s.toArray⟩]).run P w = .ok v' w' /\ F0 P w' L' og' m e (l ++ B5 s) v' /\ H4 w L w' L' touch /\ F7 w w' touch /\ (∀ b q, L' b q -> b < w'.heap.size) /\ (∀ b, touch b -> og = some b) /\
     (∀ g, og' = some g -> g < w'.heap.size /\ (og = some g \/ w.heap.size <= g)) := by
 have hsz : ByteArray.size ⟨s.toArray⟩ = List.length s := (by simp [ByteArray.size]); refine a9c he hz hown hlok hog (ds := B5 s) (fun z hz => ?_) (b1m w L s) fun xs hrow => ?_
 . obtain ⟨c, _, rfl⟩ := mem_map.1 hz; rfl
 . have := a8R (ty := ty) he ht hu hz hrow ⟨s.toArray⟩ (by rw [hsz]; exact h63); rw [hsz] at this; rw [a3U, b8l]; exact this
section
variable (hd : o.dst = some d) (hlt : d < n) (hsz : a.tmps.size = n) (hdef : a.defers = []) (hR : Rel P w0 L0 row w L O σ (C6 a))
include hd hlt hsz hdef hR
theorem c1K {t e sz by_ : Nat} {x y : Operand} (ho : o.op = .call { callee := .builtin .append, args := #[x, y], argTypes := #[t, t] }) (ht : P.underlying t = some (.slice e)) (he : e < 100000) (hz : esz P e = some (sz, by_)) {j : Nat} {m : Bool} {l : List D}
   (hx : A6 σ x = .bor j m e l) {ds : List D} (hy : a4d w L ds (a.eval y)) (hw : ∀ z ∈ ds, C0 z = sz) (hb : (l.length + ds.length) * by_ <= 140737488355328) (h63 : l.length + ds.length <= 140737488355328)
   (h : K (put (put σ j (left m l)) d (.own m e (l ++ ds)))) : o.wp P a w (D4 P w0 L0 row n K) Q := by
 have h1 := I7 hR x; rw [hx] at h1; obtain ⟨h2, h3⟩ := h1; have h4 := hR.slots j; rw [h2] at h4; have h4' : F0 P w L (O j) m e l (C6 a j) := h4; obtain ⟨v', w', L', og', touch, hrun, f1, f2, f3, f4, f5, f6⟩ := a7M (ty := o.type) he ht hz h4' hR.lok (fun g hg => (hR.olt j g hg).1) hy hw hb h63; have hexec : (execOp a.eval o).run P w = .ok (.value v') w' := by
   simp only [execOp, ho, resolve, invoke, builtin, Sem.run_bind, Sem.run_pure, Result.andThen_ok, map_toArray, map_cons, map_nil, h3, hrun]
 have hj1 := hR.putPure j (left m l) (C6 a j) (F0.left_ok h4); rw [O0] at hj1; have hOj : ∀ g i, E4 O j none i = some g -> O i = some g /\ i ≠ j := by
   intro g i hi; simp only [E4] at hi; split at hi
   . cases hi
   . exact ⟨hi, by assumption⟩
 refine J3 hd hlt hsz hdef hexec (hj1.putOwn d (.own m e (l ++ ds)) v' og' touch f2 (hR.grown.then f3 (fun g hg => (hR.olt j g (f5 g hg)).2)) f3.size f4 (fun g hg => (hR.olt j g (f5 g hg)).2) (fun i g _ hO e => ?_) (fun g hg => ?_) f1) h
 . have := hOj g i hO; exact this.2 (hR.inj i j g this.1 (f5 g e))
 . refine ⟨(f6 g hg).1, ?_, fun i _ e => ?_⟩
   . rcases (f6 g hg).2 with h9 | h9
     . exact (hR.olt j g h9).2
     . exact .inl (Nat.le_trans hR.grown.size h9)
   . have := hOj g i e; rcases (f6 g hg).2 with h9 | h9
     . exact this.2 (hR.inj i j g this.1 h9)
     . have := (hR.olt i g this.1).1; omega
theorem a8W {t e sz by_ : Nat} {x y : Operand} (ho : o.op = .call { callee := .builtin .append, args := #[x, y], argTypes := #[t, t] }) (ht : P.underlying t = some (.slice e)) (he : e < 100000) (hz : esz P e = some (sz, by_)) {j : Nat} {u : Value} {l : List D}
   (hx : A6 σ x = .d (.raw u)) (hj : σ j = .hs u e l) {ds : List D} (hy : Z2 (A6 σ y) = some ds) (hw : ∀ z ∈ ds, C0 z = sz) (hb : (l.length + ds.length) * by_ <= 140737488355328) (h63 : l.length + ds.length <= 140737488355328)
   (h : ∀ A c, K (put (put σ j (.hs (.slice A (l ++ ds).length c) e (l ++ ds))) d (.d (.raw (.slice A (l ++ ds).length c))))) : o.wp P a w (D4 P w0 L0 row n K) Q := by
 have h3 : a.eval x = u := (H3 hR hx).raw_inv; have h4 := hR.slots j; rw [hj] at h4; have h4' : F0 P w L (O j) true e l u := h4; obtain ⟨v', w', L', og', touch, hrun, f1, f2, f3, f4, f5, f6⟩ := a7M (ty := o.type) he ht hz h4' hR.lok (fun g hg => (hR.olt j g hg).1) (a6s hR hy) hw hb h63; have hexec : (execOp a.eval o).run P w = .ok (.value v') w' := by
   simp only [execOp, ho, resolve, invoke, builtin, Sem.run_bind, Sem.run_pure, Result.andThen_ok, map_toArray, map_cons, map_nil, h3, hrun]
 have hj1 := hR.putOwn j (.hs v' e (l ++ ds)) (C6 a j) og' touch f2 (hR.grown.then f3 (fun g hg => (hR.olt j g (f5 g hg)).2)) f3.size f4 (fun g hg => (hR.olt j g (f5 g hg)).2) (fun i g hi hO e => hi (hR.inj i j g hO (f5 g e))) (fun g hg => by
   refine ⟨(f6 g hg).1, ?_, fun i hi e => ?_⟩
   . rcases (f6 g hg).2 with h9 | h9
     . exact (hR.olt j g h9).2
     . exact .inl (Nat.le_trans hR.grown.size h9)
   . rcases (f6 g hg).2 with h9 | h9
     . exact hi (hR.inj i j g e h9)
     . have := (hR.olt i g e).1; omega) f1
 rw [O0] at hj1; obtain ⟨A, c, rfl⟩ := f1.shape; exact J3 hd hlt hsz hdef hexec (hj1.putPure d (.d (.raw _)) _ (RepV.raw (by simp [Value.oneCell']) rfl)) (h A c)
theorem c0e {t t' e : Nat} {x y : Operand} (ho : o.op = .call { callee := .builtin .append, args := #[x, y], argTypes := #[t, t'] }) (hu : P.underlying t' = some .string) (ht : P.underlying t = some (.slice e)) (he : e < 100000) (hz : esz P e = some (1, 1)) {j : Nat} {m : Bool} {l : List D}
   (hx : A6 σ x = .bor j m e l) {st : Str} (hy : A6 σ y = .d (.str st)) (h63 : l.length + List.length st <= 140737488355328)
   (h : K (put (put σ j (left m l)) d (.own m e (l ++ B5 st)))) : o.wp P a w (D4 P w0 L0 row n K) Q := by
 have h1 := I7 hR x; rw [hx] at h1; obtain ⟨h2, h3⟩ := h1; have h4 := hR.slots j; rw [h2] at h4; have h4' : F0 P w L (O j) m e l (C6 a j) := h4; obtain ⟨v', w', L', og', touch, hrun, f1, f2, f3, f4, f5, f6⟩ := a7b (ty := o.type) he ht hu hz h4' hR.lok (fun g hg => (hR.olt j g hg).1) st h63; have hexec : (execOp a.eval o).run P w = .ok (.value v') w' := by
   simp only [execOp, ho, resolve, invoke, builtin, Sem.run_bind, Sem.run_pure, Result.andThen_ok, map_toArray, map_cons, map_nil, h3, (H3 hR hy).str_inv, hrun]
 have hj1 := hR.putPure j (left m l) (C6 a j) (F0.left_ok h4); rw [O0] at hj1; have hOj : ∀ g i, E4 O j none i = some g -> O i = some g /\ i ≠ j := by
   intro g i hi; simp only [E4] at hi; split at hi
   . cases hi
   . exact ⟨hi, by assumption⟩
 refine J3 hd hlt hsz hdef hexec (hj1.putOwn d (.own m e (l ++ B5 st)) v' og' touch f2 (hR.grown.then f3 (fun g hg => (hR.olt j g (f5 g hg)).2)) f3.size f4 (fun g hg => (hR.olt j g (f5 g hg)).2) (fun i g _ hO e => ?_) (fun g hg => ?_) f1) h
 . have := hOj g i hO; exact this.2 (hR.inj i j g this.1 (f5 g e))
 . refine ⟨(f6 g hg).1, ?_, fun i _ e => ?_⟩
   . rcases (f6 g hg).2 with h9 | h9
     . exact (hR.olt j g h9).2
     . exact .inl (Nat.le_trans hR.grown.size h9)
   . have := hOj g i e; rcases (f6 g hg).2 with h9 | h9
     . exact this.2 (hR.inj i j g this.1 h9)
     . have := (hR.olt i g this.1).1; omega
theorem a7D {t t' e : Nat} {x y : Operand} (ho : o.op = .call { callee := .builtin .append, args := #[x, y], argTypes := #[t, t'] }) (hu : P.underlying t' = some .string) (ht : P.underlying t = some (.slice e)) (he : e < 100000) (hz : esz P e = some (1, 1)) {j : Nat} {u : Value} {l : List D}
   (hx : A6 σ x = .d (.raw u)) (hj : σ j = .hs u e l) {st : Str} (hy : A6 σ y = .d (.str st)) (h63 : l.length + List.length st <= 140737488355328)
   (h : ∀ A c, K (put (put σ j (.hs (.slice A (l ++ B5 st).length c) e (l ++ B5 st))) d (.d (.raw (.slice A (l ++ B5 st).length c))))) : o.wp P a w (D4 P w0 L0 row n K) Q := by
 have h3 : a.eval x = u := (H3 hR hx).raw_inv; have h4 := hR.slots j; rw [hj] at h4; have h4' : F0 P w L (O j) true e l u := h4; obtain ⟨v', w', L', og', touch, hrun, f1, f2, f3, f4, f5, f6⟩ := a7b (ty := o.type) he ht hu hz h4' hR.lok (fun g hg => (hR.olt j g hg).1) st h63; have hexec : (execOp a.eval o).run P w = .ok (.value v') w' := by
   simp only [execOp, ho, resolve, invoke, builtin, Sem.run_bind, Sem.run_pure, Result.andThen_ok, map_toArray, map_cons, map_nil, h3, (H3 hR hy).str_inv, hrun]
 have hj1 := hR.putOwn j (.hs v' e (l ++ B5 st)) (C6 a j) og' touch f2 (hR.grown.then f3 (fun g hg => (hR.olt j g (f5 g hg)).2)) f3.size f4 (fun g hg => (hR.olt j g (f5 g hg)).2) (fun i g hi hO e => hi (hR.inj i j g hO (f5 g e))) (fun g hg => by
   refine ⟨(f6 g hg).1, ?_, fun i hi e => ?_⟩
   . rcases (f6 g hg).2 with h9 | h9
     . exact (hR.olt j g h9).2
     . exact .inl (Nat.le_trans hR.grown.size h9)
   . rcases (f6 g hg).2 with h9 | h9
     . exact hi (hR.inj i j g e h9)
     . have := (hR.olt i g e).1; omega) f1
 rw [O0] at hj1; obtain ⟨A, c, rfl⟩ := f1.shape; exact J3 hd hlt hsz hdef hexec (hj1.putPure d (.d (.raw _)) _ (RepV.raw (by simp [Value.oneCell']) rfl)) (h A c)
theorem b6C {t e sz by_ : Nat} {x y : Operand} (ho : o.op = .makeSlice t x y) (ht : P.underlying t = some (.slice e)) (he : e < 100000) (hz : esz P e = some (sz, by_)) {z : D} (hzd : E3 P e = some z) (hw : C0 z = sz) {p : Int}
   (hx : A6 σ x = .d (.int .i64 p)) (hy : A6 σ y = .d (.int .i64 p)) (h0 : 0 <= p) (hb : p * by_ <= 140737488355328) (h63 : p <= 140737488355328) (m : Bool) (h : K (put σ d (.own m e (replicate p.toNat z)))) :
   o.wp P a w (D4 P w0 L0 row n K) Q := by
 obtain ⟨i, zv, h1, h2, h3, h4, h5, h6⟩ := a0E hz; obtain ⟨v, hv, hr, _⟩ := a4N hzd w L; have hvz : v = zv := by
   simp only [zeroValue, typeInfo, Sem.run_bind, run_program, h1, h2, Sem.run_pure, Result.andThen_ok] at hv; simpa using hv.symm
 subst hvz; have hx1 := (H3 hR hx).int_inv; have hy1 := (H3 hR hy).int_inv; have hvs : v.cells.size = sz := by rw [<- Array.length_toList, Rep.len _ _ hr.1, hw]
 have hrl : A8 w L (replicate p.toNat z) (replicate p.toNat v.cells.toList) := by
   induction p.toNat with
   | zero => simp [A8]
   | succ k ih =>
     simp only [replicate_succ, A8]; exact ⟨_, _, rfl, hr.1, ih⟩
 have hcs : ∀ c ∈ replicate p.toNat v.cells.toList, c.length = sz := fun c hc => by rw [(mem_replicate.1 hc).2]; simpa using hvs
 have hbi : (i.bytes : Int) * p <= 281474976710656 := by rw [h4, Int.mul_comm]; omega
 have hrun := run_make (P := P) w t e i v ht h1 h2 .i64 .i64 p p h0 (Int.le_refl _) hbi (by omega); rw [h3] at hrun; have hfl := c1z v.cells hvs p.toNat; have hsize : (madeCells v.cells (p.toNat * sz)).size = p.toNat * sz := (by simp [madeCells]); have own := F0.new he (m := m) (cap := p.toNat) hz hR.lok hrl hcs hsize (by simp) (by unfold maxLen; omega) (by
   rw [length_replicate, <- hfl, take_of_length_le (by rw [Array.length_toList, hsize]; exact Nat.le_refl _)])
 rw [length_replicate] at own; refine J3 hd hlt hsz hdef (v := .slice (some ⟨w.heap.size, 0, none⟩) p.toNat p.toNat) (w' := w.alloc (.cells (madeCells v.cells (p.toNat * sz)) e)) ?_ (hR.putNew (.cells (madeCells v.cells (p.toNat * sz)) e) (if m then 0 else p.toNat * sz) d (.own m e (replicate p.toNat z)) _ own) h; simp only [execOp, ho, hx1, hy1, Sem.run_bind, hrun, Result.andThen_ok, Sem.run_pure]
theorem c3O {t t' : TypeId} {x y : Operand} (ho : o.op = .call { callee := .builtin .min, args := #[x, y], argTypes := #[t, t'] }) {k k' : IntKind} {p q : Int} (hx : A6 σ x = .d (.int k p)) (hy : A6 σ y = .d (.int k' q))
   (h : K (put σ d (.d (.int k (if q < p then q else p))))) : o.wp P a w (D4 P w0 L0 row n K) Q := by
 have hx1 := (H3 hR hx).int_inv; have hy1 := (H3 hR hy).int_inv; refine E6 hd hlt hsz hdef hR (x := .d (.int k (if q < p then q else p))) (v := .int k (if q < p then q else p)) ?_ RepV.int h; simp [execOp, ho, resolve, invoke, builtin, hx1, hy1, Builtin.min_, Builtin.min2]
end
end Go.Vw
namespace Go.Vw
open Go.RowKit
variable {P : Program} {w0 : World} {L0 : Nat -> Nat -> Prop} {row : Nat -> Prop} {n : Nat} {K : St -> Prop} {Q : Exit -> Act -> World -> Prop}
 {w w' : World} {L L' : Nat -> Nat -> Prop} {O O' : Nat -> Option Nat} {σ σ' : St} {a : Act} {o : Oper} {d : Nat} {v : Value} {tm : Nat -> Value}
theorem b3t : ∀ (st : Str), A8 w L (st.map fun c => .int .u8 c.toNat) (st.map fun c => [Value.int .u8 c.toNat])
 | [] => by simp [A8]
 | c :: st => by
   simp only [map_cons, A8]; exact ⟨_, _, rfl, by simp [Rep], b3t st⟩
section
variable (hd : o.dst = some d) (hlt : d < n) (hsz : a.tmps.size = n) (hdef : a.defers = []) (hR : Rel P w0 L0 row w L O σ (C6 a))
include hd hlt hsz hdef hR
theorem b9N {s t e : Nat} {x : Operand} (ho : o.op = .convert s t x) (hs : P.underlying s = some .string) (ht : P.underlying t = some (.slice e)) (hu : P.underlying e = some (.int .u8)) (hz : E5 P e = some 1)
   {st : Str} (hx : A6 σ x = .d (.str st)) (hn : st.length <= maxLen) (m : Bool) (h : K (put σ d (.own m (e + 100000) (st.map fun c => .int .u8 c.toNat)))) : o.wp P a w (D4 P w0 L0 row n K) Q := by
 have hx1 := (H3 hR hx).str_inv; have hrun := Lib.run_convert_string_bytes (P := P) w s t e ⟨st.toArray⟩ hs ht hu; have hS : H4 w L (Lib.bytesWorld w e ⟨st.toArray⟩) (R5 L w.heap.size (if m then 0 else st.length)) noB := {
   ext := fun b q hq => ⟨.inl hq, fun u hu => by rw [J4 (Lib.bytesWorld_at_old w e _ b (hR.lok b q hq))]; exact hu⟩
   heap := fun b hb _ => Lib.bytesWorld_at_old w e _ b hb
   lim := fun b q hb _ => ⟨fun hq => by
     rcases hq with hq | ⟨hq, _⟩
     . exact hq
     . omega, .inl⟩ }
 have hsize := Lib.bytesWorld_size w e ⟨st.toArray⟩; have hgr : F7 w0 (Lib.bytesWorld w e ⟨st.toArray⟩) row := ⟨hR.grown.os, hR.grown.tape, hR.grown.output, by rw [hsize]; have := hR.grown.size; omega, fun i hi hne => (Lib.bytesWorld_at_old w e _ i (Nat.lt_of_lt_of_le hi hR.grown.size)).trans (hR.grown.block i hi hne), Nat.le_trans hR.grown.drawn (by first | exact Nat.le_refl _ | exact Nat.le_succ _)⟩; refine J3 hd hlt hsz hdef (v := .slice (some ⟨w.heap.size, 0, none⟩) st.length (grownCap w st.length 0 e)) (w' := Lib.bytesWorld w e ⟨st.toArray⟩) ?_
   (hR.putOwn d (.own m (e + 100000) (st.map fun c => .int .u8 c.toNat)) _ (some w.heap.size) noB hS hgr (by rw [hsize]; omega) (fun b q hq => ?_) (fun _ h => h.elim) (fun _ _ _ _ h => h) (fun g hg => ?_) ?_) h
 . have hs2 : (⟨st.toArray⟩ : ByteArray).size = st.length := (by simp [ByteArray.size]); rw [hs2] at hrun; simp only [execOp, ho, hx1, Sem.run_bind, hrun, Result.andThen_ok, Sem.run_pure]
 . rw [hsize]; rcases hq with hq | ⟨hq, _⟩
   . have := hR.lok b q hq; omega
   . omega
 . simp only [Option.some.injEq] at hg; subst hg; exact ⟨by rw [hsize]; omega, .inl hR.grown.size, fun i hi e => by have := (hR.olt i _ e).1; omega⟩
 . have hety : ety (e + 100000) = e := (by simp [ety]); have hmk : ∀ k, mk (e + 100000) k = (k, k + 1) := fun k => by simp [mk]
   have hge := grownCap_ge w st.length 0 e; have hcs : (Lib.bytesCells w e ⟨st.toArray⟩).size = grownCap w st.length 0 e := by
     simp [Lib.bytesCells, ByteArray.size]; omega
   have hcl : (Lib.bytesCells w e ⟨st.toArray⟩).toList.take st.length = st.map fun c => Value.int .u8 c.toNat := by
     simp [Lib.bytesCells]
   have hfl : ∀ l : Str, (l.map fun c : UInt8 => [Value.int .u8 c.toNat]).flatten = l.map fun c => Value.int .u8 c.toNat := by
     intro l
     induction l with
     | nil => rfl
     | cons c l ih => simp only [map_cons, flatten_cons, ih]; rfl
   refine ⟨st.map fun c => [Value.int .u8 c.toNat], 1, by rw [hety]; exact hz, b3t st, ?_, ⟨?_, .inr ⟨w.heap.size, grownCap w st.length 0 e, Lib.bytesCells w e ⟨st.toArray⟩, ?_, by rw [hety, hmk]; exact Lib.bytesWorld_at_new w e _, ?_, ?_, ?_, ?_⟩⟩, ?_⟩
   . intro c hc; obtain ⟨b, _, rfl⟩ := mem_map.1 hc; rfl
   . rw [hfl]; simp
   . simp
   . simpa using hge
   . exact grownCap_le_maxLen w _ _ _ hn
   . rw [hcs, Nat.mul_one]; exact Nat.le_refl _
   . rw [hfl, length_map, Nat.mul_one]; exact hcl
   . intro g hg; have hg' : some w.heap.size = some g := hg; refine ⟨hg', fun q => ?_⟩; obtain rfl : w.heap.size = g := by simpa using hg'
     simp only [R5]; constructor
     . rintro (h9 | ⟨_, h9⟩)
       . have := hR.lok _ _ h9; omega
       . cases m <;> simp at h9 ⊢; exact h9
     . rintro ⟨rfl, h9⟩; exact .inr ⟨trivial, by simpa using h9⟩
theorem c4k {t : TypeId} {x : Operand} (ho : o.op = .range t x) (hu : P.underlying t = some .string) {st : Str} (hx : A6 σ x = .d (.str st)) (h : K (put σ d (.iter st 0))) : o.wp P a w (D4 P w0 L0 row n K) Q := by
 have hx1 := (H3 hR hx).str_inv; refine J3 hd hlt hsz hdef (v := ptr w.heap.size 0) (w' := w.alloc (.stringIter ⟨st.toArray⟩ 0)) ?_ (hR.putNew (.stringIter ⟨st.toArray⟩ 0) 0 d (.iter st 0) (ptr w.heap.size 0) ?_) h
 . simp [execOp, ho, hx1, run_range_string w t _ hu, ptr, World.iter]
 . exact ⟨w.heap.size, rfl, rfl, heap_alloc_new w _, fun q hq => by
     rcases hq with hq | hq
     . have := hR.lok _ _ hq; omega
     . omega⟩
theorem c5E {t : Nat} (ho : o.op = .next (.tmp t) true) {st : Str} {pos : Nat} (ht : σ t = .iter st pos)
   (h1 : pos < st.length -> K (put (put σ t (.iter st (pos + (Utf8.decode ⟨st.toArray⟩ pos).2))) d (.tup [.d (.bool true), .d (.int .i64 pos), .d (.int .i32 (Utf8.decode ⟨st.toArray⟩ pos).1)])))
   (h2 : ¬ pos < st.length -> K (put σ d (.tup [.d (.bool false)]))) : o.wp P a w (D4 P w0 L0 row n K) Q := by
 have hs := hR.slots t; rw [ht] at hs; obtain ⟨g, hO, hv, hg, hgL⟩ := hs; have he : a.eval (.tmp t) = ptr g 0 := hv; have hdom := hR.olt t g hO; have hsz2 : (⟨st.toArray⟩ : ByteArray).size = st.length := (by simp [ByteArray.size]); by_cases hp : pos < st.length
 . have hrun := Lib.run_next_any_at (P := P) w g ⟨st.toArray⟩ pos o.type hg (by rw [hsz2]; exact hp); have hS : H4 w L (w.iterAt g ⟨st.toArray⟩ (pos + (Utf8.decode ⟨st.toArray⟩ pos).2)) L (H1 (some g)) := {
     ext := fun b q hq => ⟨hq, fun u hu => by
       by_cases hb : b = g
       . subst hb; exact absurd hq (hgL q)
       . rw [J4 (Lib.iterAt_other w g b _ _ hb)]; exact hu⟩
     heap := fun b _ hne => Lib.iterAt_other w g b _ _ (fun e => hne (by rw [e]; rfl))
     lim := fun b q _ _ => Iff.rfl }
   have hR1 := hR.putOwn t (.iter st (pos + (Utf8.decode ⟨st.toArray⟩ pos).2)) (C6 a t) (some g) (H1 (some g)) hS
     (hR.grown.then (w' := w.iterAt g ⟨st.toArray⟩ (pos + (Utf8.decode ⟨st.toArray⟩ pos).2)) (touch := H1 (some g)) ⟨rfl, rfl, rfl, by rw [Lib.iterAt_size]; exact Nat.le_refl _, fun b _ hne => Lib.iterAt_other w g b _ _ (fun e => hne (by rw [e]; rfl)), Nat.le_refl _⟩ (fun b hb => by obtain rfl : g = b := (by simpa [H1] using hb); exact hdom.2))
     (by rw [Lib.iterAt_size]; exact Nat.le_refl _) (fun b q hq => by rw [Lib.iterAt_size]; exact hR.lok b q hq) (fun b hb => by obtain rfl : g = b := (by simpa [H1] using hb); exact hdom.2)
     (fun i b hi hb e => by obtain rfl : g = b := (by simpa [H1] using e); exact hi (hR.inj i t g hb hO))
     (fun b hb => by obtain rfl : g = b := (by simpa using hb); exact ⟨by rw [Lib.iterAt_size]; exact hdom.1, hdom.2, fun i hi e => hi (hR.inj i t g e hO)⟩)
     ⟨g, rfl, hv, Lib.iterAt_heap w g _ _ _ hg, hgL⟩
   rw [O0] at hR1; refine J3 hd hlt hsz hdef (v := .tuple #[.bool true, .int .i64 pos, .int .i32 (Utf8.decode ⟨st.toArray⟩ pos).1]) (w' := w.iterAt g ⟨st.toArray⟩ (pos + (Utf8.decode ⟨st.toArray⟩ pos).2)) ?_ (hR1.putPure d _ _ ?_) (h1 hp)
   . have : (ptr g 0) = .pointer (some ⟨g, 0, none⟩) := rfl; simp only [execOp, ho, he, this, hrun, Sem.run_bind, Result.andThen_ok, Sem.run_pure]
   . exact ⟨[.bool true, .int .i64 pos, .int .i32 (Utf8.decode ⟨st.toArray⟩ pos).1], rfl, _, _, rfl, RepV.bool, _, _, rfl, RepV.int, _, _, rfl, RepV.int, rfl⟩
 . have hrun := Lib.run_next_end_at (P := P) w g ⟨st.toArray⟩ pos o.type hg (by rw [hsz2]; exact hp); refine J3 hd hlt hsz hdef (v := .tuple #[.bool false]) (w' := w) ?_ (hR.putPure d _ _ ?_) (h2 hp)
   . have : (ptr g 0) = .pointer (some ⟨g, 0, none⟩) := rfl; simp only [execOp, ho, he, this, hrun, Sem.run_bind, Result.andThen_ok, Sem.run_pure]
   . exact ⟨[.bool false], rfl, _, _, rfl, RepV.bool, rfl⟩
end
end Go.Vw