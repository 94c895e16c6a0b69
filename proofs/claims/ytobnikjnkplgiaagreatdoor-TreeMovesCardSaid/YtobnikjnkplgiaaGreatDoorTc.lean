/-
  What the functions that the statements about layer 10 (tree) reach compute, part 3 of 5: contracts and plain laws, for lists and strings of bounded size (each theorem states its bound).
-/
import Derived.Shelf.SlLaysM
import Derived.Shelf.SlLaysF
import Derived.Shelf.SlLaysF0
import Derived.Shelf.SlLaysN
import Derived.Shelf.SlGeneric
import Derived.Ground.SlgmProg
import Derived.Ground.SlgnProg
import Derived.Ground.SlsfProg
import Derived.Test.YtobnikjnkplgiaaGreatDoorProg
import Derived.Test.YtobnikjnkplgiaaGreatDoorTb
import Derived.Test.YtobnikjnkplgiaaGreatDoorWc
import Derived.Test.YtobnikjnkplgiaaGreatDoorTa
import Derived.Shelf.SlSortCmp.NoneTotal

set_option linter.unusedSimpArgs false
set_option linter.unusedVariables false

/-
  DERIVED: THE SHELF's CONTRACTS AT THIS DUMP, IN PLAIN WORDS (tools/lay-plain.mjs out of 'TrShP.lean', which tools/lay-shelf.mjs wrote): THE SAME DECLARATIONS UNDER THE SAME NAMES: 'import', 'namespace', 'open', 'def', 'theorem' AND NOTHING ELSE: no command of the shelf's: FOR A HAND-IN. Each laying: the table of numbers ('.._ren') and one theorem, a field a fact of the dump's own or the kernel's comparison; each contract: ONE APPLICATION.
-/
namespace Go.Proofs
open Go.Shelf
def Tryz.layT_ren : Go.Shelf.Ren := ⟨fun | 6 => 72 | 15 => 92 | 14 => 91 | 28 => 122 | 29 => 123 | 20 => 114 | 21 => 115 | 22 => 116 | 23 => 117 | 24 => 118 | 25 => 119 | 26 => 120 | 27 => 121 | 46 => 151 | 47 => 152 | 48 => 153 | 49 => 154 | 50 => 155 | 57 => 168 | n => n, fun | 22 => 22 | 24 => 9 | 25 => 48 | 3 => 3 | 39 => 103 | 0 => 0 | 53 => 131 | 55 => 133 | 4 => 4 | 46 => 124 | 45 => 123 | 50 => 128 | 5 => 5 | 9 => 9 | 66 => 147 | 70 => 151 | 76 => 161 | 77 => 162 | n => n, fun | n => n⟩
theorem Tryz.layT : Go.Proofs.SlLaysF.n6 Tryz.prog Tryz.layT_ren := {
  mixed := by kernel_rfl
  f6 := ⟨Tryz.f72.name, by decide, Tryz.func72.trans (congrArg some (by kernel_rfl))⟩
  f14 := ⟨Tryz.f91.name, by decide, Tryz.func91.trans (congrArg some (by kernel_rfl))⟩
  f15 := Tryz.func92.trans (congrArg some (by kernel_rfl))
  f20 := ⟨Tryz.f114.name, by decide, Tryz.func114.trans (congrArg some (by kernel_rfl))⟩
  f21 := ⟨Tryz.f115.name, by decide, Tryz.func115.trans (congrArg some (by kernel_rfl))⟩
  f22 := ⟨Tryz.f116.name, by decide, Tryz.func116.trans (congrArg some (by kernel_rfl))⟩
  f23 := ⟨Tryz.f117.name, by decide, Tryz.func117.trans (congrArg some (by kernel_rfl))⟩
  f24 := ⟨Tryz.f118.name, by decide, Tryz.func118.trans (congrArg some (by kernel_rfl))⟩
  f25 := ⟨Tryz.f119.name, by decide, Tryz.func119.trans (congrArg some (by kernel_rfl))⟩
  f26 := ⟨Tryz.f120.name, by decide, Tryz.func120.trans (congrArg some (by kernel_rfl))⟩
  f27 := ⟨Tryz.f121.name, by decide, Tryz.func121.trans (congrArg some (by kernel_rfl))⟩
  f28 := Tryz.func122.trans (congrArg some (by kernel_rfl))
  f29 := Tryz.func123.trans (congrArg some (by kernel_rfl))
  f46 := ⟨Tryz.f151.name, by decide, Tryz.func151.trans (congrArg some (by kernel_rfl))⟩
  f47 := Tryz.func152.trans (congrArg some (by kernel_rfl))
  f48 := Tryz.func153.trans (congrArg some (by kernel_rfl))
  f49 := ⟨Tryz.f154.name, by decide, Tryz.func154.trans (congrArg some (by kernel_rfl))⟩
  f50 := ⟨Tryz.f155.name, by decide, Tryz.func155.trans (congrArg some (by kernel_rfl))⟩
  f57 := ⟨Tryz.f168.name, by decide, Tryz.func168.trans (congrArg some (by kernel_rfl))⟩
  t0 := Tryz.underlying0
  a0 := Tryz.isAgg0
  z0 := Tryz.sizeOf0
  v0 := Tryz.zeroValue0
  t3 := Tryz.underlying3
  a3 := Tryz.isAgg3
  z3 := Tryz.sizeOf3
  v3 := Tryz.zeroValue3
  t4 := Tryz.underlying4
  a4 := Tryz.isAgg4
  z4 := Tryz.sizeOf4
  v4 := Tryz.zeroValue4
  t5 := Tryz.underlying5
  a5 := Tryz.isAgg5
  z5 := Tryz.sizeOf5
  v5 := Tryz.zeroValue5
  t9 := Tryz.underlying9
  a9 := Tryz.isAgg9
  z9 := Tryz.sizeOf9
  v9 := Tryz.zeroValue9
  t22 := Tryz.underlying22
  a22 := Tryz.isAgg22
  z22 := Tryz.sizeOf22
  v22 := Tryz.zeroValue22
  a24 := Tryz.isAgg9
  z24 := Tryz.sizeOf9
  t25 := Tryz.underlying48
  a25 := Tryz.isAgg48
  z25 := Tryz.sizeOf48
  v25 := Tryz.zeroValue48
  t39 := Tryz.underlying103
  a39 := Tryz.isAgg103
  z39 := Tryz.sizeOf103
  v39 := Tryz.zeroValue103
  t45 := Tryz.underlying123
  a45 := Tryz.isAgg123
  z45 := Tryz.sizeOf123
  v45 := Tryz.zeroValue123
  t46 := Tryz.underlying124
  a46 := Tryz.isAgg124
  z46 := Tryz.sizeOf124
  v46 := Tryz.zeroValue124
  t50 := Tryz.underlying128
  a50 := Tryz.isAgg128
  z50 := Tryz.sizeOf128
  v50 := Tryz.zeroValue128
  t53 := Tryz.underlying131
  a53 := Tryz.isAgg131
  z53 := Tryz.sizeOf131
  v53 := Tryz.zeroValue131
  t55 := Tryz.underlying133
  a55 := Tryz.isAgg133
  z55 := Tryz.sizeOf133
  v55 := Tryz.zeroValue133
  t66 := Tryz.underlying147
  a66 := Tryz.isAgg147
  z66 := Tryz.sizeOf147
  v66 := Tryz.zeroValue147
  t70 := Tryz.underlying151
  a70 := Tryz.isAgg151
  z70 := Tryz.sizeOf151
  v70 := Tryz.zeroValue151
  t76 := Tryz.underlying161
  a76 := Tryz.isAgg161
  z76 := Tryz.sizeOf161
  v76 := Tryz.zeroValue161
  t77 := Tryz.underlying162
  a77 := Tryz.isAgg162
  z77 := Tryz.sizeOf162
  v77 := Tryz.zeroValue162 }
def Tryz.layU_ren : Go.Shelf.Ren := ⟨fun | 6 => 72 | 15 => 92 | 14 => 91 | 28 => 122 | 29 => 123 | 20 => 114 | 21 => 115 | 22 => 116 | 23 => 117 | 24 => 118 | 25 => 119 | 26 => 120 | 27 => 121 | 46 => 151 | 47 => 152 | 48 => 153 | 49 => 154 | 50 => 155 | 57 => 168 | n => n, fun | 22 => 22 | 24 => 9 | 25 => 48 | 3 => 3 | 39 => 103 | 0 => 0 | 53 => 131 | 55 => 133 | 4 => 4 | 46 => 124 | 45 => 123 | 50 => 128 | 5 => 5 | 9 => 9 | 66 => 147 | 70 => 151 | 76 => 161 | 77 => 162 | n => n, fun | n => n⟩
theorem Tryz.layU : Go.Proofs.SlLaysF0.n6 Tryz.prog Tryz.layU_ren := {
  mixed := by kernel_rfl
  f6 := ⟨Tryz.f72.name, by decide, Tryz.func72.trans (congrArg some (by kernel_rfl))⟩
  f14 := ⟨Tryz.f91.name, by decide, Tryz.func91.trans (congrArg some (by kernel_rfl))⟩
  f15 := Tryz.func92.trans (congrArg some (by kernel_rfl))
  f20 := ⟨Tryz.f114.name, by decide, Tryz.func114.trans (congrArg some (by kernel_rfl))⟩
  f21 := ⟨Tryz.f115.name, by decide, Tryz.func115.trans (congrArg some (by kernel_rfl))⟩
  f22 := ⟨Tryz.f116.name, by decide, Tryz.func116.trans (congrArg some (by kernel_rfl))⟩
  f23 := ⟨Tryz.f117.name, by decide, Tryz.func117.trans (congrArg some (by kernel_rfl))⟩
  f24 := ⟨Tryz.f118.name, by decide, Tryz.func118.trans (congrArg some (by kernel_rfl))⟩
  f25 := ⟨Tryz.f119.name, by decide, Tryz.func119.trans (congrArg some (by kernel_rfl))⟩
  f26 := ⟨Tryz.f120.name, by decide, Tryz.func120.trans (congrArg some (by kernel_rfl))⟩
  f27 := ⟨Tryz.f121.name, by decide, Tryz.func121.trans (congrArg some (by kernel_rfl))⟩
  f28 := Tryz.func122.trans (congrArg some (by kernel_rfl))
  f29 := Tryz.func123.trans (congrArg some (by kernel_rfl))
  f46 := ⟨Tryz.f151.name, by decide, Tryz.func151.trans (congrArg some (by kernel_rfl))⟩
  f47 := Tryz.func152.trans (congrArg some (by kernel_rfl))
  f48 := Tryz.func153.trans (congrArg some (by kernel_rfl))
  f49 := ⟨Tryz.f154.name, by decide, Tryz.func154.trans (congrArg some (by kernel_rfl))⟩
  f50 := ⟨Tryz.f155.name, by decide, Tryz.func155.trans (congrArg some (by kernel_rfl))⟩
  f57 := ⟨Tryz.f168.name, by decide, Tryz.func168.trans (congrArg some (by kernel_rfl))⟩
  t0 := Tryz.underlying0
  a0 := Tryz.isAgg0
  z0 := Tryz.sizeOf0
  v0 := Tryz.zeroValue0
  t3 := Tryz.underlying3
  a3 := Tryz.isAgg3
  z3 := Tryz.sizeOf3
  v3 := Tryz.zeroValue3
  t4 := Tryz.underlying4
  a4 := Tryz.isAgg4
  z4 := Tryz.sizeOf4
  v4 := Tryz.zeroValue4
  t5 := Tryz.underlying5
  a5 := Tryz.isAgg5
  z5 := Tryz.sizeOf5
  v5 := Tryz.zeroValue5
  t9 := Tryz.underlying9
  a9 := Tryz.isAgg9
  z9 := Tryz.sizeOf9
  v9 := Tryz.zeroValue9
  t22 := Tryz.underlying22
  a22 := Tryz.isAgg22
  z22 := Tryz.sizeOf22
  v22 := Tryz.zeroValue22
  t25 := Tryz.underlying48
  a25 := Tryz.isAgg48
  z25 := Tryz.sizeOf48
  v25 := Tryz.zeroValue48
  t39 := Tryz.underlying103
  a39 := Tryz.isAgg103
  z39 := Tryz.sizeOf103
  v39 := Tryz.zeroValue103
  t45 := Tryz.underlying123
  a45 := Tryz.isAgg123
  z45 := Tryz.sizeOf123
  v45 := Tryz.zeroValue123
  t46 := Tryz.underlying124
  a46 := Tryz.isAgg124
  z46 := Tryz.sizeOf124
  v46 := Tryz.zeroValue124
  t50 := Tryz.underlying128
  a50 := Tryz.isAgg128
  z50 := Tryz.sizeOf128
  v50 := Tryz.zeroValue128
  t53 := Tryz.underlying131
  a53 := Tryz.isAgg131
  z53 := Tryz.sizeOf131
  v53 := Tryz.zeroValue131
  t55 := Tryz.underlying133
  a55 := Tryz.isAgg133
  z55 := Tryz.sizeOf133
  v55 := Tryz.zeroValue133
  t66 := Tryz.underlying147
  a66 := Tryz.isAgg147
  z66 := Tryz.sizeOf147
  v66 := Tryz.zeroValue147
  t70 := Tryz.underlying151
  a70 := Tryz.isAgg151
  z70 := Tryz.sizeOf151
  v70 := Tryz.zeroValue151
  t76 := Tryz.underlying161
  a76 := Tryz.isAgg161
  z76 := Tryz.sizeOf161
  v76 := Tryz.zeroValue161
  t77 := Tryz.underlying162
  a77 := Tryz.isAgg162
  z77 := Tryz.sizeOf162
  v77 := Tryz.zeroValue162 }
end Go.Proofs

/- The tree of entries: its plain law, first part: names, lists in order. -/
set_option linter.unusedSimpArgs false
set_option linter.unusedVariables false
namespace Go.Proofs.Tz
open Go.Vw Go.RowKit Go.Proofs Go.Sort

/-! ### names -/
theorem valid_norm {s : Str} : validU s = true ↔ ∃ l, normU s = some l := by
  unfold validU
  rw [Option.isSome_iff_exists]
theorem norm_nil : normU [] = some [] := by decide
theorem norm_ne {s : Str} {l : List Pair} (h : normU s = some l) : s = [] ↔ l = [] := by
  constructor
  · rintro rfl; rw [norm_nil] at h; simpa using h.symm
  · rintro rfl; exact normU_inj h norm_nil
theorem fmtC_len {p : Pair} (h : NP p) : (fmtC p).length ≤ 577 := by
  obtain ⟨h1, h2⟩ := compU_ok h
  simp only [nameB, cleanB, Bool.and_eq_true, decide_eq_true_eq] at h1 h2
  have e1 : (escV (foldS p.2)).length ≤ 2 * (foldS p.2).length := by
    unfold escV
    generalize foldS p.2 = s
    induction s with
    | nil => simp
    | cons c s ih =>
      rw [List.flatMap_cons, List.length_append, List.length_cons]
      have : (if specB c = true then [92, c] else [c]).length ≤ 2 := by split <;> simp
      omega
  have e2 : (foldS p.2).length ≤ p.2.length := by
    have hq : ∀ (s : Str) (c : UInt8), (sqz c s).length ≤ s.length := by
      intro s
      induction s with
      | nil => intro c; simp [sqz]
      | cons x s ih =>
        intro c
        simp only [sqz]
        have := ih x
        split <;> simp <;> omega
    unfold foldS
    have h3 := hq (lower (trimB p.2)) 0
    have h4 : (lower (trimB p.2)).length = (trimB p.2).length := by simp [lower]
    have h5 : (trimB p.2).length ≤ p.2.length := trimB_len p.2
    omega
  have e3 : (lower p.1).length = p.1.length := by simp [lower]
  simp only [fmtC, List.length_append, List.length_cons]
  omega
theorem valid_len {s : Str} (h : validU s = true) : s.length ≤ 5000 := by
  obtain ⟨l, hl⟩ := valid_norm.1 h
  obtain ⟨h1, h8, hs, _⟩ := normU_inv hl
  have key : ∀ l : List Pair, (∀ p ∈ l, NP p) → (joinB 44 (l.map fmtC)).length ≤ l.length * 578 := by
    intro l
    induction l with
    | nil => intro _; simp [joinB]
    | cons p l ih =>
      intro h
      have hp := fmtC_len (h p (by simp))
      have ih := ih (fun q hq => h q (by simp [hq]))
      cases l with
      | nil => simp [joinB]; omega
      | cons q l =>
        simp only [List.map_cons, joinB, List.length_append, List.length_cons] at ih ⊢
        omega
  have := key l h1
  rw [← hs] at this
  omega
theorem parent_norm {s : Str} {p : Pair} {l : List Pair} (h : normU s = some (p :: l)) : ∃ t, parentU s = (t, true) ∧ normU t = some l := by
  have h8 := (normU_inv h).2.1
  have ha := normU_app h h (n := l) (fun q hq => .inl (by simp [hq])) (by simp at h8; omega)
  refine ⟨_, ?_, ha.2⟩
  unfold parentU
  rw [h]
  simp only [ha.1]
theorem parent_ok {s : Str} : (parentU s).2 = true ↔ ∃ p l, normU s = some (p :: l) := by
  unfold parentU
  split
  · rename_i p l h; exact ⟨fun _ => ⟨p, l, h⟩, fun _ => rfl⟩
  · rename_i h
    constructor
    · intro h2; cases h2
    · rintro ⟨p, l, h2⟩; exact absurd h2 (h p l)
theorem under_iff {s b : Str} : underU s b = true ↔ ∃ l m, normU s = some l ∧ normU b = some m ∧ m <:+ l := by
  unfold underU
  split
  · rename_i l m h1 h2
    rw [show (decide (m.length ≤ l.length) && decide (l.drop (l.length - m.length) = m)) = sufB l m from rfl, sufB_iff]
    constructor
    · intro h; exact ⟨l, m, h1, h2, h⟩
    · rintro ⟨l', m', e1, e2, h⟩
      rw [h1] at e1; rw [h2] at e2
      cases e1; cases e2
      exact h
  · rename_i h
    constructor
    · intro h2; cases h2
    · rintro ⟨l, m, h1, h2, _⟩; exact absurd h2 (h l m h1)
theorem under_self {s : Str} (h : validU s = true) : underU s s = true := by
  obtain ⟨l, hl⟩ := valid_norm.1 h
  exact under_iff.2 ⟨l, l, hl, hl, List.suffix_refl l⟩
theorem under_trans {a b c : Str} (h1 : underU a b = true) (h2 : underU b c = true) : underU a c = true := by
  obtain ⟨l, m, e1, e2, s1⟩ := under_iff.1 h1
  obtain ⟨m', n, e3, e4, s2⟩ := under_iff.1 h2
  rw [e2] at e3; cases e3
  exact under_iff.2 ⟨l, n, e1, e4, s2.trans s1⟩
theorem under_valid {a b : Str} (h : underU a b = true) : validU a = true ∧ validU b = true := by
  obtain ⟨l, m, e1, e2, _⟩ := under_iff.1 h
  exact ⟨valid_norm.2 ⟨l, e1⟩, valid_norm.2 ⟨m, e2⟩⟩
theorem under_nil {s : Str} : underU s [] = validU s := by
  rw [Bool.eq_iff_iff]
  constructor
  · intro h; exact (under_valid h).1
  · intro h
    obtain ⟨l, hl⟩ := valid_norm.1 h
    exact under_iff.2 ⟨l, [], hl, norm_nil, List.nil_suffix⟩
/-- A rename. -/
theorem rebase_norm {s fr to : Str} {k m n : List Pair} (h1 : normU s = some (k ++ m)) (h2 : normU fr = some m) (h3 : normU to = some n) :
    (k.length + n.length ≤ 8 → ∃ t, rebaseU s fr to = (t, 0) ∧ normU t = some (k ++ n)) ∧ (8 < k.length + n.length → rebaseU s fr to = ([], 3)) := by
  have hsuf : sufB (k ++ m) m = true := sufB_iff.2 (List.suffix_append k m)
  have htk : (k ++ m).take ((k ++ m).length - m.length) = k := by simp
  have hnp : ∀ p ∈ k ++ n, NP p := fun p hp => by
    rcases List.mem_append.1 hp with hp | hp
    · exact (normU_inv h1).1 p (List.mem_append_left _ hp)
    · exact (normU_inv h3).1 p hp
  have hrb : rebaseU s fr to = formatU (k ++ n) := by
    unfold rebaseU
    rw [h1, h2, h3]
    simp only [hsuf, if_true, htk]
  constructor
  · intro h8
    have ha := normU_of hnp (by simpa using h8)
    exact ⟨_, by rw [hrb]; exact ha.1, ha.2⟩
  · intro h8
    rw [hrb]
    have hE : pairsE (k ++ n) = 0 := pairsE_zero.2 fun p hp => (hnp p hp).pairE
    have hc : checkU (k ++ n) = 3 := by rw [checkU, if_pos hE, if_pos (by simpa using h8)]
    rw [formatU, hc]; rfl
theorem under_parts {s b : Str} (h : underU s b = true) : ∃ k m, normU s = some (k ++ m) ∧ normU b = some m := by
  obtain ⟨l, m, e1, e2, t, rfl⟩ := under_iff.1 h
  exact ⟨t, m, e1, e2⟩
theorem depth_norm {s : Str} {l : List Pair} (h : normU s = some l) : depthU s = l.length := by simp [depthU, h]

/-! ### lists of entries in the order of names -/
abbrev Ent := Str × List Att
def keysE (E : List Ent) : List Str := E.map (·.1)
def hasE (E : List Ent) (s : Str) : Bool := E.any fun e => decide (e.1 = s)
def getE (E : List Ent) (s : Str) : Option (List Att) := (E.find? fun e => decide (e.1 = s)).map (·.2)
def insE (e : Ent) : List Ent → List Ent
  | [] => [e]
  | x :: l => if 0 < cmpN x.1 e.1 then e :: x :: l else x :: insE e l
def delE (E : List Ent) (s : Str) : List Ent := E.filter fun e => !decide (e.1 = s)
def OrdE (E : List Ent) : Prop := NS (keysE E)
theorem hasE_iff {E : List Ent} {s : Str} : hasE E s = true ↔ s ∈ keysE E := by simp [hasE, keysE]
theorem getE_mem {E : List Ent} (h : OrdE E) {e : Ent} (he : e ∈ E) : getE E e.1 = some e.2 := by
  induction E with
  | nil => simp at he
  | cons x l ih =>
    have hn := List.nodup_cons.1 (NS.nodup h)
    rcases List.mem_cons.1 he with rfl | he
    · simp [getE]
    · have hne : ¬ x.1 = e.1 := fun q => hn.1 (List.mem_map.2 ⟨e, he, q.symm⟩)
      have := ih (List.pairwise_cons.1 h).2 he
      simp only [getE, List.find?_cons, hne, decide_false] at this ⊢
      exact this
theorem getE_none {E : List Ent} {s : Str} (h : hasE E s = false) : getE E s = none := by
  simp only [getE, Option.map_eq_none_iff, List.find?_eq_none, decide_eq_true_eq]
  intro e he q
  have : hasE E s = true := hasE_iff.2 (List.mem_map.2 ⟨e, he, q⟩)
  rw [h] at this; cases this
theorem insE_perm (e : Ent) : ∀ E : List Ent, (insE e E).Perm (e :: E)
  | [] => .refl _
  | x :: l => by
    rw [insE]
    split
    · exact .refl _
    · exact ((insE_perm e l).cons x).trans (.swap _ _ _)
theorem insE_mem {e x : Ent} {E : List Ent} : x ∈ insE e E ↔ x = e ∨ x ∈ E := by rw [(insE_perm e E).mem_iff]; simp
theorem insE_keys {e : Ent} {E : List Ent} {s : Str} : s ∈ keysE (insE e E) ↔ s = e.1 ∨ s ∈ keysE E := by
  unfold keysE
  rw [((insE_perm e E).map _).mem_iff]; simp
theorem insE_ord {e : Ent} : ∀ {E : List Ent}, OrdE E → e.1 ∉ keysE E → OrdE (insE e E)
  | [], _, _ => by simp [OrdE, NS, insE, keysE]
  | x :: l, h, hn => by
    have hp := List.pairwise_cons.1 h
    have hne : cmpN x.1 e.1 ≠ 0 := fun q => hn (by rw [← cmpN_zero.1 q]; simp [keysE])
    rw [insE]
    split
    · rename_i hc
      have hxe : cmpN e.1 x.1 < 0 := by rw [cmpN_swap x.1 e.1]; omega
      refine List.pairwise_cons.2 ⟨fun y hy => ?_, h⟩
      rcases List.mem_cons.1 hy with rfl | hy
      · exact hxe
      · exact cmpN_trans hxe (hp.1 y hy)
    · rename_i hc
      refine List.pairwise_cons.2 ⟨fun y hy => ?_, insE_ord hp.2 (fun q => hn (by simp [keysE] at q ⊢; exact .inr q))⟩
      rcases insE_keys.1 hy with rfl | hy
      · show cmpN x.1 e.1 < 0
        omega
      · exact hp.1 y hy
theorem OrdE.ext {A B : List Ent} (ha : OrdE A) (hb : OrdE B) (h : A.Perm B) : A = B := by
  refine h.eq_of_pairwise (le := fun x y : Ent => cmpN x.1 y.1 < 0) (fun x y _ _ h1 h2 => ?_) (List.pairwise_map.1 ha) (List.pairwise_map.1 hb)
  have := cmpN_trans h1 h2
  rw [cmpN_self] at this; omega
theorem OrdE.filter {E : List Ent} (h : OrdE E) (f : Ent → Bool) : OrdE (E.filter f) := (List.Pairwise.sublist (List.filter_sublist.map _) h)
theorem foldIns_perm : ∀ (L E : List Ent), (L.foldl (fun E e => insE e E) E).Perm (L ++ E)
  | [], E => .refl _
  | e :: L, E => by
    rw [List.foldl_cons]
    refine (foldIns_perm L _).trans ?_
    refine ((insE_perm e E).append_left L).trans ?_
    simp only [List.cons_append]
    exact List.perm_middle
theorem foldIns_ord : ∀ {L E : List Ent}, OrdE E → (keysE L).Nodup → (∀ e ∈ L, e.1 ∉ keysE E) → OrdE (L.foldl (fun E e => insE e E) E)
  | [], E, h, _, _ => h
  | e :: L, E, h, hn, hd => by
    rw [List.foldl_cons]
    have hn' := List.nodup_cons.1 hn
    refine foldIns_ord (insE_ord h (hd e (by simp))) hn'.2 (fun x hx q => ?_)
    rcases insE_keys.1 q with q | q
    · exact hn'.1 (List.mem_map.2 ⟨x, hx, q⟩)
    · exact hd x (by simp [hx]) q

/-- Names that were collected in some order, sorted. -/
theorem swo_names : SWO (ltOf cmpN) where
  irrefl x := by simp [ltOf, cmpN_self]
  trans x y z h1 h2 := by
    simp only [ltOf, decide_eq_true_eq] at *
    exact cmpN_trans h1 h2
  ntrans x y z h1 h2 := by
    simp only [ltOf, decide_eq_false_iff_not] at *
    intro h3
    have hs1 := cmpN_swap x y
    have hs2 := cmpN_swap y z
    have key : cmpN z x < 0 ∨ z = x := by
      by_cases e1 : cmpN z y = 0
      · have e1' := cmpN_zero.1 e1
        subst e1'
        by_cases e2 : cmpN z x = 0
        · exact .inr (cmpN_zero.1 e2)
        · exact .inl (by omega)
      · by_cases e2 : cmpN y x = 0
        · have e2' := cmpN_zero.1 e2
          subst e2'
          exact .inl (by omega)
        · exact .inl (cmpN_trans (by omega : cmpN z y < 0) (by omega))
    rcases key with h | rfl
    · have := cmpN_trans h h3
      rw [cmpN_self] at this; omega
    · rw [cmpN_self] at h3; omega
end Go.Proofs.Tz

/- The tree of entries: its plain law, second part: calls, and what stays true. -/
set_option linter.unusedSimpArgs false
set_option linter.unusedVariables false
namespace Go.Proofs.Tz
open Go.Vw Go.RowKit Go.Proofs Go.Sort

def properU (s : Str) : Bool := !decide (s = []) && validU s
def parentedE (E : List Ent) (s : Str) : Bool := (parentU s).2 && hasE E (parentU s).1
def kidsE (E : List Ent) (s : Str) : List Str := (keysE E).filter fun x => (parentU x).2 && decide ((parentU x).1 = s)
def subE (E : List Ent) (b : Str) : List Ent := E.filter fun e => decide (b = []) || underU e.1 b
def childrenE (E : List Ent) (s : Str) : List Str := if s ≠ [] ∧ hasE E s = false then [] else kidsE E s
def subtreeE (E : List Ent) (b : Str) : List Ent := if b ≠ [] ∧ hasE E b = false then [] else subE E b
def addE (E : List Ent) (n : Str) (a : List Att) : List Ent × Int :=
  if properU n = false then (E, 5) else if hasE E n = true then (E, 7) else if parentedE E n = false then (E, 6) else if 256 ≤ E.length then (E, 3) else (insE (n, sortedL a) E, 0)
def putE (E : List Ent) (n : Str) (a : List Att) : List Ent × Int :=
  if hasE E n = false then (E, 6) else (insE (n, sortedL a) (delE E n), 0)
def deleteE (E : List Ent) (s : Str) : List Ent × Int :=
  if hasE E s = false then (E, 6) else if depthU s = 1 ∨ kidsE E s ≠ [] then (E, 12) else (delE E s, 0)
def deepE (E : List Ent) (fr to : Str) : Bool := (subE E fr).any fun e => decide ((8 : Int) < depthU e.1 - depthU fr + depthU to)
def obsE (E : List Ent) (fr to : Str) : Int :=
  if hasE E fr = false then 6 else if properU to = false then 5 else if hasE E to = true then 7 else if underU to fr = true then 28 else if parentedE E to = false then 6 else if depthU fr = 1 then 12 else if deepE E fr to = true then 3 else 0
def renU (fr to s : Str) : Str := if underU s fr = true then (rebaseU s fr to).1 else s
def movedE (E : List Ent) (fr to : Str) : List Ent := ((subE E fr).map fun e => ((rebaseU e.1 fr to).1, e.2)).foldl (fun E e => insE e E) (E.filter fun e => !underU e.1 fr)
def moveE (E : List Ent) (fr to : Str) : List Ent × Int := if obsE E fr to = 0 then (movedE E fr to, 0) else (E, obsE E fr to)

/-- What is true of a tree. -/
structure TI (E : List Ent) : Prop where
  ord : OrdE E
  proper : ∀ e ∈ E, properU e.1 = true
  normal : ∀ e ∈ E, sortedL e.2 = e.2
  linked : ∀ e ∈ E, depthU e.1 ≠ 1 → hasE E (parentU e.1).1 = true
  few : E.length ≤ 256

theorem proper_norm {s : Str} (h : properU s = true) : ∃ p l, normU s = some (p :: l) := by
  simp only [properU, Bool.and_eq_true, Bool.not_eq_true', decide_eq_false_iff_not] at h
  obtain ⟨l, hl⟩ := valid_norm.1 h.2
  cases l with
  | nil => exact absurd ((norm_ne hl).2 rfl) h.1
  | cons p l => exact ⟨p, l, hl⟩
theorem proper_of {s : Str} {l : List Pair} (h : normU s = some l) (hl : l ≠ []) : properU s = true := by
  simp only [properU, Bool.and_eq_true, Bool.not_eq_true', decide_eq_false_iff_not]
  exact ⟨fun e => hl ((norm_ne h).1 e), valid_norm.2 ⟨l, h⟩⟩
theorem proper_len {s : Str} (h : properU s = true) : s.length ≤ 5000 := by
  simp only [properU, Bool.and_eq_true] at h
  exact valid_len h.2
theorem proper_valid {s : Str} (h : properU s = true) : validU s = true := by
  simp only [properU, Bool.and_eq_true] at h
  exact h.2
theorem TI.key {E : List Ent} (h : TI E) {s : Str} (hs : s ∈ keysE E) : properU s = true := by
  obtain ⟨e, he, rfl⟩ := List.mem_map.1 hs
  exact h.proper e he
theorem TI.nodup {E : List Ent} (h : TI E) : (keysE E).Nodup := NS.nodup h.ord

theorem delE_keys {E : List Ent} {s x : Str} : x ∈ keysE (delE E s) ↔ x ∈ keysE E ∧ x ≠ s := by
  simp only [keysE, delE, List.mem_map, List.mem_filter, Bool.not_eq_true', decide_eq_false_iff_not]
  constructor
  · rintro ⟨e, ⟨h1, h2⟩, rfl⟩; exact ⟨⟨e, h1, rfl⟩, h2⟩
  · rintro ⟨⟨e, h1, rfl⟩, h2⟩; exact ⟨e, ⟨h1, h2⟩, rfl⟩
theorem delE_len {E : List Ent} {s : Str} (h : OrdE E) (hs : hasE E s = true) : (delE E s).length + 1 = E.length := by
  induction E with
  | nil => simp [hasE] at hs
  | cons x l ih =>
    have hn := List.nodup_cons.1 (NS.nodup h)
    by_cases hx : x.1 = s
    · have : delE l s = l := List.filter_eq_self.2 (fun e he => by
        simp only [Bool.not_eq_true', decide_eq_false_iff_not]
        intro q; exact hn.1 (List.mem_map.2 ⟨e, he, q.trans hx.symm⟩))
      simp only [delE] at this
      simp [delE, hx, this]
    · have hs' : hasE l s = true := by simpa [hasE, hx] using hs
      have := ih (List.pairwise_cons.1 h).2 hs'
      simp only [delE] at this
      simp [delE, hx]; omega

/-- Names with a common end. -/
theorem TI.up {E : List Ent} (h : TI E) {n : List Pair} {t : Str} (ht : normU t = some n) (hn : n ≠ []) : ∀ (k : List Pair) {s : Str}, normU s = some (k ++ n) → s ∈ keysE E → t ∈ keysE E
  | [], s, hs, hm => by
    rw [List.nil_append] at hs
    rw [normU_inj ht hs]; exact hm
  | p :: k, s, hs, hm => by
    obtain ⟨e, he, rfl⟩ := List.mem_map.1 hm
    obtain ⟨q, h1, h2⟩ := parent_norm (p := p) (l := k ++ n) hs
    have hd : depthU e.1 ≠ 1 := by
      rw [depth_norm hs]
      have : 0 < n.length := List.length_pos_iff.2 hn
      simp only [List.cons_append, List.length_cons, List.length_append]; omega
    have h3 := h.linked e he hd
    rw [h1] at h3
    exact h.up ht hn k h2 (hasE_iff.1 h3)
theorem TI.not_below {E : List Ent} (h : TI E) {t s : Str} (ht : properU t = true) (hn : hasE E t = false) (hs : s ∈ keysE E) : underU s t = false := by
  cases hu : underU s t with
  | false => rfl
  | true =>
    obtain ⟨k, m, e1, e2⟩ := under_parts hu
    obtain ⟨p, l, e3⟩ := proper_norm ht
    rw [e2] at e3
    cases e3
    have := hasE_iff.2 (h.up e2 (by simp) k e1 hs)
    rw [hn] at this; cases this

theorem TI.ins {E : List Ent} (h : TI E) {n : Str} {a : List Att} (h1 : properU n = true) (h2 : hasE E n = false) (h3 : depthU n ≠ 1 → hasE E (parentU n).1 = true) (h4 : E.length < 256) : TI (insE (n, sortedL a) E) where
  ord := insE_ord h.ord (fun q => by rw [hasE_iff.2 q] at h2; cases h2)
  proper e he := by
    rcases insE_mem.1 he with rfl | he
    · exact h1
    · exact h.proper e he
  normal e he := by
    rcases insE_mem.1 he with rfl | he
    · exact sorted_idem a
    · exact h.normal e he
  linked e he hd := by
    rcases insE_mem.1 he with rfl | he
    · exact hasE_iff.2 (insE_keys.2 (.inr (hasE_iff.1 (h3 hd))))
    · exact hasE_iff.2 (insE_keys.2 (.inr (hasE_iff.1 (h.linked e he hd))))
  few := by rw [(insE_perm _ _).length_eq]; simp; omega
theorem parented_depth {E : List Ent} {n : Str} (h : parentedE E n = true) : hasE E (parentU n).1 = true := by
  simp only [parentedE, Bool.and_eq_true] at h; exact h.2
theorem TI.add {E : List Ent} (h : TI E) (n : Str) (a : List Att) : TI (addE E n a).1 := by
  unfold addE
  split
  · exact h
  split
  · exact h
  split
  · exact h
  split
  · exact h
  rename_i h1 h2 h3 h4
  exact h.ins (by simpa using h1) (by simpa using h2) (fun _ => parented_depth (by simpa using h3)) (by omega)
theorem TI.put {E : List Ent} (h : TI E) (n : Str) (a : List Att) : TI (putE E n a).1 := by
  unfold putE
  split
  · exact h
  rename_i h1
  have h1' : hasE E n = true := by simpa using h1
  have hk : ∀ x, x ∈ keysE (insE (n, sortedL a) (delE E n)) ↔ x ∈ keysE E := fun x => by
    rw [insE_keys, delE_keys]
    by_cases hx : x = n
    · subst hx; simp [hasE_iff.1 h1']
    · simp [hx]
  have hnot : n ∉ keysE (delE E n) := fun q => (delE_keys.1 q).2 rfl
  exact {
    ord := insE_ord (h.ord.filter _) hnot
    proper := fun e he => h.key ((hk e.1).1 (List.mem_map.2 ⟨e, he, rfl⟩))
    normal := fun e he => by
      rcases insE_mem.1 he with rfl | he
      · exact sorted_idem a
      · exact h.normal e (List.mem_filter.1 he).1
    linked := fun e he hd => by
      obtain ⟨e', he', hs⟩ := List.mem_map.1 ((hk e.1).1 (List.mem_map.2 ⟨e, he, rfl⟩))
      have := h.linked e' he' (by rw [show e'.1 = e.1 from hs]; exact hd)
      rw [show e'.1 = e.1 from hs] at this
      exact hasE_iff.2 ((hk _).2 (hasE_iff.1 this))
    few := by
      rw [(insE_perm _ _).length_eq]
      have := delE_len h.ord h1'
      have := h.few
      simp; omega }
theorem TI.delete {E : List Ent} (h : TI E) (s : Str) : TI (deleteE E s).1 := by
  unfold deleteE
  split
  · exact h
  split
  · exact h
  rename_i h1 h2
  have hk : kidsE E s = [] := Classical.byContradiction fun q => h2 (.inr q)
  exact {
    ord := h.ord.filter _
    proper := fun e he => h.proper e (List.mem_filter.1 he).1
    normal := fun e he => h.normal e (List.mem_filter.1 he).1
    linked := fun e he hd => by
      have he' := (List.mem_filter.1 he).1
      have hl := h.linked e he' hd
      refine hasE_iff.2 (delE_keys.2 ⟨hasE_iff.1 hl, fun q => ?_⟩)
      obtain ⟨p, l, hn⟩ := proper_norm (h.proper e he')
      obtain ⟨t, ht, _⟩ := parent_norm hn
      have : e.1 ∈ kidsE E s := List.mem_filter.2 ⟨List.mem_map.2 ⟨e, he', rfl⟩, by rw [ht] at q ⊢; simpa using q⟩
      rw [hk] at this; cases this
    few := Nat.le_trans (List.length_filter_le _ _) h.few }

/-! ### moves -/
/-- A move that has no obstacle. -/
structure MV (E : List Ent) (fr to : Str) : Prop where
  ti : TI E
  src : hasE E fr = true
  tgt : properU to = true
  free : hasE E to = false
  out : underU to fr = false
  par : parentedE E to = true
  low : depthU fr ≠ 1
  deep : deepE E fr to = false
theorem MV.of {E : List Ent} {fr to : Str} (h : TI E) (ho : obsE E fr to = 0) : MV E fr to := by
  unfold obsE at ho
  split at ho
  · cases ho
  split at ho
  · cases ho
  split at ho
  · cases ho
  split at ho
  · cases ho
  split at ho
  · cases ho
  split at ho
  · cases ho
  split at ho
  · cases ho
  rename_i h1 h2 h3 h4 h5 h6 h7
  exact ⟨h, by simpa using h1, by simpa using h2, by simpa using h3, by simpa using h4, by simpa using h5, h6, by simpa using h7⟩
theorem mem_subE {E : List Ent} {b : Str} (hb : b ≠ []) {e : Ent} : e ∈ subE E b ↔ e ∈ E ∧ underU e.1 b = true := by
  simp [subE, List.mem_filter, hb]
section
variable {E : List Ent} {fr to : Str} (h : MV E fr to)
include h
theorem MV.frp : properU fr = true := h.ti.key (hasE_iff.1 h.src)
theorem MV.frn : fr ≠ [] := fun e => by have := h.frp; subst e; simp [properU] at this
/-- What a name below 'from' becomes. -/
theorem MV.below {s : Str} (hs : s ∈ keysE E) (hu : underU s fr = true) : ∃ k m n t, normU s = some (k ++ m) ∧ normU fr = some m ∧ normU to = some n ∧ m ≠ [] ∧ n ≠ [] ∧ k.length + n.length ≤ 8 ∧ rebaseU s fr to = (t, 0) ∧ normU t = some (k ++ n) ∧ renU fr to s = t := by
  obtain ⟨k, m, e1, e2⟩ := under_parts hu
  obtain ⟨q, n, e3⟩ := proper_norm h.tgt
  obtain ⟨p, m', e4⟩ := proper_norm h.frp
  rw [e2] at e4
  obtain ⟨e, he, rfl⟩ := List.mem_map.1 hs
  have hd : k.length + (q :: n).length ≤ 8 := by
    have := h.deep
    simp only [deepE, List.any_eq_false, decide_eq_true_eq, Int.not_lt] at this
    have := this e ((mem_subE h.frn).2 ⟨he, hu⟩)
    rw [depth_norm e1, depth_norm e2, depth_norm e3] at this
    simp only [List.length_append, List.length_cons] at this ⊢
    omega
  obtain ⟨t, h1, h2⟩ := (rebase_norm e1 e2 e3).1 hd
  refine ⟨k, m, q :: n, t, e1, e2, e3, by cases e4; simp, by simp, hd, h1, h2, ?_⟩
  rw [renU, if_pos hu, h1]
omit h in
theorem MV.ren_above {s : Str} (hu : underU s fr = false) : renU fr to s = s := by rw [renU, hu]; simp
theorem MV.ren_under {s : Str} (hs : s ∈ keysE E) (hu : underU s fr = true) : underU (renU fr to s) to = true := by
  obtain ⟨k, m, n, t, e1, e2, e3, _, _, _, _, e4, e5⟩ := h.below hs hu
  rw [e5]
  exact under_iff.2 ⟨k ++ n, n, e4, e3, List.suffix_append k n⟩
theorem MV.inj {s t : Str} (hs : s ∈ keysE E) (ht : t ∈ keysE E) (e : renU fr to s = renU fr to t) : s = t := by
  cases hu : underU s fr <;> cases hv : underU t fr
  · rwa [MV.ren_above hu, MV.ren_above hv] at e
  · have := h.ren_under ht hv
    rw [← e, MV.ren_above hu, h.ti.not_below h.tgt h.free hs] at this; cases this
  · have := h.ren_under hs hu
    rw [e, MV.ren_above hv, h.ti.not_below h.tgt h.free ht] at this; cases this
  · obtain ⟨k, m, n, x, e1, e2, e3, _, _, _, _, e4, e5⟩ := h.below hs hu
    obtain ⟨k', m', n', y, f1, f2, f3, _, _, _, _, f4, f5⟩ := h.below ht hv
    rw [e2] at f2; cases f2
    rw [e3] at f3; cases f3
    rw [e5, f5] at e
    subst e
    rw [e4] at f4
    simp only [Option.some.injEq] at f4
    have : k = k' := List.append_cancel_right f4
    subst this
    exact normU_inj e1 f1
theorem MV.perm : (movedE E fr to).Perm (E.map fun e => (renU fr to e.1, e.2)) := by
  have h1 := foldIns_perm ((subE E fr).map fun e => ((rebaseU e.1 fr to).1, e.2)) (E.filter fun e => !underU e.1 fr)
  have h2 : ((subE E fr).map fun e => ((rebaseU e.1 fr to).1, e.2)) = ((subE E fr).map fun e => (renU fr to e.1, e.2)) := List.map_congr_left fun e he => by
    have := ((mem_subE h.frn).1 he).2
    simp [renU, this]
  have h3 : (E.filter fun e => !underU e.1 fr) = ((E.filter fun e => !underU e.1 fr).map fun e => (renU fr to e.1, e.2)) := by
    refine (List.map_id _).symm.trans (List.map_congr_left fun e he => ?_)
    have := (List.mem_filter.1 he).2
    simp only [Bool.not_eq_true'] at this
    rw [MV.ren_above this]; rfl
  refine h1.trans ?_
  rw [h2, h3, ← List.map_append]
  refine List.Perm.map _ ?_
  have h4 : subE E fr = E.filter fun e => underU e.1 fr := by
    unfold subE
    refine List.filter_congr fun e _ => ?_
    simp [h.frn]
  rw [h4]
  exact List.filter_append_perm _ E
theorem MV.keys {x : Str} : x ∈ keysE (movedE E fr to) ↔ ∃ s ∈ keysE E, renU fr to s = x := by
  unfold keysE
  rw [(h.perm.map _).mem_iff]
  simp only [List.map_map, List.mem_map, Function.comp_apply]
  constructor
  · rintro ⟨e, he, rfl⟩; exact ⟨e.1, ⟨e, he, rfl⟩, rfl⟩
  · rintro ⟨_, ⟨e, he, rfl⟩, rfl⟩; exact ⟨e, he, rfl⟩
theorem MV.ord : OrdE (movedE E fr to) := by
  refine foldIns_ord (h.ti.ord.filter _) ?_ ?_
  · unfold keysE
    rw [List.map_map]
    have : (subE E fr).map ((fun e : Ent => e.1) ∘ fun e => ((rebaseU e.1 fr to).1, e.2)) = (keysE (subE E fr)).map (renU fr to) := by
      unfold keysE
      rw [List.map_map]
      refine List.map_congr_left fun e he => ?_
      have := ((mem_subE h.frn).1 he).2
      simp [renU, this]
    rw [this]
    have hsub : ∀ x ∈ keysE (subE E fr), x ∈ keysE E := fun x hx => by
      obtain ⟨e, he, rfl⟩ := List.mem_map.1 hx
      exact List.mem_map.2 ⟨e, (List.mem_filter.1 he).1, rfl⟩
    have hnd : (keysE (subE E fr)).Nodup := NS.nodup (h.ti.ord.filter _)
    exact List.pairwise_map.2 (List.Pairwise.imp_of_mem (fun {x y} hx hy hne e => hne (h.inj (hsub x hx) (hsub y hy) e)) hnd)
  · intro e he q
    obtain ⟨e', he', rfl⟩ := List.mem_map.1 he
    obtain ⟨h1, h2⟩ := (mem_subE h.frn).1 he'
    have h3 := h.ren_under (List.mem_map.2 ⟨e', h1, rfl⟩) h2
    have h4 : renU fr to e'.1 = (rebaseU e'.1 fr to).1 := by simp [renU, h2]
    rw [h4] at h3
    obtain ⟨x, hx, hq⟩ := List.mem_map.1 q
    have h5 := h.ti.not_below h.tgt h.free (List.mem_map.2 ⟨x, (List.mem_filter.1 hx).1, rfl⟩)
    rw [show x.1 = (rebaseU e'.1 fr to).1 from hq, h3] at h5; cases h5
theorem MV.moved : TI (movedE E fr to) where
  ord := h.ord
  proper e he := by
    obtain ⟨s, hs, hr⟩ := h.keys.1 (List.mem_map.2 ⟨e, he, rfl⟩)
    have hr : renU fr to s = e.1 := hr
    rw [← hr]
    cases hu : underU s fr
    · rw [MV.ren_above hu]; exact h.ti.key hs
    · obtain ⟨k, m, n, t, e1, e2, e3, e4, e5, _, _, e6, e7⟩ := h.below hs hu
      rw [e7]; exact proper_of e6 (by simp [e5])
  normal e he := by
    obtain ⟨e', he', rfl⟩ := List.mem_map.1 (h.perm.mem_iff.1 he)
    exact h.ti.normal e' he'
  linked e he hd := by
    obtain ⟨s, hs, hr⟩ := h.keys.1 (List.mem_map.2 ⟨e, he, rfl⟩)
    have hr : renU fr to s = e.1 := hr
    rw [← hr] at hd ⊢
    refine hasE_iff.2 (h.keys.2 ?_)
    obtain ⟨e', he', rfl⟩ := List.mem_map.1 hs
    cases hu : underU e'.1 fr
    · rw [MV.ren_above hu] at hd ⊢
      have hl := h.ti.linked e' he' hd
      refine ⟨(parentU e'.1).1, hasE_iff.1 hl, MV.ren_above ?_⟩
      cases hv : underU (parentU e'.1).1 fr with
      | false => rfl
      | true =>
        obtain ⟨p, l, hn⟩ := proper_norm (h.ti.proper e' he')
        obtain ⟨t, ht, ht2⟩ := parent_norm hn
        rw [ht] at hv
        have : underU e'.1 t = true := under_iff.2 ⟨_, _, hn, ht2, List.suffix_cons p l⟩
        rw [under_trans this hv] at hu; cases hu
    · obtain ⟨k, m, n, t, e1, e2, e3, e4, e5, e6, _, e7, e8⟩ := h.below hs hu
      rw [e8] at hd ⊢
      cases k with
      | nil =>
        rw [List.nil_append] at e7
        obtain rfl := normU_inj e7 e3
        have hp := parented_depth h.par
        refine ⟨(parentU t).1, hasE_iff.1 hp, MV.ren_above ?_⟩
        cases hv : underU (parentU t).1 fr with
        | false => rfl
        | true =>
          obtain ⟨p, l, hn⟩ := proper_norm h.tgt
          obtain ⟨q, hq, hq2⟩ := parent_norm hn
          rw [hq] at hv
          have : underU t q = true := under_iff.2 ⟨_, _, hn, hq2, List.suffix_cons p l⟩
          have h9 := h.out
          rw [under_trans this hv] at h9; cases h9
      | cons p k =>
        obtain ⟨q, hq, hq2⟩ := parent_norm (p := p) (l := k ++ n) e7
        obtain ⟨r, hr', hr2⟩ := parent_norm (p := p) (l := k ++ m) e1
        have hl := h.ti.linked e' he' (by rw [depth_norm e1]; have := List.length_pos_iff.2 e4; simp only [List.cons_append, List.length_cons, List.length_append]; omega)
        rw [hr'] at hl
        refine ⟨r, hasE_iff.1 hl, ?_⟩
        have hru : underU r fr = true := under_iff.2 ⟨_, _, hr2, e2, List.suffix_append k m⟩
        obtain ⟨k2, m2, n2, t2, g1, g2, g3, _, _, _, _, g6, g7⟩ := h.below (hasE_iff.1 hl) hru
        rw [g7, hq]
        rw [e2] at g2; cases g2
        rw [e3] at g3; cases g3
        rw [hr2] at g1
        simp only [Option.some.injEq] at g1
        have : k = k2 := List.append_cancel_right g1
        subst this
        exact normU_inj g6 hq2
  few := by rw [h.perm.length_eq]; simpa using h.ti.few
end
theorem TI.move {E : List Ent} (h : TI E) (fr to : Str) : TI (moveE E fr to).1 := by
  unfold moveE
  split
  · rename_i ho; exact (MV.of h ho).moved
  · exact h
end Go.Proofs.Tz

/- The tree of entries: its plain law, third part: roots, moves taken back, subtrees. -/
set_option linter.unusedSimpArgs false
set_option linter.unusedVariables false
namespace Go.Proofs.Tz
open Go.Vw Go.RowKit Go.Proofs Go.Sort

/-! ### roots -/
theorem parented_two {E : List Ent} (h : TI E) {n : Str} (hp : properU n = true) (hq : parentedE E n = true) : 2 ≤ depthU n := by
  obtain ⟨p, l, hn⟩ := proper_norm hp
  obtain ⟨t, ht, ht2⟩ := parent_norm hn
  have := h.key (hasE_iff.1 (parented_depth hq))
  rw [ht] at this
  obtain ⟨q, m, hm⟩ := proper_norm this
  rw [ht2] at hm
  cases hm
  rw [depth_norm hn]; simp
/-- The entries of depth 1 are the roots. -/
def RootI (R : List Str) (E : List Ent) : Prop := ∀ s, (s ∈ keysE E ∧ depthU s = 1) ↔ s ∈ R
theorem RootI.add {R : List Str} {E : List Ent} (h : TI E) (hr : RootI R E) (n : Str) (a : List Att) : RootI R (addE E n a).1 := by
  unfold addE
  split
  · exact hr
  split
  · exact hr
  split
  · exact hr
  split
  · exact hr
  rename_i h1 h2 h3 h4
  intro s
  rw [insE_keys, ← hr s]
  have h5 := parented_two h (by simpa using h1) (by simpa using h3)
  constructor
  · rintro ⟨rfl | h6, h7⟩
    · omega
    · exact ⟨h6, h7⟩
  · rintro ⟨h6, h7⟩; exact ⟨.inr h6, h7⟩
theorem RootI.put {R : List Str} {E : List Ent} (hr : RootI R E) (n : Str) (a : List Att) : RootI R (putE E n a).1 := by
  unfold putE
  split
  · exact hr
  rename_i h1
  have h1' : hasE E n = true := by simpa using h1
  intro s
  rw [insE_keys, delE_keys, ← hr s]
  constructor
  · rintro ⟨rfl | h6, h7⟩
    · exact ⟨hasE_iff.1 h1', h7⟩
    · exact ⟨h6.1, h7⟩
  · rintro ⟨h6, h7⟩
    refine ⟨?_, h7⟩
    by_cases e : s = n
    · exact .inl e
    · exact .inr ⟨h6, e⟩
theorem RootI.delete {R : List Str} {E : List Ent} (hr : RootI R E) (n : Str) : RootI R (deleteE E n).1 := by
  unfold deleteE
  split
  · exact hr
  split
  · exact hr
  rename_i h1 h2
  intro s
  rw [delE_keys, ← hr s]
  constructor
  · rintro ⟨h6, h7⟩; exact ⟨h6.1, h7⟩
  · rintro ⟨h6, h7⟩
    exact ⟨⟨h6, fun e => h2 (.inl (e ▸ h7))⟩, h7⟩
theorem RootI.move {R : List Str} {E : List Ent} (h : TI E) (hr : RootI R E) (fr to : Str) : RootI R (moveE E fr to).1 := by
  unfold moveE
  by_cases ho : obsE E fr to = 0
  case neg => rw [if_neg ho]; exact hr
  rw [if_pos ho]
  have hm := MV.of h ho
  have hto := parented_two h hm.tgt hm.par
  have key : ∀ s ∈ keysE E, underU s fr = true → depthU s ≠ 1 ∧ depthU (renU fr to s) ≠ 1 := fun s hs hu => by
    obtain ⟨k, m, n, t, e1, e2, e3, e4, e5, _, _, e7, e8⟩ := hm.below hs hu
    have hl := hm.low
    rw [depth_norm e2] at hl
    rw [depth_norm e3] at hto
    rw [e8, depth_norm e7, depth_norm e1]
    have := List.length_pos_iff.2 e4
    simp only [List.length_append]
    omega
  intro s
  rw [hm.keys, ← hr s]
  constructor
  · rintro ⟨⟨x, hx, rfl⟩, h7⟩
    cases hu : underU x fr
    · rw [MV.ren_above hu] at h7 ⊢; exact ⟨hx, h7⟩
    · exact absurd h7 (key x hx hu).2
  · rintro ⟨h6, h7⟩
    refine ⟨⟨s, h6, MV.ren_above ?_⟩, h7⟩
    cases hu : underU s fr with
    | false => rfl
    | true => exact absurd h7 (key s h6 hu).1

/-! ### a move taken back -/
theorem MV.back {E : List Ent} {fr to : Str} (h : MV E fr to) : MV (movedE E fr to) to fr ∧ movedE (movedE E fr to) to fr = E := by
  have hfrk := hasE_iff.1 h.src
  have hfrv := proper_valid h.frp
  obtain ⟨k0, m, n, t0, a1, a2, a3, a4, a5, a6, _, a7, a8⟩ := h.below hfrk (under_self hfrv)
  have hk0 : k0 = [] := by
    rw [a2] at a1
    simp only [Option.some.injEq] at a1
    exact List.append_cancel_right (a1.symm.trans (List.nil_append m).symm)
  subst hk0
  rw [List.nil_append] at a7
  obtain rfl := normU_inj a7 a3
  have hto2 := parented_two h.ti h.tgt h.par
  have hmem : t0 ∈ keysE (movedE E fr t0) := h.keys.2 ⟨fr, hfrk, a8⟩
  -- nothing below 'from' is left
  have hgone : ∀ x ∈ keysE (movedE E fr t0), underU x fr = false := fun x hx => by
    obtain ⟨s, hs, rfl⟩ := h.keys.1 hx
    cases hu : underU s fr
    · rw [MV.ren_above hu]; exact hu
    · cases hv : underU (renU fr t0 s) fr with
      | false => rfl
      | true =>
        obtain ⟨k, m', n', t, e1, e2, e3, _, _, _, _, e4, e5⟩ := h.below hs hu
        rw [a2] at e2; cases e2
        rw [a3] at e3; cases e3
        rw [e5] at hv
        obtain ⟨k2, m2, f1, f2⟩ := under_parts hv
        rw [a2] at f2; cases f2
        rw [e4] at f1
        simp only [Option.some.injEq] at f1
        -- k ++ n = k2 ++ m
        rcases List.append_eq_append_iff.1 f1 with ⟨x, hx1, hx2⟩ | ⟨x, hx1, hx2⟩
        · have : underU t0 fr = true := under_iff.2 ⟨n, m, a3, a2, ⟨x, hx2.symm⟩⟩
          rw [h.out] at this; cases this
        · have hb : underU fr t0 = true := under_iff.2 ⟨m, n, a2, a3, ⟨x, hx2.symm⟩⟩
          rw [h.ti.not_below h.tgt h.free hfrk] at hb; cases hb
  have hti := h.moved
  have hparfr : hasE E (parentU fr).1 = true := by
    obtain ⟨e, he, hs⟩ := List.mem_map.1 hfrk
    have := h.ti.linked e he (by rw [show e.1 = fr from hs]; exact h.low)
    rwa [show e.1 = fr from hs] at this
  obtain ⟨p, l, hn⟩ := proper_norm h.frp
  obtain ⟨q, hq, hq2⟩ := parent_norm hn
  rw [hq] at hparfr
  have hqn : underU q fr = false := by
    cases hv : underU q fr with
    | false => rfl
    | true =>
      obtain ⟨k2, m2, f1, f2⟩ := under_parts hv
      rw [hn] at f2; cases f2
      rw [hq2] at f1
      simp only [Option.some.injEq] at f1
      have := congrArg List.length f1
      simp at this
      omega
  have hren : ∀ s ∈ keysE E, renU t0 fr (renU fr t0 s) = s := fun s hs => by
    cases hu : underU s fr
    · rw [MV.ren_above hu]
      exact MV.ren_above (h.ti.not_below h.tgt h.free hs)
    · obtain ⟨k, m', n', t, e1, e2, e3, _, _, _, _, e4, e5⟩ := h.below hs hu
      rw [a2] at e2; cases e2
      rw [a3] at e3; cases e3
      rw [e5]
      have h8 := (normU_inv e1).2.1
      obtain ⟨t2, g1, g2⟩ := (rebase_norm e4 a3 a2).1 (by simpa using h8)
      have hu2 : underU t t0 = true := under_iff.2 ⟨_, _, e4, a3, List.suffix_append k n⟩
      rw [renU, if_pos hu2, g1]
      exact normU_inj g2 e1
  have hb : MV (movedE E fr t0) t0 fr := {
    ti := hti
    src := hasE_iff.2 hmem
    tgt := h.frp
    free := by
      cases hv : hasE (movedE E fr t0) fr with
      | false => rfl
      | true => have := hgone fr (hasE_iff.1 hv); rw [under_self hfrv] at this; cases this
    out := by
      cases hv : underU fr t0 with
      | false => rfl
      | true => rw [h.ti.not_below h.tgt h.free hfrk] at hv; cases hv
    par := by
      simp only [parentedE, hq, Bool.true_and]
      exact hasE_iff.2 (h.keys.2 ⟨q, hasE_iff.1 hparfr, MV.ren_above hqn⟩)
    low := by omega
    deep := by
      simp only [deepE, List.any_eq_false, decide_eq_true_eq, Int.not_lt]
      intro e he
      have htn : t0 ≠ [] := fun e => by have := h.tgt; subst e; simp [properU] at this
      obtain ⟨he1, he2⟩ := (mem_subE htn).1 he
      obtain ⟨s, hs, hr⟩ := h.keys.1 (List.mem_map.2 ⟨e, he1, rfl⟩)
      have hr : renU fr t0 s = e.1 := hr
      cases hu : underU s fr
      · rw [MV.ren_above hu] at hr
        rw [← hr, h.ti.not_below h.tgt h.free hs] at he2; cases he2
      · obtain ⟨k, m', n', t, e1, e2, e3, _, _, _, _, e4, e5⟩ := h.below hs hu
        rw [a2] at e2; cases e2
        rw [a3] at e3; cases e3
        rw [← hr, e5, depth_norm e4, depth_norm a3, depth_norm a2]
        have h8 := (normU_inv e1).2.1
        simp only [List.length_append] at h8 ⊢
        omega }
  refine ⟨hb, OrdE.ext hb.ord h.ti.ord ?_⟩
  refine hb.perm.trans ((h.perm.map _).trans ?_)
  rw [List.map_map]
  have : E.map ((fun e : Ent => (renU t0 fr e.1, e.2)) ∘ fun e => (renU fr t0 e.1, e.2)) = E := by
    refine (List.map_congr_left fun e he => ?_).trans (List.map_id E)
    simp only [Function.comp_apply, hren e.1 (List.mem_map.2 ⟨e, he, rfl⟩)]
    rfl
  rw [this]
/-! ### subtrees -/
theorem cmpL_pre : ∀ (l k : List Pair), k ≠ [] → cmpL l (l ++ k) = -1
  | [], k, h => by cases k with
    | nil => exact absurd rfl h
    | cons x k => rfl
  | p :: l, k, h => by
    simp only [List.cons_append, cmpL]
    rw [if_pos (cmpP_zero.2 rfl), cmpL_pre l k h]
theorem under_after {s b : Str} (h : underU s b = true) (hne : s ≠ b) : cmpN b s < 0 := by
  obtain ⟨k, m, e1, e2⟩ := under_parts h
  have hk : k ≠ [] := fun e => by
    subst e
    rw [List.nil_append] at e1
    exact hne (normU_inj e1 e2)
  unfold cmpN
  rw [e1, e2]
  simp only [List.reverse_append]
  rw [cmpL_pre _ _ (by simpa using hk)]
  decide
theorem sub_first {E : List Ent} (h : TI E) {e : Ent} (he : e ∈ E) : ∃ rest, subE E e.1 = e :: rest := by
  have hp := h.proper e he
  have hn : e.1 ≠ [] := fun q => by rw [q] at hp; simp [properU] at hp
  have hm : e ∈ subE E e.1 := (mem_subE hn).2 ⟨he, under_self (proper_valid hp)⟩
  have ho : OrdE (subE E e.1) := h.ord.filter _
  cases hs : subE E e.1 with
  | nil => rw [hs] at hm; cases hm
  | cons x rest =>
    rw [hs] at hm ho
    rcases List.mem_cons.1 hm with rfl | hm
    · exact ⟨rest, rfl⟩
    · exfalso
      have hx : x ∈ subE E e.1 := by rw [hs]; simp
      have h1 := (List.pairwise_cons.1 ho).1 e.1 (List.mem_map.2 ⟨e, hm, rfl⟩)
      have h2 := under_after ((mem_subE hn).1 hx).2 (fun q => by
        rw [show (fun x : Ent => x.1) x = x.1 from rfl, q, cmpN_self] at h1; omega)
      have := cmpN_trans (show cmpN x.1 e.1 < 0 from h1) h2
      rw [cmpN_self] at this; omega
theorem kids_mem {E : List Ent} {s x : Str} : x ∈ kidsE E s ↔ x ∈ keysE E ∧ parentU x = (s, true) := by
  simp only [kidsE, List.mem_filter, Bool.and_eq_true, decide_eq_true_eq]
  constructor
  · rintro ⟨h1, h2, h3⟩; exact ⟨h1, Prod.ext h3 h2⟩
  · rintro ⟨h1, h2⟩; rw [h2]; exact ⟨h1, rfl, rfl⟩
/-- A child's components. -/
theorem kid_norm {x s : Str} (h : parentU x = (s, true)) : ∃ p l, normU x = some (p :: l) ∧ normU s = some l := by
  obtain ⟨p, l, hn⟩ := parent_ok.1 (by rw [h])
  obtain ⟨t, ht, ht2⟩ := parent_norm hn
  rw [h] at ht
  cases ht
  exact ⟨p, l, hn, ht2⟩
/-- What lies below a name, but for itself, lies below just one of its children. -/
theorem kid_one {E : List Ent} (h : TI E) {x : Str} (hx : properU x = true) {s : Str} (hs : s ∈ keysE E) : (kidsE E x).countP (fun c => underU s c) = if underU s x = true ∧ s ≠ x then 1 else 0 := by
  have hnd : (kidsE E x).Nodup := (List.filter_sublist).nodup h.nodup
  split
  · rename_i hu
    obtain ⟨k, m, e1, e2⟩ := under_parts hu.1
    have hk : k ≠ [] := fun e => by
      subst e
      rw [List.nil_append] at e1
      exact hu.2 (normU_inj e1 e2)
    obtain ⟨k', q, rfl⟩ : ∃ k' q, k = k' ++ [q] := ⟨k.dropLast, k.getLast hk, (List.dropLast_concat_getLast hk).symm⟩
    have e1' : normU s = some (k' ++ (q :: m)) := by rw [e1]; simp
    have ha := normU_app e1' e1' (n := q :: m) (fun p hp => .inl (List.mem_append_right _ hp)) (by have := (normU_inv e1').2.1; simp at this ⊢; omega)
    generalize hc : joinB 44 ((q :: m).map fmtC) = c at ha
    have hck : c ∈ keysE E := h.up ha.2 (by simp) k' e1' hs
    obtain ⟨t, ht, ht2⟩ := parent_norm ha.2
    have hcp : parentU c = (x, true) := by rw [ht, normU_inj ht2 e2]
    have hck2 : c ∈ kidsE E x := kids_mem.2 ⟨hck, hcp⟩
    have huc : underU s c = true := under_iff.2 ⟨_, _, e1', ha.2, List.suffix_append k' _⟩
    have honly : ∀ d ∈ kidsE E x, underU s d = true → d = c := fun d hd hud => by
      obtain ⟨p, l, f1, f2⟩ := kid_norm (kids_mem.1 hd).2
      rw [e2] at f2; cases f2
      obtain ⟨k2, m2, g1, g2⟩ := under_parts hud
      rw [f1] at g2; cases g2
      rw [e1'] at g1
      simp only [Option.some.injEq] at g1
      have hlen := congrArg List.length g1
      simp only [List.length_append, List.length_cons] at hlen
      have := List.append_inj_right' g1 (by simp)
      simp only [List.cons.injEq, and_true] at this
      rw [← this] at f1
      exact normU_inj f1 ha.2
    have : (kidsE E x).countP (fun d => underU s d) = (kidsE E x).countP (fun d => d == c) := List.countP_congr fun d hd => by
      constructor
      · intro hud; simp [honly d hd hud]
      · intro he
        have : d = c := by simpa using he
        rw [this]; exact huc
    rw [this]
    rw [show (kidsE E x).countP (fun d => d == c) = (kidsE E x).count c from rfl]
    exact Nat.le_antisymm (List.nodup_iff_count.1 hnd c) (List.count_pos_iff.2 hck2)
  · rename_i hu
    rw [List.countP_eq_zero]
    intro c hc hud
    obtain ⟨p, l, f1, f2⟩ := kid_norm (kids_mem.1 hc).2
    have hcx : underU c x = true := under_iff.2 ⟨_, _, f1, f2, List.suffix_cons p l⟩
    refine hu ⟨under_trans hud hcx, fun e => ?_⟩
    subst e
    obtain ⟨k2, m2, g1, g2⟩ := under_parts hud
    rw [f1] at g2; cases g2
    rw [f2] at g1
    simp only [Option.some.injEq] at g1
    have := congrArg List.length g1
    simp at this
    omega
theorem sum_count {α β : Type} (f : α → β → Bool) (B : List β) : ∀ (A : List α), (A.map fun a => (B.filter (f a)).length).sum = (B.map fun b => A.countP fun a => f a b).sum
  | [] => by simp; induction B with
    | nil => rfl
    | cons b B ih => simpa using ih
  | a :: A => by
    rw [List.map_cons, List.sum_cons, sum_count f B A]
    induction B with
    | nil => rfl
    | cons b B ih =>
      simp only [List.map_cons, List.sum_cons, List.filter_cons, List.countP_cons] at ih ⊢
      split <;> simp_all <;> omega
theorem count_sum {β : Type} (p : β → Prop) [DecidablePred p] : ∀ B : List β, (B.map fun b => if p b then 1 else 0).sum = (B.filter fun b => decide (p b)).length
  | [] => rfl
  | b :: B => by
    rw [List.map_cons, List.sum_cons, count_sum p B, List.filter_cons]
    by_cases h : p b <;> simp [h]; omega
theorem subs_count {E : List Ent} (h : TI E) {x : Str} (hx : x ∈ keysE E) : (subE E x).length = 1 + ((kidsE E x).map fun c => (subE E c).length).sum := by
  have hp := h.key hx
  have hne : ∀ {c : Str}, properU c = true → subE E c = E.filter fun e => underU e.1 c := fun {c} hc => by
    have : c ≠ [] := fun q => by rw [q] at hc; simp [properU] at hc
    unfold subE
    exact List.filter_congr fun e _ => by simp [this]
  have e1 : ((kidsE E x).map fun c => (subE E c).length) = ((kidsE E x).map fun c => (E.filter fun e => underU e.1 c).length) := List.map_congr_left fun c hc => by
    rw [hne (h.key (kids_mem.1 hc).1)]
  rw [e1, sum_count (fun c (e : Ent) => underU e.1 c) E (kidsE E x)]
  have e2 : (E.map fun e => (kidsE E x).countP fun c => underU e.1 c) = (E.map fun e => if underU e.1 x = true ∧ e.1 ≠ x then 1 else 0) := List.map_congr_left fun e he => kid_one h hp (List.mem_map.2 ⟨e, he, rfl⟩)
  rw [e2, count_sum, hne hp]
  obtain ⟨e0, he0, rfl⟩ := List.mem_map.1 hx
  have hsub : E.filter (fun e => decide (underU e.1 e0.1 = true ∧ e.1 ≠ e0.1)) = (E.filter fun e => underU e.1 e0.1).filter fun e => decide (e.1 ≠ e0.1) := by
    rw [List.filter_filter]
    refine List.filter_congr fun e _ => ?_
    by_cases h1 : underU e.1 e0.1 = true <;> by_cases h2 : e.1 = e0.1 <;> simp [h1, h2]
  rw [hsub]
  have hs := sub_first h he0
  rw [hne hp] at hs
  obtain ⟨rest, hs⟩ := hs
  have ho : OrdE (e0 :: rest) := by rw [← hs]; exact h.ord.filter _
  rw [hs]
  have hrest : rest.filter (fun e => decide (e.1 ≠ e0.1)) = rest := List.filter_eq_self.2 fun e he => by
    have := (List.nodup_cons.1 (NS.nodup ho)).1
    simp only [decide_eq_true_eq]
    intro q
    exact this (List.mem_map.2 ⟨e, he, q⟩)
  rw [List.filter_cons, hrest]
  simp; omega
end Go.Proofs.Tz

/- Names: their comparison, parents, renames (both), walked. -/
set_option maxRecDepth 100000
set_option maxHeartbeats 4000000
set_option linter.unusedSimpArgs false
set_option linter.unusedVariables false
namespace Go.Proofs.Tz
open Go.Vw Go.RowKit Go.Proofs

def ordI (a b : Int) : Int := if a < b then -1 else if b < a then 1 else 0
theorem isNaNI_fn (x : Int) : Ctr Tryz.prog 125 [.d (.int .i64 x)] (.d (.bool false)) := by
  refine fn_of_vwp (fun _ => false) (by kernel_rfl) Tryz.func125 (by kernel_rfl) rfl rfl (Nat.le_of_ble_eq_true rfl) (by kernel_rfl) rfl rfl ?_
  simp -implicitDefEqProofs
theorem isNaNS_fn (x : Str) : Ctr Tryz.prog 124 [.d (.str x)] (.d (.bool false)) := by
  refine fn_of_vwp (fun _ => false) (by kernel_rfl) Tryz.func124 (by kernel_rfl) rfl rfl (Nat.le_of_ble_eq_true rfl) (by kernel_rfl) rfl rfl ?_
  simp -implicitDefEqProofs
theorem cmpI_fn (x y : Int) : Ctr Tryz.prog 96 [.d (.int .i64 x), .d (.int .i64 y)] (.d (.int .i64 (ordI x y))) := by
  refine fn_of_vwp (fun _ => false) (by kernel_rfl) Tryz.func96 (by kernel_rfl) rfl rfl (Nat.le_of_ble_eq_true rfl) (by kernel_rfl) rfl rfl ?_
  have c1 := isNaNI_fn x
  have c2 := isNaNI_fn y
  unfold ordI
  by_cases h1 : x < y
  · simp -implicitDefEqProofs
    refine callK c1 ?_
    simp -implicitDefEqProofs
    refine callK c2 ?_
    simp -implicitDefEqProofs [h1]
  by_cases h2 : y < x
  · simp -implicitDefEqProofs
    refine callK c1 ?_
    simp -implicitDefEqProofs
    refine callK c2 ?_
    simp -implicitDefEqProofs [h1, h2]
  · simp -implicitDefEqProofs
    refine callK c1 ?_
    simp -implicitDefEqProofs
    refine callK c2 ?_
    simp -implicitDefEqProofs [h1, h2]
/-- What the comparisons of strings come to. -/
theorem ordS_cases (x y : Str) : (x < y ∧ ordS x y = -1 ∧ Op.bytesLess x y = true) ∨ (y < x ∧ ordS x y = 1 ∧ Op.bytesLess x y = false ∧ decide (x = y) = false) ∨ (x = y ∧ ordS x y = 0) := by
  by_cases h1 : x < y
  · exact .inl ⟨h1, by simp [ordS, h1], bl_t.2 h1⟩
  by_cases h2 : y < x
  · refine .inr (.inl ⟨h2, by simp [ordS, h1, h2], bl_f.2 h1, ?_⟩)
    rw [decide_eq_false_iff_not]
    rintro rfl; exact h1 h2
  · exact .inr (.inr ⟨s_tri h1 h2, by simp [ordS, h1, h2]⟩)
theorem cmpStr_fn (x y : Str) : Ctr Tryz.prog 93 [.d (.str x), .d (.str y)] (.d (.int .i64 (ordS x y))) := by
  refine fn_of_vwp (fun _ => false) (by kernel_rfl) Tryz.func93 (by kernel_rfl) rfl rfl (Nat.le_of_ble_eq_true rfl) (by kernel_rfl) rfl rfl ?_
  have c1 := isNaNS_fn x
  have c2 := isNaNS_fn y
  rcases ordS_cases x y with ⟨_, h1, h2⟩ | ⟨_, h1, h2, h3⟩ | ⟨h1, h2⟩
  · rw [h1]
    simp -implicitDefEqProofs
    refine callK c1 ?_
    simp -implicitDefEqProofs
    refine callK c2 ?_
    simp -implicitDefEqProofs [h2]
  · rw [h1]
    simp -implicitDefEqProofs
    refine callK c1 ?_
    simp -implicitDefEqProofs
    refine callK c2 ?_
    simp -implicitDefEqProofs [h2, h3]
  · rw [h2]
    subst h1
    have h3 : Op.bytesLess x x = false := bl_f.2 (s_irr x)
    simp -implicitDefEqProofs
    refine callK c1 ?_
    simp -implicitDefEqProofs
    refine callK c2 ?_
    simp -implicitDefEqProofs [h3]
theorem nbytes_fn (x y : Str) : Ctr Tryz.prog 56 [.d (.str x), .d (.str y)] (.d (.int .i64 (ordS x y))) := by
  refine fn_of_vwp (fun _ => false) (by kernel_rfl) Tryz.func56 (by kernel_rfl) rfl rfl (Nat.le_of_ble_eq_true rfl) (by kernel_rfl) rfl rfl ?_
  rcases ordS_cases x y with ⟨_, h1, h2⟩ | ⟨_, h1, h2, h3⟩ | ⟨h1, h2⟩
  · rw [h1]
    simp -implicitDefEqProofs [h2]
  · rw [h1]
    simp -implicitDefEqProofs [h2, h3]
  · rw [h2]
    subst h1
    have h3 : Op.bytesLess x x = false := bl_f.2 (s_irr x)
    simp -implicitDefEqProofs [h3]
def orI : List Int → Int
  | [] => 0
  | x :: l => if x ≠ 0 then x else orI l
def intsD (l : List Int) : D := .sl (l.map (.int .i64))
theorem cmpOr_fn (l : List Int) (hl : l.length < 1000000) : Ctr Tryz.prog 95 [.d (intsD l)] (.d (.int .i64 (orI l))) := by
  refine fn_of_vwp (fun _ => false) (by kernel_rfl) Tryz.func95 (by kernel_rfl) rfl rfl (Nat.le_of_ble_eq_true rfl) (by kernel_rfl) rfl rfl ?_
  obtain ⟨R, hR⟩ : ∃ R, orI l = R := ⟨_, rfl⟩
  rw [hR]
  simp -implicitDefEqProofs [intsD]
  refine loopN l.length (fun k τ => τ 6 = .d (intsD l) ∧ τ 7 = .d (.int .i64 l.length) ∧ τ 8 = .d (.int .i64 k) ∧ τ 3 = .d (.int .i64 0) ∧ orI (l.drop k) = R) ⟨by simp [intsD], by simp, by simp, by simp, by simpa using hR⟩ ?_
  rintro k τ hk ⟨h6, h7, h8, h3, hI⟩
  by_cases hlt : k < l.length
  · have hlt' : (k : Int) < l.length := by omega
    rw [List.drop_eq_getElem_cons hlt, orI] at hI
    generalize hx : l[k] = x at *
    by_cases h0 : x = 0
    · rw [if_neg (by simpa using h0)] at hI
      simp -implicitDefEqProofs [h6, h7, h8, h3, intsD, hlt, hlt', hx, h0]
      repeat refine And.intro (by omega) ?_
      exact again hlt ⟨by simp [h6, intsD], by simp [h7], by simp, by simp [h3], hI⟩
    · rw [if_pos h0] at hI
      rw [hI] at hx h0
      simp -implicitDefEqProofs [h6, h7, h8, h3, intsD, hlt, hlt', hx, h0]
  · have hlt' : ¬ (k : Int) < l.length := by omega
    rw [List.drop_eq_nil_of_le (by omega), orI] at hI
    subst hI
    simp -implicitDefEqProofs [h6, h7, h8, h3, hlt']

/-! ### parents -/
theorem parentU_eq (s : Str) : parentU s = if validU s = true then (match (parseU s).1 with | _ :: l => ((formatU l).1, true) | [] => ([], false)) else ([], false) := by
  rw [parentU, normU_eq]
  by_cases h : validU s = true
  · rw [if_pos h, if_pos h]; cases (parseU s).1 <;> rfl
  · rw [if_neg h, if_neg h]
theorem FitN.tail {p : Pair} {l : List Pair} (h : FitN (p :: l)) : FitN l := ⟨by have := h.1; simp at this; omega, fun q hq => h.2 q (by simp [hq])⟩
theorem nparent_fn (s : Str) (hs : List.length s < 900000) : Ctr Tryz.prog 61 [.d (.str s)] (.tup [.d (.str (parentU s).1), .d (.bool (parentU s).2)]) := by
  refine fn_of_vwpN (rv := .tmp 2) (rs := [.tmp 3]) (r := .d (.str (parentU s).1)) (ys := [.d (.bool (parentU s).2)]) (fun i => false) (by kernel_rfl) Tryz.func61 (by kernel_rfl) rfl rfl (by simp) (Nat.le_of_ble_eq_true rfl) (by kernel_rfl) rfl rfl ?_
  have c1 := nnormal_fn s hs
  have hf := parseU_fitN s
  rw [parentU_eq]
  generalize (parseU s).1 = l at *
  simp only [pairs] at c1
  by_cases hv : validU s = true
  · cases l with
    | nil =>
      simp -implicitDefEqProofs
      refine callK c1 ?_
      simp -implicitDefEqProofs [hv]
    | cons p l =>
      rw [if_pos hv]
      dsimp only
      have c2 := nformat_fn l hf.tail
      have hlen : ¬ ((l.length : Int) + 1 = 0) := by omega
      have htk : List.take l.length (l.map pairD) = l.map pairD := List.take_of_length_le (by simp)
      generalize formatU l = G at *
      obtain ⟨t, g⟩ := G
      simp only [pairs] at c2
      simp -implicitDefEqProofs
      refine callK c1 ?_
      simp -implicitDefEqProofs [hv, hlen, htk]
      refine ⟨⟨rfl, by rintro _ x y _ rfl; rfl⟩, ?_⟩
      refine callK c2 ?_
      simp -implicitDefEqProofs
  · simp -implicitDefEqProofs
    refine callK c1 ?_
    simp -implicitDefEqProofs [hv]
theorem partsU_parse {s : Str} (h : validU s = true) : partsU s = (parseU s).1 := by rw [partsU_eq, if_pos h]
theorem nparentR_fn (s : Str) (hs : List.length s < 900000) : Ctr Tryz.prog 17 [.d (.str s)] (.tup [.d (.str (parentU s).1), .d (.bool (parentU s).2)]) := by
  refine fn_of_vwpN (rv := .tmp 2) (rs := [.tmp 3]) (r := .d (.str (parentU s).1)) (ys := [.d (.bool (parentU s).2)]) (fun i => false) (by kernel_rfl) Tryz.func17 (by kernel_rfl) rfl rfl (by simp) (Nat.le_of_ble_eq_true rfl) (by kernel_rfl) rfl rfl ?_
  have c1 := nparts_fn s hs
  have hf := parseU_fitN s
  rw [parentU_eq]
  by_cases hv : validU s = true
  · rw [partsU_parse hv] at c1
    generalize (parseU s).1 = l at *
    simp only [pairs] at c1
    cases l with
    | nil =>
      simp -implicitDefEqProofs
      refine callK c1 ?_
      simp -implicitDefEqProofs [hv]
    | cons p l =>
      rw [if_pos hv]
      dsimp only
      have c2 := nformatR_fn l hf.tail
      have hlen : ¬ ((l.length : Int) + 1 = 0) := by omega
      have htk : List.take l.length (l.map pairD) = l.map pairD := List.take_of_length_le (by simp)
      generalize formatU l = G at *
      obtain ⟨t, g⟩ := G
      simp only [pairs] at c2
      simp -implicitDefEqProofs
      refine callK c1 ?_
      simp -implicitDefEqProofs [hv, hlen, htk]
      refine ⟨⟨rfl, by rintro _ x y _ rfl; rfl⟩, ?_⟩
      refine callK c2 ?_
      simp -implicitDefEqProofs
  · simp only [pairs] at c1
    simp -implicitDefEqProofs
    refine callK c1 ?_
    simp -implicitDefEqProofs [hv]

/-! ### renames -/
theorem rebaseU_eq (s fr to : Str) : rebaseU s fr to = if validU s = true ∧ validU fr = true ∧ validU to = true then
    (if lastU (parseU s).1 (parseU fr).1 = true then formatU ((parseU s).1.take ((parseU s).1.length - (parseU fr).1.length) ++ (parseU to).1) else ([], 6)) else ([], 4) := by
  rw [rebaseU, normU_eq, normU_eq, normU_eq]
  by_cases h1 : validU s = true <;> by_cases h2 : validU fr = true <;> by_cases h3 : validU to = true <;> simp [h1, h2, h3] <;> rfl
theorem valid_len8 {s : Str} (h : validU s = true) : (parseU s).1.length ≤ 8 := by
  have hn : normU s = some (parseU s).1 := by rw [normU_eq, if_pos h]
  exact (normU_inv hn).2.1
theorem fit_cut {l m : List Pair} (hl : FitN l) (hm : FitN m) (h8 : l.length ≤ 8) (h8' : m.length ≤ 8) (k : Nat) : FitN (l.take k ++ m) := by
  refine ⟨by simp; omega, fun p hp => ?_⟩
  rcases List.mem_append.1 hp with hp | hp
  · exact hl.2 p (List.mem_of_mem_take hp)
  · exact hm.2 p hp
theorem wp_take (l : List Pair) (k : Nat) : ∀ u : D, u ∈ List.take k (l.map pairD) → width u = 2 := fun u hu => by
  obtain ⟨p, _, rfl⟩ := List.mem_map.1 (List.mem_of_mem_take hu); rfl
theorem wp_all (l : List Pair) : ∀ (u : D) (x y : Str), (x, y) ∈ l → pairD (x, y) = u → width u = 2 := by
  rintro _ x y _ rfl; rfl
theorem nrebase_fn (s fr to : Str) (hs : List.length s < 900000) (hf : List.length fr < 900000) (ht : List.length to < 900000) :
    Ctr Tryz.prog 63 [.d (.str s), .d (.str fr), .d (.str to)] (.tup [.d (.str (rebaseU s fr to).1), .d (.int .i64 (rebaseU s fr to).2)]) := by
  refine fn_of_vwpN (rv := .tmp 6) (rs := [.tmp 7]) (r := .d (.str (rebaseU s fr to).1)) (ys := [.d (.int .i64 (rebaseU s fr to).2)]) (fun i => false) (by kernel_rfl) Tryz.func63 (by kernel_rfl) rfl rfl (by simp) (Nat.le_of_ble_eq_true rfl) (by kernel_rfl) rfl rfl ?_
  have c1 := nnormal_fn s hs
  have c2 := nnormal_fn fr hf
  have c3 := nnormal_fn to ht
  have f1 := parseU_fitN s
  have f2 := parseU_fitN fr
  have f3 := parseU_fitN to
  have c4 := nlast_fn (parseU s).1 (parseU fr).1 f1.1 f2.1
  have g1 := @valid_len8 s
  have g3 := @valid_len8 to
  rw [rebaseU_eq]
  generalize (parseU s).1 = l at *
  generalize (parseU fr).1 = m at *
  generalize (parseU to).1 = n at *
  simp only [pairs] at c1 c2 c3 c4
  by_cases h1 : validU s = true
  case neg =>
    simp -implicitDefEqProofs
    refine callK c1 ?_
    simp -implicitDefEqProofs
    refine callK c2 ?_
    simp -implicitDefEqProofs
    refine callK c3 ?_
    simp -implicitDefEqProofs [h1]
  by_cases h2 : validU fr = true
  case neg =>
    simp -implicitDefEqProofs
    refine callK c1 ?_
    simp -implicitDefEqProofs
    refine callK c2 ?_
    simp -implicitDefEqProofs
    refine callK c3 ?_
    simp -implicitDefEqProofs [h1, h2]
  by_cases h3 : validU to = true
  case neg =>
    simp -implicitDefEqProofs
    refine callK c1 ?_
    simp -implicitDefEqProofs
    refine callK c2 ?_
    simp -implicitDefEqProofs
    refine callK c3 ?_
    simp -implicitDefEqProofs [h1, h2, h3]
  rw [if_pos ⟨h1, h2, h3⟩]
  by_cases h4 : lastU l m = true
  case neg =>
    simp -implicitDefEqProofs
    refine callK c1 ?_
    simp -implicitDefEqProofs
    refine callK c2 ?_
    simp -implicitDefEqProofs
    refine callK c3 ?_
    simp -implicitDefEqProofs [h1, h2, h3]
    refine callK c4 ?_
    simp -implicitDefEqProofs [h4]
  rw [if_pos h4]
  have hle : m.length ≤ l.length := by simp only [lastU, Bool.and_eq_true, decide_eq_true_eq] at h4; exact h4.1
  have c5 := nformat_fn (l.take (l.length - m.length) ++ n) (fit_cut f1 f3 (g1 h1) (g3 h3) _)
  have i0 : (0 : Int) ≤ (l.length : Int) - m.length := by omega
  have j0 : ((l.length : Int) - m.length).toNat = l.length - m.length := by omega
  have i2 : (m.length : Int) ≤ (l.length : Int) := by omega
  have g8 := g1 h1
  have g9 := g3 h3
  generalize formatU (l.take (l.length - m.length) ++ n) = G at *
  obtain ⟨x, g⟩ := G
  simp only [pairs, List.map_append, List.map_take] at c5
  simp -implicitDefEqProofs
  refine callK c1 ?_
  simp -implicitDefEqProofs
  refine callK c2 ?_
  simp -implicitDefEqProofs
  refine callK c3 ?_
  simp -implicitDefEqProofs [h1, h2, h3]
  refine callK c4 ?_
  have j8 : l.length - m.length ≤ l.length := by omega
  have hmin : min (l.length - m.length) l.length = l.length - m.length := by omega
  simp -implicitDefEqProofs [h4, i0, j0, i2, j8, hmin]
  repeat refine And.intro (by omega) ?_
  refine ⟨wp_take l _, wp_all n, by omega, by omega, ?_⟩
  refine callK c5 ?_
  simp -implicitDefEqProofs
theorem nrebaseR_fn (s fr to : Str) (hs : List.length s < 900000) (hf : List.length fr < 900000) (ht : List.length to < 900000) :
    Ctr Tryz.prog 71 [.d (.str s), .d (.str fr), .d (.str to)] (.tup [.d (.str (rebaseU s fr to).1), .d (.int .i64 (rebaseU s fr to).2)]) := by
  refine fn_of_vwpN (rv := .tmp 6) (rs := [.tmp 7]) (r := .d (.str (rebaseU s fr to).1)) (ys := [.d (.int .i64 (rebaseU s fr to).2)]) (fun i => false) (by kernel_rfl) Tryz.func71 (by kernel_rfl) rfl rfl (by simp) (Nat.le_of_ble_eq_true rfl) (by kernel_rfl) rfl rfl ?_
  have c1 := nparts_fn s hs
  have c2 := nparts_fn fr hf
  have c3 := nparts_fn to ht
  have c4 := nunderR_fn s fr hs hf
  have f1 := partsU_fitN s
  have f3 := partsU_fitN to
  have hu : validU s = true → validU fr = true → underU s fr = lastU (partsU s) (partsU fr) := fun q1 q2 => by
    rw [underU_eq, q1, q2, partsU_parse q1, partsU_parse q2]; rfl
  have g1 := @valid_len8 s
  have g3 := @valid_len8 to
  have p1 := @partsU_parse s
  have p2 := @partsU_parse fr
  have p3 := @partsU_parse to
  rw [rebaseU_eq]
  generalize (parseU s).1 = l0 at *
  generalize (parseU fr).1 = m0 at *
  generalize (parseU to).1 = n0 at *
  generalize partsU s = l at *
  generalize partsU fr = m at *
  generalize partsU to = n at *
  generalize underU s fr = U at *
  simp only [pairs] at c1 c2 c3 c4
  by_cases h1 : validU s = true
  case neg =>
    simp -implicitDefEqProofs
    refine callK c1 ?_
    simp -implicitDefEqProofs
    refine callK c2 ?_
    simp -implicitDefEqProofs
    refine callK c3 ?_
    simp -implicitDefEqProofs [h1]
  by_cases h2 : validU fr = true
  case neg =>
    simp -implicitDefEqProofs
    refine callK c1 ?_
    simp -implicitDefEqProofs
    refine callK c2 ?_
    simp -implicitDefEqProofs
    refine callK c3 ?_
    simp -implicitDefEqProofs [h1, h2]
  by_cases h3 : validU to = true
  case neg =>
    simp -implicitDefEqProofs
    refine callK c1 ?_
    simp -implicitDefEqProofs
    refine callK c2 ?_
    simp -implicitDefEqProofs
    refine callK c3 ?_
    simp -implicitDefEqProofs [h1, h2, h3]
  obtain rfl := p1 h1
  obtain rfl := p2 h2
  obtain rfl := p3 h3
  have hu2 := hu h1 h2
  rw [if_pos ⟨h1, h2, h3⟩]
  by_cases h4 : lastU l m = true
  case neg =>
    rw [if_neg h4]
    have h4' : U = false := by rw [hu2]; simpa using h4
    simp -implicitDefEqProofs
    refine callK c1 ?_
    simp -implicitDefEqProofs
    refine callK c2 ?_
    simp -implicitDefEqProofs
    refine callK c3 ?_
    simp -implicitDefEqProofs [h1, h2, h3]
    refine callK c4 ?_
    simp -implicitDefEqProofs [h4']
  rw [if_pos h4]
  have h4' : U = true := by rw [hu2]; exact h4
  have hle : m.length ≤ l.length := by simp only [lastU, Bool.and_eq_true, decide_eq_true_eq] at h4; exact h4.1
  have g8 := g1 h1
  have g9 := g3 h3
  have c5 := nformatR_fn (l.take (l.length - m.length) ++ n) (fit_cut f1 f3 g8 g9 _)
  have i0 : (0 : Int) ≤ (l.length : Int) - m.length := by omega
  have j0 : ((l.length : Int) - m.length).toNat = l.length - m.length := by omega
  have i2 : (m.length : Int) ≤ (l.length : Int) := by omega
  have j8 : l.length - m.length ≤ l.length := by omega
  have hmin : min (l.length - m.length) l.length = l.length - m.length := by omega
  generalize formatU (l.take (l.length - m.length) ++ n) = G at *
  obtain ⟨x, g⟩ := G
  simp only [pairs, List.map_append, List.map_take] at c5
  simp -implicitDefEqProofs
  refine callK c1 ?_
  simp -implicitDefEqProofs
  refine callK c2 ?_
  simp -implicitDefEqProofs
  refine callK c3 ?_
  simp -implicitDefEqProofs [h1, h2, h3]
  refine callK c4 ?_
  simp -implicitDefEqProofs [h4', i0, j0, i2, j8, hmin]
  repeat refine And.intro (by omega) ?_
  refine ⟨wp_all l, wp_take l _, by omega, by omega, wp_all n, by omega, by omega, ?_⟩
  refine callK c5 ?_
  simp -implicitDefEqProofs

/-! ### the order -/
theorem getElem_rev {l : List Pair} {k : Nat} (h : k < l.length) : l.reverse[k]'(by simpa using h) = l[l.length - 1 - k]'(by omega) := by
  rw [List.getElem_reverse]
theorem norder_fn (l m : List Pair) (k : Nat) (hk : k < l.length) (hk' : k < m.length) (hl : l.length < 1000000) (hm : m.length < 1000000) :
    Ctr Tryz.prog 94 [.d (.int .i64 k), .d (.ref (pairs l)), .d (.ref (pairs m))] (.d (.int .i64 (cmpP (l[l.length - 1 - k]'(by omega)) (m[m.length - 1 - k]'(by omega))))) := by
  refine fn_of_vwp (fun i => i == 9000001) (by kernel_rfl) Tryz.func94 (by kernel_rfl) rfl rfl (Nat.le_of_ble_eq_true rfl) (by kernel_rfl) rfl rfl ?_
  have i1 : (0 : Int) ≤ (l.length : Int) - 1 - k := by omega
  have i2 : (0 : Int) ≤ (m.length : Int) - 1 - k := by omega
  have e1 : ((l.length : Int) - 1 - k).toNat = l.length - 1 - k := by omega
  have e2 : ((m.length : Int) - 1 - k).toNat = m.length - 1 - k := by omega
  have b1 : l.length - 1 - k < l.length := by omega
  have b2 : m.length - 1 - k < m.length := by omega
  generalize hx : l[l.length - 1 - k] = x
  generalize hy : m[m.length - 1 - k] = y
  obtain ⟨x1, x2⟩ := x
  obtain ⟨y1, y2⟩ := y
  have c1 := cmpStr_fn x1 y1
  have c2 := cmpStr_fn x2 y2
  have c3 := cmpOr_fn [ordS x1 y1, ordS x2 y2] (by simp)
  have hor : orI [ordS x1 y1, ordS x2 y2] = cmpP (x1, x2) (y1, y2) := by
    unfold cmpP
    simp only [orI]
    by_cases h : ordS x1 y1 = 0
    · by_cases h' : ordS x2 y2 = 0 <;> simp [h, h']
    · simp [h]
  rw [hor] at c3
  simp only [intsD, List.map_cons, List.map_nil] at c3
  simp -implicitDefEqProofs [pairs, i1, i2, e1, e2, b1, b2, hx, hy, pairD]
  repeat refine And.intro (by omega) ?_
  refine callP c1 ?_
  simp -implicitDefEqProofs
  refine callP c2 ?_
  simp -implicitDefEqProofs
  refine ⟨by decide, callP c3 ?_⟩
  simp -implicitDefEqProofs
theorem cmpL_step {l m : List Pair} {k : Nat} (hk : k < l.length) (hk' : k < m.length) : cmpL (l.reverse.drop k) (m.reverse.drop k) =
    if cmpP (l[l.length - 1 - k]'(by omega)) (m[m.length - 1 - k]'(by omega)) = 0 then cmpL (l.reverse.drop (k + 1)) (m.reverse.drop (k + 1)) else cmpP (l[l.length - 1 - k]'(by omega)) (m[m.length - 1 - k]'(by omega)) := by
  rw [List.drop_eq_getElem_cons (show k < l.reverse.length by simpa using hk), List.drop_eq_getElem_cons (show k < m.reverse.length by simpa using hk'), cmpL, getElem_rev hk, getElem_rev hk']
theorem cmpL_end {l m : List Pair} {k : Nat} (hk : k = min l.length m.length) : cmpL (l.reverse.drop k) (m.reverse.drop k) = ordI l.length m.length := by
  rcases Nat.lt_trichotomy l.length m.length with h | h | h
  · have e1 : l.reverse.drop k = [] := List.drop_eq_nil_of_le (by simp; omega)
    rw [e1, List.drop_eq_getElem_cons (show k < m.reverse.length by simp; omega), cmpL, ordI, if_pos (by omega)]
  · rw [List.drop_eq_nil_of_le (by simp; omega), List.drop_eq_nil_of_le (by simp; omega), cmpL, ordI, if_neg (by omega), if_neg (by omega)]
  · have e1 : m.reverse.drop k = [] := List.drop_eq_nil_of_le (by simp; omega)
    rw [e1, List.drop_eq_getElem_cons (show k < l.reverse.length by simp; omega), cmpL, ordI, if_neg (by omega), if_pos (by omega)]
theorem cmpN_eq (a b : Str) : cmpN a b = if validU a = true then (if validU b = true then cmpL (parseU a).1.reverse (parseU b).1.reverse else -1) else (if validU b = true then 1 else ordS a b) := by
  rw [cmpN, normU_eq, normU_eq]
  by_cases h1 : validU a = true <;> by_cases h2 : validU b = true <;> simp [h1, h2]
def CoI (l m : List Pair) (R : Int) (k : Nat) (τ : St) : Prop := τ 9 = .d (.clo 94 [.ref (pairs l), .ref (pairs m)]) ∧ τ 5 = .d (.ref (pairs l)) ∧ τ 7 = .d (.ref (pairs m)) ∧ τ 45 = .d (.int .i64 (min l.length m.length : Nat)) ∧ τ 46 = .d (.int .i64 k) ∧ cmpL (l.reverse.drop k) (m.reverse.drop k) = R
theorem min_if (a b : Nat) : (if (b : Int) < a then (b : Int) else a) = ((min a b : Nat) : Int) := by
  split <;> omega
theorem ncompare_fn (a b : Str) (ha : List.length a < 900000) (hb : List.length b < 900000) : Ctr Tryz.prog 73 [.d (.str a), .d (.str b)] (.d (.int .i64 (cmpN a b))) := by
  refine fn_of_vwp (fun i => false) (by kernel_rfl) Tryz.func73 (by kernel_rfl) rfl rfl (Nat.le_of_ble_eq_true rfl) (by kernel_rfl) rfl rfl ?_
  have c1 := nnormal_fn a ha
  have c2 := nnormal_fn b hb
  have c3 := cmpStr_fn a b
  have f1 := (parseU_fitN a).1
  have f2 := (parseU_fitN b).1
  rw [cmpN_eq]
  generalize (parseU a).1 = l at *
  generalize (parseU b).1 = m at *
  simp only [pairs] at c1 c2
  by_cases h1 : validU a = true
  · by_cases h2 : validU b = true
    · rw [if_pos h1, if_pos h2]
      obtain ⟨R, hR⟩ : ∃ R, cmpL l.reverse m.reverse = R := ⟨_, rfl⟩
      rw [hR]
      simp -implicitDefEqProofs
      refine callK c1 ?_
      simp -implicitDefEqProofs
      refine callK c2 ?_
      simp -implicitDefEqProofs [h1, h2, min_if]
      refine loopN (min l.length m.length) (CoI l m R) ⟨by simp [pairs], by simp [pairs], by simp [pairs], by simp; split <;> omega, by simp, by simpa using hR⟩ ?_
      rintro k τ hk ⟨g9, g5, g7, g45, g46, hI⟩
      by_cases hlt : k < min l.length m.length
      · have hk1 : k < l.length := by omega
        have hk2 : k < m.length := by omega
        have hlt' : (k : Int) < ((min l.length m.length : Nat) : Int) := by omega
        have c4 := norder_fn l m k hk1 hk2 f1 f2
        rw [cmpL_step hk1 hk2] at hI
        simp only [pairs] at c4
        generalize cmpP (l[l.length - 1 - k]'(by omega)) (m[m.length - 1 - k]'(by omega)) = C at *
        generalize hmn : min l.length m.length = N at *
        by_cases h0 : C = 0
        · rw [if_pos h0] at hI
          subst h0
          simp -implicitDefEqProofs [g9, g5, g7, g45, g46, hlt']
          refine callK c4 ?_
          simp -implicitDefEqProofs [g9, g5, g7, g45, g46, hlt']
          repeat refine And.intro (by omega) ?_
          exact again hlt ⟨by simp [g9, pairs], by simp [g5, pairs], by simp [g7, pairs], by simp [g45, hmn], by simp, hI⟩
        · rw [if_neg h0] at hI
          rw [hI] at c4 h0
          simp -implicitDefEqProofs [g9, g5, g7, g45, g46, hlt']
          refine callK c4 ?_
          simp -implicitDefEqProofs [g9, g5, g7, g45, g46, hlt', h0]
      · have hke : k = min l.length m.length := by omega
        have hlt' : ¬ (k : Int) < ((min l.length m.length : Nat) : Int) := by omega
        have c4 := cmpI_fn l.length m.length
        rw [cmpL_end hke] at hI
        rw [hI] at c4
        generalize min l.length m.length = N at *
        simp -implicitDefEqProofs [g9, g5, g7, g45, g46, hlt', pairs]
        refine callK c4 ?_
        simp -implicitDefEqProofs [g9, g5, g7, g45, g46]
    · simp -implicitDefEqProofs
      refine callK c1 ?_
      simp -implicitDefEqProofs
      refine callK c2 ?_
      simp -implicitDefEqProofs [h1, h2]
  · by_cases h2 : validU b = true
    · simp -implicitDefEqProofs
      refine callK c1 ?_
      simp -implicitDefEqProofs
      refine callK c2 ?_
      simp -implicitDefEqProofs [h1, h2]
    · simp -implicitDefEqProofs
      refine callK c1 ?_
      simp -implicitDefEqProofs
      refine callK c2 ?_
      simp -implicitDefEqProofs [h1, h2]
      refine callK c3 ?_
      simp -implicitDefEqProofs
def CrI (l m : List Pair) (R : Int) (k : Nat) (τ : St) : Prop := τ 5 = .d (pairs l) ∧ τ 7 = .d (pairs m) ∧ τ 9 = .d (.int .i64 (k + 1 : Nat)) ∧ cmpL (l.reverse.drop k) (m.reverse.drop k) = R
theorem ncompareR_fn (a b : Str) (ha : List.length a < 900000) (hb : List.length b < 900000) : Ctr Tryz.prog 20 [.d (.str a), .d (.str b)] (.d (.int .i64 (cmpN a b))) := by
  refine fn_of_vwp (fun i => i == 9000012) (by kernel_rfl) Tryz.func20 (by kernel_rfl) rfl rfl (Nat.le_of_ble_eq_true rfl) (by kernel_rfl) rfl rfl ?_
  have c1 := nparts_fn a ha
  have c2 := nparts_fn b hb
  have c3 := nbytes_fn a b
  have f1 := (partsU_fitN a).1
  have f2 := (partsU_fitN b).1
  have p1 := @partsU_parse a
  have p2 := @partsU_parse b
  rw [cmpN_eq]
  generalize (parseU a).1 = l0 at *
  generalize (parseU b).1 = m0 at *
  generalize partsU a = l at *
  generalize partsU b = m at *
  simp only [pairs] at c1 c2
  by_cases h1 : validU a = true
  · by_cases h2 : validU b = true
    · rw [if_pos h1, if_pos h2]
      obtain rfl := p1 h1
      obtain rfl := p2 h2
      obtain ⟨R, hR⟩ : ∃ R, cmpL l.reverse m.reverse = R := ⟨_, rfl⟩
      rw [hR]
      simp -implicitDefEqProofs
      refine callK c1 ?_
      simp -implicitDefEqProofs
      refine callK c2 ?_
      simp -implicitDefEqProofs [h1, h2]
      refine loopN (min l.length m.length) (CrI l m R) ⟨by simp [pairs], by simp [pairs], by simp, by simpa using hR⟩ ?_
      rintro k τ hk ⟨g5, g7, g9, hI⟩
      by_cases hlt : k < min l.length m.length
      · have hk1 : k < l.length := by omega
        have hk2 : k < m.length := by omega
        have l1 : (k : Int) + 1 ≤ (l.length : Int) := by omega
        have l2 : (k : Int) + 1 ≤ (m.length : Int) := by omega
        have i1 : (0 : Int) ≤ (l.length : Int) - (k + 1) := by omega
        have i2 : (0 : Int) ≤ (m.length : Int) - (k + 1) := by omega
        have e1 : ((l.length : Int) - (k + 1)).toNat = l.length - 1 - k := by omega
        have e2 : ((m.length : Int) - (k + 1)).toNat = m.length - 1 - k := by omega
        have b1 : l.length - 1 - k < l.length := by omega
        have b2 : m.length - 1 - k < m.length := by omega
        rw [cmpL_step hk1 hk2] at hI
        generalize hx : l[l.length - 1 - k]'(by omega) = x at *
        generalize hy : m[m.length - 1 - k]'(by omega) = y at *
        obtain ⟨x1, x2⟩ := x
        obtain ⟨y1, y2⟩ := y
        have c4 := nbytes_fn x1 y1
        have c5 := nbytes_fn x2 y2
        simp only [cmpP] at hI
        have z1 := @ordS_zero x1 y1
        have z2 := @ordS_zero x2 y2
        generalize ordS x1 y1 = U at *
        generalize ordS x2 y2 = V at *
        by_cases q1 : x1 = y1
        · have u0 := z1.2 q1
          simp only [if_pos u0] at hI
          by_cases q2 : x2 = y2
          · have v0 := z2.2 q2
            rw [if_pos v0] at hI
            simp -implicitDefEqProofs [g5, g7, g9, pairs, l1, l2, i1, i2, e1, e2, b1, b2, hx, hy, pairD, q1, q2]
            repeat refine And.intro (by omega) ?_
            exact again hlt ⟨by simp [g5, pairs], by simp [g7, pairs], by simp, hI⟩
          · have v0 : ¬ V = 0 := fun e => q2 (z2.1 e)
            rw [if_neg v0] at hI
            subst hI
            simp -implicitDefEqProofs [g5, g7, g9, pairs, l1, l2, i1, i2, e1, e2, b1, b2, hx, hy, pairD, q1, q2]
            repeat refine And.intro (by omega) ?_
            refine callK c5 ?_
            simp -implicitDefEqProofs
        · have u0 : ¬ U = 0 := fun e => q1 (z1.1 e)
          simp only [if_neg u0] at hI
          subst hI
          simp -implicitDefEqProofs [g5, g7, g9, pairs, l1, l2, i1, i2, e1, e2, b1, b2, hx, hy, pairD, q1]
          repeat refine And.intro (by omega) ?_
          refine callK c4 ?_
          simp -implicitDefEqProofs
      · have hke : k = min l.length m.length := by omega
        rw [cmpL_end hke] at hI
        unfold ordI at hI
        by_cases l1 : (k : Int) + 1 ≤ (l.length : Int)
        · have l2 : ¬ (k : Int) + 1 ≤ (m.length : Int) := by omega
          have l3 : ¬ (l.length : Int) < m.length := by omega
          have l4 : (m.length : Int) < l.length := by omega
          rw [if_neg l3, if_pos l4] at hI
          subst hI
          simp -implicitDefEqProofs [g5, g7, g9, pairs, l1, l2, l3, l4]
        · by_cases l3 : (l.length : Int) < m.length
          · rw [if_pos l3] at hI
            subst hI
            simp -implicitDefEqProofs [g5, g7, g9, pairs, l1, l3]
          · have l4 : ¬ (m.length : Int) < l.length := by omega
            rw [if_neg l3, if_neg l4] at hI
            subst hI
            simp -implicitDefEqProofs [g5, g7, g9, pairs, l1, l3, l4]
    · simp -implicitDefEqProofs
      refine callK c1 ?_
      simp -implicitDefEqProofs
      refine callK c2 ?_
      simp -implicitDefEqProofs [h1, h2]
  · by_cases h2 : validU b = true
    · simp -implicitDefEqProofs
      refine callK c1 ?_
      simp -implicitDefEqProofs
      refine callK c2 ?_
      simp -implicitDefEqProofs [h1, h2]
    · simp -implicitDefEqProofs
      refine callK c1 ?_
      simp -implicitDefEqProofs
      refine callK c2 ?_
      simp -implicitDefEqProofs [h1, h2]
      refine callK c3 ?_
      simp -implicitDefEqProofs
end Go.Proofs.Tz

/- The tree of entries: its data; made, has, parented, Len, copied, Get. -/
set_option maxRecDepth 100000
set_option maxHeartbeats 4000000
set_option linter.unusedSimpArgs false
set_option linter.unusedVariables false
namespace Go.Proofs.Tz
open Go.Vw Go.RowKit Go.Proofs

def entD (e : Ent) : D := .agg [.str e.1, atts e.2]
def mapE (E : List Ent) : List (D × D) := E.map fun e => (.str e.1, atts e.2)
/-- The two named things of a tree. -/
def tr (p u : Nat) (E : List Ent) (X : Option (List (D × Nat) × Nat)) : List AV := [.hb (va p) 61 (.agg [.raw (.map (some u))]), .hm (.map (some u)) 9 (mapE E) X]
/-- The same tree, its map at rest or not. -/
def TR (p u : Nat) (E : List Ent) (hs : List AV) : Prop := ∃ X, hs = tr p u E X
theorem mget_E (E : List Ent) (s : Str) : mget (mapE E) (.str s) = (getE E s).map atts := by
  unfold mget mapE getE
  rw [List.find?_map]
  have : ((fun p : D × D => keyEq p.1 (.str s)) ∘ fun e : Ent => ((.str e.1 : D), atts e.2)) = fun e : Ent => decide (e.1 = s) := by
    funext e; simp [keyEq]
  rw [this]
  cases List.find? (fun e : Ent => decide (e.1 = s)) E <;> rfl
theorem getE_has {E : List Ent} {s : Str} : hasE E s = (getE E s).isSome := by
  unfold hasE getE
  rw [Option.isSome_map, Bool.eq_iff_iff, List.any_eq_true, List.find?_isSome]
theorem mapE_len (E : List Ent) : (mapE E).length = E.length := by simp [mapE]
theorem fit_str (s : Str) : keyFit (Tryz.prog.underlying 9) (.str s) = true := by
  have : Tryz.prog.underlying 9 = some .string := by kernel_rfl
  rw [this]; rfl
theorem map59 : Tryz.prog.underlying 59 = some (.map 9 34) := by kernel_rfl

theorem tmade_fn (p u : Nat) (E : List Ent) (X : Option (List (D × Nat) × Nat)) : CtrG Tryz.prog 49 [.d (.raw (va p))] (tr p u E X) (fun r hs' => r = .d (.bool true) ∧ hs' = tr p u E X) := by
  refine fn_of_vwpG (fun _ => false) (by kernel_rfl) Tryz.func49 (by kernel_rfl) rfl rfl (Nat.le_of_ble_eq_true rfl) (by kernel_rfl) rfl ?_
  simp -implicitDefEqProofs [initG, tr]
  refine rawFd (e := 61) (ds := [.raw (.map (some u))]) 1000000 (by simp [initG]) (by omega) (by simp) (by kernel_rfl) ?_
  simp -implicitDefEqProofs [initG]
  exact ⟨.d (.bool true), [1000000, 1000001], by simp, by simp [initG, tr, isH], by simp [ResG], by simp, by simp [initG, tr]⟩
theorem thas_fn (p u : Nat) (E : List Ent) (X : Option (List (D × Nat) × Nat)) (s : Str) : CtrG Tryz.prog 35 [.d (.raw (va p)), .d (.str s)] (tr p u E X) (fun r hs' => r = .d (.bool (hasE E s)) ∧ hs' = tr p u E X) := by
  refine fn_of_vwpG (fun _ => false) (by kernel_rfl) Tryz.func35 (by kernel_rfl) rfl rfl (Nat.le_of_ble_eq_true rfl) (by kernel_rfl) rfl ?_
  have hm := mget_E E s
  rw [getE_has]
  simp -implicitDefEqProofs [initG, tr]
  refine rawFd (e := 61) (ds := [.raw (.map (some u))]) 1000000 (by simp [initG]) (by omega) (by simp) (by kernel_rfl) ?_
  simp -implicitDefEqProofs [initG]
  refine lookK (m := mapE E) (E := X) 1000001 (by omega) map59 (by simp [initG]) (fit_str s) Tryz.zd_34 hm ?_
  cases getE E s with
  | none =>
    simp -implicitDefEqProofs [initG]
    exact ⟨.d (.bool false), [1000000, 1000001], by simp, by simp [initG, tr, isH], by simp [ResG], by simp, by simp [initG, tr]⟩
  | some a =>
    simp -implicitDefEqProofs [initG]
    exact ⟨.d (.bool true), [1000000, 1000001], by simp, by simp [initG, tr, isH], by simp [ResG], by simp, by simp [initG, tr]⟩
theorem tparented_fn (p u : Nat) (E : List Ent) (X : Option (List (D × Nat) × Nat)) (s : Str) (hs : List.length s < 900000) : CtrG Tryz.prog 64 [.d (.raw (va p)), .d (.str s)] (tr p u E X) (fun r hs' => r = .d (.bool (parentedE E s)) ∧ hs' = tr p u E X) := by
  refine fn_of_vwpG (fun i => i == 5000016) (by kernel_rfl) Tryz.func64 (by kernel_rfl) rfl rfl (Nat.le_of_ble_eq_true rfl) (by kernel_rfl) rfl ?_
  have c1 := nparent_fn s hs
  unfold parentedE
  generalize parentU s = q at *
  obtain ⟨t, b⟩ := q
  have c2 := thas_fn p u E X t
  simp -implicitDefEqProofs [initG, tr]
  refine callK c1 ?_
  cases b with
  | false =>
    simp -implicitDefEqProofs [initG, tr]
    exact ⟨.d (.bool false), [1000000, 1000001], by simp, by simp [initG, tr, isH], by simp [ResG], by simp, by simp [initG, tr]⟩
  | true =>
    simp -implicitDefEqProofs [initG, tr]
    refine givB [1000000, 1000001] 1000000 c2 (by simp [initG, tr]) rfl (by simp) ?_
    rintro r hs' ⟨rfl, rfl⟩
    simp -implicitDefEqProofs [initG, takeH, putH, tr]
    exact ⟨.d (.bool (hasE E t)), [1000000, 1000001], by simp, by simp [initG, tr, isH], by simp [ResG], by simp, by simp [initG, tr]⟩
theorem tlen_fn (p u : Nat) (E : List Ent) (X : Option (List (D × Nat) × Nat)) : CtrG Tryz.prog 25 [.d (.raw (va p))] (tr p u E X) (fun r hs' => r = .d (.int .i64 E.length) ∧ hs' = tr p u E X) := by
  refine fn_of_vwpG (fun i => i == 5000004) (by kernel_rfl) Tryz.func25 (by kernel_rfl) rfl rfl (Nat.le_of_ble_eq_true rfl) (by kernel_rfl) rfl ?_
  simp -implicitDefEqProofs [initG]
  refine givB [1000000, 1000001] 1000000 (tmade_fn p u E X) (by simp [initG, tr]) rfl (by simp) ?_
  rintro r hs' ⟨rfl, rfl⟩
  simp -implicitDefEqProofs [initG, takeH, putH, tr]
  refine rawFd (e := 61) (ds := [.raw (.map (some u))]) 1000000 (by simp [initG]) (by omega) (by simp) (by kernel_rfl) ?_
  simp -implicitDefEqProofs [initG]
  refine lenK (m := mapE E) (E := X) 1000001 (by omega) map59 (by simp [initG]) ?_
  simp -implicitDefEqProofs [initG, mapE_len]
  exact ⟨.d (.int .i64 E.length), [1000000, 1000001], by simp, by simp [initG, tr, isH], by simp [ResG], by simp, by simp [initG, tr]⟩
theorem tcopied_fn (p u : Nat) (E : List Ent) (X : Option (List (D × Nat) × Nat)) (s : Str) {a : List Att} (ha : getE E s = some a) (hf : Fit2 a) : CtrG Tryz.prog 53 [.d (.raw (va p)), .d (.str s)] (tr p u E X) (fun r hs' => r = .d (entD (s, sortedL a)) ∧ hs' = tr p u E X) := by
  refine fn_of_vwpGN (rs := [.cell 4 44]) (fun i => false) (by kernel_rfl) Tryz.func53 (by kernel_rfl) rfl rfl (by simp) (Nat.le_of_ble_eq_true rfl) (by kernel_rfl) rfl ?_
  have hm := mget_E E s
  rw [ha] at hm
  have c1 := sorted_fn a hf
  simp only [atts] at c1
  simp -implicitDefEqProofs [initG, tr]
  refine rawFd (e := 61) (ds := [.raw (.map (some u))]) 1000000 (by simp [initG]) (by omega) (by simp) (by kernel_rfl) ?_
  simp -implicitDefEqProofs [initG]
  refine lookK (m := mapE E) (E := X) 1000001 (by omega) map59 (by simp [initG]) (fit_str s) Tryz.zd_34 hm ?_
  simp -implicitDefEqProofs [initG, atts]
  refine callK c1 ?_
  simp -implicitDefEqProofs [initG]
  exact ⟨[.d (entD (s, sortedL a))], [1000000, 1000001], by simp, by simp [initG, tr, isH], by simp [resDs, resD, entD, atts], by simp, by simp [initG, tr]⟩
def getT (E : List Ent) (s : Str) : Ent × Bool := match getE E s with
  | some a => ((s, sortedL a), true)
  | none => (([], []), false)
def FE (E : List Ent) : Prop := ∀ e ∈ E, Fit2 e.2
theorem getE_in {E : List Ent} {s : Str} {a : List Att} (h : getE E s = some a) : (s, a) ∈ E := by
  unfold getE at h
  obtain ⟨e, he, rfl⟩ := Option.map_eq_some_iff.1 h
  have h1 := List.find?_some he
  have h2 := List.mem_of_find?_eq_some he
  simp only [decide_eq_true_eq] at h1
  subst h1
  exact h2
theorem tget_fn (p u : Nat) (E : List Ent) (X : Option (List (D × Nat) × Nat)) (s : Str) (hf : FE E) : CtrG Tryz.prog 18 [.d (.raw (va p)), .d (.str s)] (tr p u E X) (fun r hs' => r = .tup [.d (entD (getT E s).1), .d (.bool (getT E s).2)] ∧ hs' = tr p u E X) := by
  refine fn_of_vwpGN (rs := [.cell 4 44, .tmp 5]) (fun i => i == 5000007 || i == 5000012 || i == 5000018) (by kernel_rfl) Tryz.func18 (by kernel_rfl) rfl rfl (by simp) (Nat.le_of_ble_eq_true rfl) (by kernel_rfl) rfl ?_
  have c2 := thas_fn p u E X s
  rw [getE_has] at c2
  unfold getT
  simp -implicitDefEqProofs [initG]
  refine givB [1000000, 1000001] 1000000 (tmade_fn p u E X) (by simp [initG, tr]) rfl (by simp) ?_
  rintro r hs' ⟨rfl, rfl⟩
  simp -implicitDefEqProofs [initG, takeH, putH, tr]
  refine givB [1000000, 1000001] 1000000 c2 (by simp [initG, tr]) rfl (by simp) ?_
  rintro r hs' ⟨rfl, rfl⟩
  cases ha : getE E s with
  | none =>
    simp -implicitDefEqProofs [initG, takeH, putH, tr]
    exact ⟨[.d (entD ([], [])), .d (.bool false)], [1000000, 1000001], by simp, by simp [initG, tr, isH], by simp [resDs, resD, entD, atts], by simp, by simp [initG, tr]⟩
  | some a =>
    simp -implicitDefEqProofs [initG, takeH, putH, tr]
    refine givB [1000000, 1000001] 1000000 (tcopied_fn p u E X s ha (hf _ (getE_in ha))) (by simp [initG, tr]) rfl (by simp) ?_
    rintro r hs' ⟨rfl, rfl⟩
    simp -implicitDefEqProofs [initG, takeH, putH, tr, entD]
    refine ⟨rfl, rfl, ?_⟩
    exact ⟨[.d (entD (s, sortedL a)), .d (.bool true)], [1000000, 1000001], by simp, by simp [initG, tr, isH], by simp [resDs, resD, entD, atts], by simp [entD], by simp [initG, tr]⟩
end Go.Proofs.Tz

/- The tree of entries: ranges over its map; names, Children, Subtree. -/
set_option maxRecDepth 100000
set_option maxHeartbeats 4000000
set_option linter.unusedSimpArgs false
set_option linter.unusedVariables false
namespace Go.Proofs.Tz
open Go.Vw Go.RowKit Go.Proofs Go.Sort

/-- The keys that a range has seen. -/
structure Seen (K ss : List Str) (seen : List D) : Prop where
  eq : seen = ss.map .str
  nd : ss.Nodup
  sub : ∀ s ∈ ss, s ∈ K
theorem Seen.nil (K : List Str) : Seen K [] [] := ⟨rfl, List.nodup_nil, by simp⟩
theorem Seen.mem {K ss : List Str} {seen : List D} (h : Seen K ss seen) {s : Str} : D.str s ∈ seen ↔ s ∈ ss := by
  rw [h.eq]; simp
theorem Seen.next {K ss : List Str} {seen : List D} (h : Seen K ss seen) {s : Str} (hs : s ∈ K) (hn : D.str s ∉ seen) : Seen K (ss ++ [s]) (seen ++ [.str s]) := by
  rw [h.mem] at hn
  refine ⟨by rw [h.eq]; simp, ?_, ?_⟩
  · rw [List.nodup_append]
    refine ⟨h.nd, by simp, ?_⟩
    intro a ha b hb
    simp only [List.mem_singleton] at hb
    subst hb
    rintro rfl; exact hn ha
  · intro x hx
    rcases List.mem_append.1 hx with hx | hx
    · exact h.sub x hx
    · simp only [List.mem_singleton] at hx; subst hx; exact hs
theorem Seen.le {K ss : List Str} {seen : List D} (h : Seen K ss seen) (hK : K.Nodup) : ss.length ≤ K.length := by
  have hp : ss.Perm (K.filter fun s => decide (s ∈ ss)) := (List.perm_ext_iff_of_nodup h.nd (hK.filter _)).2 fun s => by
    simp only [List.mem_filter, decide_eq_true_eq]
    exact ⟨fun hs => ⟨h.sub s hs, hs⟩, fun hs => hs.2⟩
  rw [hp.length_eq]
  exact List.length_filter_le _ _
theorem Seen.lt {K ss : List Str} {seen : List D} (h : Seen K ss seen) (hK : K.Nodup) {s : Str} (hs : s ∈ K) (hn : D.str s ∉ seen) : ss.length < K.length := by
  have := (h.next hs hn).le hK
  simp only [List.length_append, List.length_singleton] at this
  omega
theorem Seen.all {K ss : List Str} {seen : List D} (h : Seen K ss seen) (hK : K.Nodup) (ha : ∀ s ∈ K, D.str s ∈ seen) : ss.Perm K :=
  (List.perm_ext_iff_of_nodup h.nd hK).2 fun s => ⟨h.sub s, fun hs => h.mem.1 (ha s hs)⟩
theorem mapE_mem {E : List Ent} {k v : D} (h : (k, v) ∈ mapE E) : ∃ s a, k = .str s ∧ v = atts a ∧ (s, a) ∈ E := by
  obtain ⟨⟨s, a⟩, he, h⟩ := List.mem_map.1 h
  simp only [Prod.mk.injEq] at h
  exact ⟨s, a, h.1.symm, h.2.symm, he⟩
theorem keys_mem {E : List Ent} {s : Str} {a : List Att} (h : (s, a) ∈ E) : s ∈ keysE E := List.mem_map.2 ⟨_, h, rfl⟩
theorem mapE_all {E : List Ent} {seen : List D} (h : ∀ p ∈ mapE E, p.1 ∈ seen) : ∀ s ∈ keysE E, D.str s ∈ seen := by
  intro s hs
  obtain ⟨e, he, rfl⟩ := List.mem_map.1 hs
  exact h (.str e.1, atts e.2) (List.mem_map.2 ⟨e, he, rfl⟩)

def NmI (p u : Nat) (E : List Ent) (f : Str → Bool) (g : FuncId) (caps : List D) (k : Nat) (τ : St) : Prop := ∃ ss seen e, Seen (keysE E) ss seen ∧ ss.length = k ∧ τ 0 = .d (.raw (va p)) ∧ τ 1 = .d (.clo g caps) ∧ τ 5 = .own true 9 ((ss.filter f).map .str) ∧ τ 11 = .mit (.map (some u)) e seen ∧
  τ 1000000 = .hb (va p) 61 (.agg [.raw (.map (some u))]) ∧ τ 1000001 = .hm (.map (some u)) 9 (mapE E) (some e)
theorem filter_snoc {α : Type} (f : α → Bool) (l : List α) (x : α) : (l ++ [x]).filter f = l.filter f ++ (if f x = true then [x] else []) := by
  rw [List.filter_append]; by_cases h : f x = true <;> simp [h]
theorem tnames_fn (p u : Nat) (E : List Ent) (X : Option (List (D × Nat) × Nat)) (hE : OrdE E) (hl : E.length < 100000) (f : Str → Bool) (g : FuncId) (caps : List D) (hc : (caps.all fun c => !c.isAgg) = true) (hg : ∀ s ∈ keysE E, Ctr Tryz.prog g ([.d (.str s)] ++ caps.map .d) (.d (.bool (f s))))
    (hsort : ∀ l : List Str, l.Perm ((keysE E).filter f) → l.length < 100000 → CtrI Tryz.prog 72 9 (l.map .str) [.d (.clo 73 [])] (((keysE E).filter f).map .str)) :
    CtrG Tryz.prog 50 [.d (.raw (va p)), .d (.clo g caps)] (tr p u E X) (fun r hs' => r = .own true 9 (((keysE E).filter f).map .str) ∧ TR p u E hs') := by
  refine fn_of_vwpG (fun i => i == 4 || i == 5 || i == 22 || i == 3000024) (by kernel_rfl) Tryz.func50 (by kernel_rfl) rfl rfl (Nat.le_of_ble_eq_true rfl) (by kernel_rfl) rfl ?_
  simp -implicitDefEqProofs [initG, tr]
  refine rawFd (e := 61) (ds := [.raw (.map (some u))]) 1000000 (by simp [initG]) (by omega) (by simp) (by kernel_rfl) ?_
  simp -implicitDefEqProofs [initG]
  refine rngK 1000001 map59 (by simp [initG]; exact ⟨rfl, rfl⟩) (fun e => ?_)
  simp -implicitDefEqProofs [initG]
  refine loopN (keysE E).length (NmI p u E f g caps) ⟨[], [], e, Seen.nil _, rfl, by simp [initG], by simp [initG], by simp [initG], by simp [initG], by simp [initG], by simp [initG]⟩ ?_
  clear e
  rintro k τ hk ⟨ss, seen, e, hS, hsl, g0, g1, g5, g11, gA, gB⟩
  simp -implicitDefEqProofs [g0, g1, g5, g11]
  refine nxtK 1000001 (by simp [gB]; exact ⟨rfl, rfl⟩) (fun x v hm hn => ?_) (fun hall => ?_)
  · obtain ⟨s, a, rfl, rfl, hin⟩ := mapE_mem hm
    have hin' := keys_mem hin
    have hS2 := hS.next hin' hn
    have hlt := hS.lt (NS.nodup hE) hin' hn
    rw [hsl] at hlt
    have c1 := hg s hin'
    simp -implicitDefEqProofs [g0, g1, g5, g11, gA, gB]
    refine entK (kt := 9) 1000001 (by simp [gB]) hm ?_
    simp -implicitDefEqProofs [g0, g1, g5, g11, gA, gB, hc]
    refine ⟨fun x hx => by
      have := List.all_eq_true.1 hc x hx
      cases x <;> first | rfl | simp [D.isAgg] at this, callK c1 ?_⟩
    have hfs := filter_snoc f ss s
    have hll : (ss.filter f).length ≤ E.length := by
      have h1 := List.length_filter_le f ss
      have h2 := hS.le (NS.nodup hE)
      simp only [keysE, List.length_map] at h2
      omega
    generalize hT2 : (ss ++ [s]).filter f = T2 at *
    generalize hT : ss.filter f = T at *
    by_cases hb : f s = true
    · rw [if_pos hb] at hfs
      simp -implicitDefEqProofs [g0, g1, g5, g11, gA, gB, hb]
      repeat refine And.intro (by omega) ?_
      exact again hlt ⟨ss ++ [s], seen ++ [.str s], e, hS2, by simp [hsl], by simp [g0], by simp [g1], by simp [hT2, hfs], by simp, by simp [gA], by simp [gB]⟩
    · rw [if_neg hb, List.append_nil] at hfs
      simp -implicitDefEqProofs [g0, g1, g5, g11, gA, gB, hb]
      exact again hlt ⟨ss ++ [s], seen ++ [.str s], e, hS2, by simp [hsl], by simp [g0], by simp [g1], by simp [g5, hT2, hfs], by simp, by simp [gA], by simp [gB]⟩
  · have hp := (hS.all (NS.nodup hE) (mapE_all hall)).filter f
    have hns : NS ((keysE E).filter f) := List.Pairwise.sublist List.filter_sublist hE
    have hll : (ss.filter f).length < 100000 := by
      have h1 := List.length_filter_le f ss
      have h2 := hS.le (NS.nodup hE)
      simp only [keysE, List.length_map] at h2
      omega
    have c1 := hsort _ hp hll
    generalize ss.filter f = T at *
    generalize (keysE E).filter f = T2 at *
    simp -implicitDefEqProofs [g0, g1, g5, g11, gA, gB]
    refine inKb c1 ?_
    simp -implicitDefEqProofs [g0, g1, g5, g11, gA, gB]
    exact ⟨.own true 9 (T2.map .str), [1000000, 1000001], by simp, by simp [gA, isH], by simp [ResG], by simp, by simp [gA, TR, tr]⟩
end Go.Proofs.Tz

/- The tree of entries: the sort of names; Children, Subtree. -/
set_option maxRecDepth 100000
set_option maxHeartbeats 4000000
set_option linter.unusedSimpArgs false
set_option linter.unusedVariables false
namespace Go.Proofs.Tz
open Go.Vw Go.RowKit Go.Proofs Go.Sort

/-- Names that are short, as the sort takes them. -/
abbrev SName := {s : Str // List.length s < 900000}
instance : Inhabited SName := ⟨⟨[], by simp⟩⟩
def cmpSN (x y : SName) : Int := cmpN x.1 y.1
theorem swo_SN : SWO (ltOf cmpSN) where
  irrefl x := swo_names.irrefl x.1
  trans x y z := swo_names.trans x.1 y.1 z.1
  ntrans x y z := swo_names.ntrans x.1 y.1 z.1
theorem sortN_fn (l : List SName) (hl : l.length < 1000000) : CtrI Tryz.prog 72 9 (l.map fun s => .str s.1) [.d (.clo 73 [])] ((sortL cmpSN l).map fun s => .str s.1) := by
  refine sortOne_fn Tryz.layT 9 (by kernel_rfl) (enters_of Tryz.func72 (by kernel_rfl) rfl) (fun s : SName => .str s.1) (fun s : SName => Value.string ⟨s.1.toArray⟩) ⟨fun _ => rfl, fun _ => rfl, fun w L x cs => by simp [Rep], fun x => by simp [Value.oneCell']⟩ cmpSN swo_SN 73 [] (by simp) (fun x y => ?_) (fun w cb => ?_) l hl
  · exact ncompare_fn x.1 y.1 x.2 y.2
  · exact AnyF.slices_SortFunc_none Tryz.layU none 0 _ w
theorem sortSN {A : List SName} {K : List Str} (hK : NS K) (hp : (A.map (·.1)).Perm K) : (sortL cmpSN A).map (·.1) = K := by
  obtain ⟨h1, h2⟩ := sortL_perm swo_SN A
  have hBl : ((sortL cmpSN A).map (·.1)).Perm K := (h1.map _).trans hp
  have hn : ((sortL cmpSN A).map (·.1)).Nodup := hBl.nodup_iff.2 hK.nodup
  refine NS_ext (List.pairwise_iff_getElem.2 fun i j hi hj hij => ?_) hK (fun x => hBl.mem_iff)
  have hj' : j < (sortL cmpSN A).length := by simpa using hj
  have hi' : i < (sortL cmpSN A).length := by omega
  have h3 : ¬ cmpN (sortL cmpSN A)[j].1 (sortL cmpSN A)[i].1 < 0 := by
    exact of_decide_eq_false (h2 i j hij hj')
  have h4 := cmpN_swap (sortL cmpSN A)[i].1 (sortL cmpSN A)[j].1
  have h5 : cmpN (sortL cmpSN A)[i].1 (sortL cmpSN A)[j].1 ≠ 0 := fun q => by
    have := (List.pairwise_iff_getElem.1 hn) i j hi hj hij
    simp only [List.getElem_map] at this
    exact this (cmpN_zero.1 q)
  simp only [List.getElem_map]
  omega
theorem lift_SN : ∀ (l : List Str), (∀ s ∈ l, List.length s < 900000) → ∃ A : List SName, A.map (·.1) = l
  | [], _ => ⟨[], rfl⟩
  | s :: l, h => by
    obtain ⟨A, hA⟩ := lift_SN l (fun x hx => h x (by simp [hx]))
    exact ⟨⟨s, h s (by simp)⟩ :: A, by simp [hA]⟩
theorem sortNames_fn (l K : List Str) (hK : NS K) (hp : l.Perm K) (hl : l.length < 1000000) (hs : ∀ s ∈ K, List.length s < 900000) : CtrI Tryz.prog 72 9 (l.map .str) [.d (.clo 73 [])] (K.map .str) := by
  obtain ⟨A, rfl⟩ := lift_SN l (fun s h => hs s (hp.mem_iff.1 h))
  have h := sortN_fn A (by simpa using hl)
  have e2 := sortSN hK hp
  have e3 : (sortL cmpSN A).map (fun s => (D.str s.1)) = K.map .str := by
    rw [← e2, List.map_map]; rfl
  rw [e3] at h
  rw [List.map_map]
  exact h

/-! ### children, subtrees -/
theorem kidQ_fn (x s : Str) (hx : List.length x < 900000) : Ctr Tryz.prog 60 ([.d (.str x)] ++ [D.ref (.str s)].map .d) (.d (.bool ((parentU x).2 && decide ((parentU x).1 = s)))) := by
  refine fn_of_vwp (fun _ => false) (by kernel_rfl) Tryz.func60 (by kernel_rfl) rfl rfl (Nat.le_of_ble_eq_true rfl) (by kernel_rfl) rfl rfl ?_
  have c1 := nparent_fn x hx
  generalize parentU x = q at *
  obtain ⟨t, b⟩ := q
  simp -implicitDefEqProofs
  refine callK c1 ?_
  cases b <;> simp -implicitDefEqProofs
theorem subQ_fn (x s : Str) (hx : List.length x < 900000) (hs : List.length s < 900000) : Ctr Tryz.prog 51 ([.d (.str x)] ++ [D.ref (.str s)].map .d) (.d (.bool (underU x s))) := by
  refine fn_of_vwp (fun _ => false) (by kernel_rfl) Tryz.func51 (by kernel_rfl) rfl rfl (Nat.le_of_ble_eq_true rfl) (by kernel_rfl) rfl rfl ?_
  have c1 := nunder_fn x s hx hs
  simp -implicitDefEqProofs
  refine callK c1 ?_
  simp -implicitDefEqProofs
theorem TI.klen {E : List Ent} (h : TI E) {s : Str} (hs : s ∈ keysE E) : List.length s < 900000 := by
  have := proper_len (h.key hs)
  omega
theorem TI.sorts {E : List Ent} (h : TI E) (f : Str → Bool) (l : List Str) (hp : l.Perm ((keysE E).filter f)) (hl : l.length < 100000) : CtrI Tryz.prog 72 9 (l.map .str) [.d (.clo 73 [])] (((keysE E).filter f).map .str) :=
  sortNames_fn l _ (List.Pairwise.sublist List.filter_sublist h.ord) hp (by omega) (fun s hs => h.klen ((List.mem_filter.1 hs).1))
theorem tchildren_fn (p u : Nat) (E : List Ent) (X : Option (List (D × Nat) × Nat)) (hE : TI E) (s : Str) : CtrG Tryz.prog 24 [.d (.raw (va p)), .d (.str s)] (tr p u E X) (fun r hs' => r = .own true 9 ((childrenE E s).map .str) ∧ TR p u E hs') := by
  refine fn_of_vwpG (fun i => i == 4 || i == 5000006 || i == 5000014 || i == 5000020) (by kernel_rfl) Tryz.func24 (by kernel_rfl) rfl rfl (Nat.le_of_ble_eq_true rfl) (by kernel_rfl) rfl ?_
  have c2 := thas_fn p u E X s
  have c3 := tnames_fn p u E X hE.ord (by have := hE.few; omega) (fun x => (parentU x).2 && decide ((parentU x).1 = s)) 60 [.ref (.str s)] rfl (fun x hx => kidQ_fn x s (hE.klen hx)) (hE.sorts _)
  simp -implicitDefEqProofs [initG, tr]
  refine givB [1000000, 1000001] 1000000 (tmade_fn p u E X) (by simp [initG, tr]) rfl (by simp) ?_
  rintro r hs' ⟨rfl, rfl⟩
  by_cases h0 : s = []
  · have hc : childrenE E s = kidsE E s := by unfold childrenE; rw [if_neg (fun q => q.1 h0)]
    rw [hc]
    have hk : (keysE E).filter (fun x => (parentU x).2 && decide ((parentU x).1 = s)) = kidsE E s := rfl
    rw [hk] at c3
    generalize kidsE E s = R at *
    subst h0
    simp -implicitDefEqProofs [initG, takeH, putH, tr]
    refine givB [1000000, 1000001] 1000000 c3 (by simp [initG, tr]) rfl (by simp) ?_
    rintro r hs' ⟨rfl, X', rfl⟩
    simp -implicitDefEqProofs [initG, takeH, putH, tr]
    exact ⟨.own true 9 (R.map .str), [1000000, 1000001], by simp, by simp [initG, tr, isH], by simp [ResG], by simp, X', by simp [initG, tr]⟩
  · cases hh : hasE E s with
    | false =>
      have hc : childrenE E s = [] := by unfold childrenE; rw [if_pos ⟨h0, hh⟩]
      rw [hc]
      rw [hh] at c2
      clear c3
      simp -implicitDefEqProofs [initG, takeH, putH, tr, h0]
      refine givB [1000000, 1000001] 1000000 c2 (by simp [initG, tr]) rfl (by simp) ?_
      rintro r hs' ⟨rfl, rfl⟩
      simp -implicitDefEqProofs [initG, takeH, putH, tr]
      exact ⟨.own true 9 [], [1000000, 1000001], by simp, by simp [initG, tr, isH], by simp [ResG], by simp, X, by simp [initG, tr]⟩
    | true =>
      have hc : childrenE E s = kidsE E s := by unfold childrenE; rw [if_neg (fun q => by rw [hh] at q; cases q.2)]
      rw [hc]
      have hk : (keysE E).filter (fun x => (parentU x).2 && decide ((parentU x).1 = s)) = kidsE E s := rfl
      rw [hk] at c3
      rw [hh] at c2
      generalize kidsE E s = R at *
      simp -implicitDefEqProofs [initG, takeH, putH, tr, h0]
      refine givB [1000000, 1000001] 1000000 c2 (by simp [initG, tr]) rfl (by simp) ?_
      rintro r hs' ⟨rfl, rfl⟩
      simp -implicitDefEqProofs [initG, takeH, putH, tr]
      refine givB [1000000, 1000001] 1000000 c3 (by simp [initG, tr]) rfl (by simp) ?_
      rintro r hs' ⟨rfl, X', rfl⟩
      simp -implicitDefEqProofs [initG, takeH, putH, tr]
      exact ⟨.own true 9 (R.map .str), [1000000, 1000001], by simp, by simp [initG, tr, isH], by simp [ResG], by simp, X', by simp [initG, tr]⟩
theorem keys_sub {E : List Ent} (h : TI E) (b : Str) : (keysE E).filter (fun x => underU x b) = keysE (subE E b) := by
  unfold keysE subE
  rw [List.filter_map]
  congr 1
  refine List.filter_congr fun e he => ?_
  by_cases hb : b = []
  · subst hb
    have := proper_valid (h.proper e he)
    simp [under_nil, this]
  · simp [hb]
theorem sub_at {E : List Ent} (h : TI E) (b : Str) {k : Nat} (hk : k < (subE E b).length) : getE E (subE E b)[k].1 = some (subE E b)[k].2 ∧ sortedL (subE E b)[k].2 = (subE E b)[k].2 ∧ (subE E b)[k] ∈ E := by
  have hm : (subE E b)[k] ∈ E := (List.mem_filter.1 (List.getElem_mem hk)).1
  exact ⟨getE_mem h.ord hm, h.normal _ hm, hm⟩
theorem sub_len {E : List Ent} (h : TI E) (b : Str) : (subE E b).length ≤ 256 := Nat.le_trans (List.length_filter_le _ _) h.few
def SuI (p u : Nat) (E S : List Ent) (k : Nat) (τ : St) : Prop := ∃ X, τ 0 = .d (.raw (va p)) ∧ τ 23 = .own true 9 ((keysE S).map .str) ∧ τ 24 = .d (.int .i64 S.length) ∧ τ 25 = .d (.int .i64 k) ∧ τ 5 = .own true 44 ((S.take k).map entD) ∧
  τ 1000000 = .hb (va p) 61 (.agg [.raw (.map (some u))]) ∧ τ 1000001 = .hm (.map (some u)) 9 (mapE E) X
theorem tsubtree_fn (p u : Nat) (E : List Ent) (X : Option (List (D × Nat) × Nat)) (hE : TI E) (hF : FE E) (s : Str) (hs : List.length s < 900000) : CtrG Tryz.prog 16 [.d (.raw (va p)), .d (.str s)] (tr p u E X) (fun r hs' => r = .own true 44 ((subtreeE E s).map entD) ∧ TR p u E hs') := by
  refine fn_of_vwpG (fun i => i == 4 || i == 5 || i == 34 || i == 5000009 || i == 5000017 || i == 5000023 || i == 5000032) (by kernel_rfl) Tryz.func16 (by kernel_rfl) rfl rfl (Nat.le_of_ble_eq_true rfl) (by kernel_rfl) rfl ?_
  have c2 := thas_fn p u E X s
  have c3 := tnames_fn p u E X hE.ord (by have := hE.few; omega) (fun x => underU x s) 51 [.ref (.str s)] rfl (fun x hx => subQ_fn x s (hE.klen hx) hs) (hE.sorts _)
  rw [keys_sub hE] at c3
  have hsub : subtreeE E s = if s ≠ [] ∧ hasE E s = false then [] else subE E s := rfl
  have hat := fun k hk => @sub_at E hE s k hk
  have hln := sub_len hE s
  generalize subE E s = S at *
  simp -implicitDefEqProofs [initG, tr]
  refine givB [1000000, 1000001] 1000000 (tmade_fn p u E X) (by simp [initG, tr]) rfl (by simp) ?_
  rintro r hs' ⟨rfl, rfl⟩
  by_cases hn : s ≠ [] ∧ hasE E s = false
  · rw [if_pos hn] at hsub
    rw [hsub]
    rw [hn.2] at c2
    have h0 := hn.1
    clear c3
    simp -implicitDefEqProofs [initG, takeH, putH, tr, h0]
    refine givB [1000000, 1000001] 1000000 c2 (by simp [initG, tr]) rfl (by simp) ?_
    rintro r hs' ⟨rfl, rfl⟩
    simp -implicitDefEqProofs [initG, takeH, putH, tr]
    exact ⟨.own true 44 [], [1000000, 1000001], by simp, by simp [initG, tr, isH], by simp [ResG], by simp, X, by simp [initG, tr]⟩
  rw [if_neg hn] at hsub
  rw [hsub]
  by_cases h0 : s = []
  · subst h0
    simp -implicitDefEqProofs [initG, takeH, putH, tr]
    refine givB [1000000, 1000001] 1000000 c3 (by simp [initG, tr]) rfl (by simp) ?_
    rintro r hs' ⟨rfl, X', rfl⟩
    simp -implicitDefEqProofs [initG, takeH, putH, tr]
    refine loopN S.length (SuI p u E S) ⟨X', by simp [initG], by simp [initG], by simp [initG, keysE], by simp [initG], by simp [initG], by simp [initG], by simp [initG]⟩ ?_
    clear X'
    rintro k τ hk ⟨X', g0, g23, g24, g25, g5, gA, gB⟩
    by_cases hlt : k < S.length
    · have hlt' : (k : Int) < S.length := by omega
      have hke : k < (keysE S).length := by simpa [keysE] using hlt
      have hks : (keysE S)[k] = S[k].1 := by simp [keysE]
      obtain ⟨a1, a2, a3⟩ := hat k hlt
      have c4 := tcopied_fn p u E X' S[k].1 a1 (hF _ a3)
      rw [a2] at c4
      have hts := take_s hlt
      have hl3 : (S.take k).length ≤ 256 := by simp; omega
      rw [show ((S[k].1, S[k].2) : Ent) = S[k] from rfl] at c4
      generalize hT2 : S.take (k + 1) = T2 at *
      generalize S.take k = T at *
      generalize hK : keysE S = KS at *
      simp -implicitDefEqProofs [g0, g23, g24, g25, g5, gA, gB, hlt, hlt', hke, hks]
      refine givB [1000000, 1000001] 1000000 c4 (by simp [gA, gB, tr]) rfl (by simp) ?_
      rintro r hs' ⟨rfl, rfl⟩
      simp -implicitDefEqProofs [g0, g23, g24, g25, g5, gA, gB, takeH, putH, tr]
      repeat refine And.intro (by first | omega | rfl) ?_
      exact again hlt ⟨X', by simp [g0], by simp [g23, hK], by simp [g24], by simp, by simp [hT2, hts], by simp, by simp⟩
    · have hlt' : ¬ (k : Int) < S.length := by omega
      rw [List.take_of_length_le (by omega)] at g5
      simp -implicitDefEqProofs [g0, g23, g24, g25, g5, gA, gB, hlt, hlt']
      exact ⟨.own true 44 (S.map entD), [1000000, 1000001], by simp, by simp [gA, gB, isH], by simp [ResG], by simp, X', by simp [gA, gB, tr]⟩
  · have hh : hasE E s = true := by
      cases h : hasE E s with
      | true => rfl
      | false => exact absurd ⟨h0, h⟩ hn
    rw [hh] at c2
    simp -implicitDefEqProofs [initG, takeH, putH, tr, h0]
    refine givB [1000000, 1000001] 1000000 c2 (by simp [initG, tr]) rfl (by simp) ?_
    rintro r hs' ⟨rfl, rfl⟩
    simp -implicitDefEqProofs [initG, takeH, putH, tr]
    refine givB [1000000, 1000001] 1000000 c3 (by simp [initG, tr]) rfl (by simp) ?_
    rintro r hs' ⟨rfl, X', rfl⟩
    simp -implicitDefEqProofs [initG, takeH, putH, tr]
    refine loopN S.length (SuI p u E S) ⟨X', by simp [initG], by simp [initG], by simp [initG, keysE], by simp [initG], by simp [initG], by simp [initG], by simp [initG]⟩ ?_
    clear X'
    rintro k τ hk ⟨X', g0, g23, g24, g25, g5, gA, gB⟩
    by_cases hlt : k < S.length
    · have hlt' : (k : Int) < S.length := by omega
      have hke : k < (keysE S).length := by simpa [keysE] using hlt
      have hks : (keysE S)[k] = S[k].1 := by simp [keysE]
      obtain ⟨a1, a2, a3⟩ := hat k hlt
      have c4 := tcopied_fn p u E X' S[k].1 a1 (hF _ a3)
      rw [a2] at c4
      have hts := take_s hlt
      have hl3 : (S.take k).length ≤ 256 := by simp; omega
      rw [show ((S[k].1, S[k].2) : Ent) = S[k] from rfl] at c4
      generalize hT2 : S.take (k + 1) = T2 at *
      generalize S.take k = T at *
      generalize hK : keysE S = KS at *
      simp -implicitDefEqProofs [g0, g23, g24, g25, g5, gA, gB, hlt, hlt', hke, hks]
      refine givB [1000000, 1000001] 1000000 c4 (by simp [gA, gB, tr]) rfl (by simp) ?_
      rintro r hs' ⟨rfl, rfl⟩
      simp -implicitDefEqProofs [g0, g23, g24, g25, g5, gA, gB, takeH, putH, tr]
      repeat refine And.intro (by first | omega | rfl) ?_
      exact again hlt ⟨X', by simp [g0], by simp [g23, hK], by simp [g24], by simp, by simp [hT2, hts], by simp, by simp⟩
    · have hlt' : ¬ (k : Int) < S.length := by omega
      rw [List.take_of_length_le (by omega)] at g5
      simp -implicitDefEqProofs [g0, g23, g24, g25, g5, gA, gB, hlt, hlt']
      exact ⟨.own true 44 (S.map entD), [1000000, 1000001], by simp, by simp [gA, gB, isH], by simp [ResG], by simp, X', by simp [gA, gB, tr]⟩
end Go.Proofs.Tz

/- The tree of entries: Add, Put, Delete. -/
set_option maxRecDepth 100000
set_option maxHeartbeats 4000000
set_option linter.unusedSimpArgs false
set_option linter.unusedVariables false
namespace Go.Proofs.Tz
open Go.Vw Go.RowKit Go.Proofs Go.Sort

theorem any_E (E : List Ent) (s : Str) : (mapE E).any (fun p => keyEq p.1 (.str s)) = hasE E s := by
  unfold mapE hasE
  rw [List.any_map]
  congr 1
theorem mset_new {E : List Ent} {n : Str} (v : List Att) (h : hasE E n = false) : List.Perm (mapE (insE (n, v) E)) (mset (mapE E) (.str n) (atts v)) := by
  unfold mset
  rw [any_E, h]
  simp only [Bool.false_eq_true, if_false]
  refine ((insE_perm (n, v) E).map _).trans ?_
  rw [List.map_cons]
  exact (List.perm_append_singleton _ _).symm
theorem repl_perm {n : Str} {v : List Att} : ∀ {E : List Ent}, (keysE E).Nodup → hasE E n = true → List.Perm (E.map fun e => if e.1 = n then (n, v) else e) ((n, v) :: delE E n)
  | [], _, h => by simp [hasE] at h
  | e :: E, hn, h => by
    have hn2 := List.nodup_cons.1 hn
    by_cases he : e.1 = n
    · have hno : ∀ x ∈ E, x.1 ≠ n := fun x hx q => hn2.1 (List.mem_map.2 ⟨x, hx, q.trans he.symm⟩)
      have e1 : (E.map fun e => if e.1 = n then (n, v) else e) = E := by
        conv => rhs; rw [← List.map_id E]
        exact List.map_congr_left fun x hx => by rw [if_neg (hno x hx)]; rfl
      have e2 : delE E n = E := List.filter_eq_self.2 fun x hx => by simp [hno x hx]
      have e3 : delE (e :: E) n = delE E n := by simp [delE, he]
      rw [List.map_cons, if_pos he, e1, e3, e2]
    · have h' : hasE E n = true := by simpa [hasE, he] using h
      have e3 : delE (e :: E) n = e :: delE E n := by simp [delE, he]
      rw [List.map_cons, if_neg he, e3]
      exact ((repl_perm hn2.2 h').cons e).trans (List.Perm.swap _ _ _)
theorem mset_put {E : List Ent} {n : Str} (v : List Att) (hn : (keysE E).Nodup) (h : hasE E n = true) : List.Perm (mapE (insE (n, v) (delE E n))) (mset (mapE E) (.str n) (atts v)) := by
  unfold mset
  rw [any_E, h]
  simp only [if_true]
  have e1 : (mapE E).map (fun p => if keyEq p.1 (.str n) = true then (p.1, atts v) else p) = mapE (E.map fun e => if e.1 = n then (n, v) else e) := by
    unfold mapE
    rw [List.map_map, List.map_map]
    refine List.map_congr_left fun e he => ?_
    by_cases q : e.1 = n <;> simp [keyEq, q]
  rw [e1]
  exact (((insE_perm (n, v) (delE E n)).trans (repl_perm hn h).symm).map _)
theorem mdel_E (E : List Ent) (s : Str) : mdel (mapE E) (.str s) = mapE (delE E s) := by
  unfold mdel mapE delE
  rw [List.filter_map]
  congr 1

theorem tadd_fn (p u : Nat) (E : List Ent) (X : Option (List (D × Nat) × Nat)) (n : Str) (a : List Att) (hn : List.length n < 900000) (ha : Fit2 a) : CtrG Tryz.prog 32 [.d (.raw (va p)), .d (entD (n, a))] (tr p u E X) (fun r hs' => r = .d (.int .i64 (addE E n a).2) ∧ TR p u (addE E n a).1 hs') := by
  refine fn_of_vwpG (fun i => i == 5000006 || i == 5000020 || i == 5000024) (by kernel_rfl) Tryz.func32 (by kernel_rfl) rfl rfl (Nat.le_of_ble_eq_true rfl) (by kernel_rfl) rfl ?_
  have c1 := tmade_fn p u E X
  have c2 := nvalid_fn n hn
  have c3 := thas_fn p u E X n
  have c4 := tparented_fn p u E X n hn
  have c5 := sorted_fn a ha
  obtain ⟨R, hR⟩ : ∃ R, addE E n a = R := ⟨_, rfl⟩
  rw [hR]
  unfold addE at hR
  simp only [properU] at hR
  by_cases h0 : n = []
  · subst h0
    simp only [decide_true, Bool.not_true, Bool.false_and, if_true] at hR
    subst hR
    simp -implicitDefEqProofs [initG, tr, entD, atts]
    refine givB [1000000, 1000001] 1000000 c1 (by simp [initG, tr]) rfl (by simp) ?_
    rintro r hs' ⟨rfl, rfl⟩
    simp -implicitDefEqProofs [initG, takeH, putH, tr]
    exact ⟨.d (.int .i64 5), [1000000, 1000001], by simp, by simp [initG, tr, isH], by simp [ResG], by simp, X, by simp [initG, tr]⟩
  cases h1 : validU n with
  | false =>
    simp only [h0, h1, decide_false, Bool.not_false, Bool.true_and, if_true] at hR
    subst hR
    rw [h1] at c2
    simp -implicitDefEqProofs [initG, tr, entD, atts]
    refine givB [1000000, 1000001] 1000000 c1 (by simp [initG, tr]) rfl (by simp) ?_
    rintro r hs' ⟨rfl, rfl⟩
    simp -implicitDefEqProofs [initG, takeH, putH, tr, h0]
    refine callK c2 ?_
    simp -implicitDefEqProofs [initG]
    exact ⟨.d (.int .i64 5), [1000000, 1000001], by simp, by simp [initG, tr, isH], by simp [ResG], by simp, X, by simp [initG, tr]⟩
  | true =>
  rw [h1] at c2
  simp only [h0, h1, decide_false, Bool.not_false, Bool.true_and, Bool.true_eq_false, if_false] at hR
  cases h2 : hasE E n with
  | true =>
    rw [h2] at c3
    simp only [h2, if_true] at hR
    subst hR
    simp -implicitDefEqProofs [initG, tr, entD, atts]
    refine givB [1000000, 1000001] 1000000 c1 (by simp [initG, tr]) rfl (by simp) ?_
    rintro r hs' ⟨rfl, rfl⟩
    simp -implicitDefEqProofs [initG, takeH, putH, tr, h0]
    refine callK c2 ?_
    simp -implicitDefEqProofs [initG]
    refine givB [1000000, 1000001] 1000000 c3 (by simp [initG, tr]) rfl (by simp) ?_
    rintro r hs' ⟨rfl, rfl⟩
    simp -implicitDefEqProofs [initG, takeH, putH, tr]
    exact ⟨.d (.int .i64 7), [1000000, 1000001], by simp, by simp [initG, tr, isH], by simp [ResG], by simp, X, by simp [initG, tr]⟩
  | false =>
  rw [h2] at c3
  simp only [h2, Bool.false_eq_true, if_false] at hR
  cases h3 : parentedE E n with
  | false =>
    rw [h3] at c4
    simp only [h3, if_true] at hR
    subst hR
    simp -implicitDefEqProofs [initG, tr, entD, atts]
    refine givB [1000000, 1000001] 1000000 c1 (by simp [initG, tr]) rfl (by simp) ?_
    rintro r hs' ⟨rfl, rfl⟩
    simp -implicitDefEqProofs [initG, takeH, putH, tr, h0]
    refine callK c2 ?_
    simp -implicitDefEqProofs [initG]
    refine givB [1000000, 1000001] 1000000 c3 (by simp [initG, tr]) rfl (by simp) ?_
    rintro r hs' ⟨rfl, rfl⟩
    simp -implicitDefEqProofs [initG, takeH, putH, tr]
    refine givB [1000000, 1000001] 1000000 c4 (by simp [initG, tr]) rfl (by simp) ?_
    rintro r hs' ⟨rfl, rfl⟩
    simp -implicitDefEqProofs [initG, takeH, putH, tr]
    exact ⟨.d (.int .i64 6), [1000000, 1000001], by simp, by simp [initG, tr, isH], by simp [ResG], by simp, X, by simp [initG, tr]⟩
  | true =>
  rw [h3] at c4
  simp only [h3, Bool.true_eq_false, if_false] at hR
  by_cases h4 : 256 ≤ E.length
  · have h4' : (256 : Int) ≤ E.length := by omega
    rw [if_pos h4] at hR
    subst hR
    simp -implicitDefEqProofs [initG, tr, entD, atts]
    refine givB [1000000, 1000001] 1000000 c1 (by simp [initG, tr]) rfl (by simp) ?_
    rintro r hs' ⟨rfl, rfl⟩
    simp -implicitDefEqProofs [initG, takeH, putH, tr, h0]
    refine callK c2 ?_
    simp -implicitDefEqProofs [initG]
    refine givB [1000000, 1000001] 1000000 c3 (by simp [initG, tr]) rfl (by simp) ?_
    rintro r hs' ⟨rfl, rfl⟩
    simp -implicitDefEqProofs [initG, takeH, putH, tr]
    refine givB [1000000, 1000001] 1000000 c4 (by simp [initG, tr]) rfl (by simp) ?_
    rintro r hs' ⟨rfl, rfl⟩
    simp -implicitDefEqProofs [initG, takeH, putH, tr]
    refine rawFd (e := 61) (ds := [.raw (.map (some u))]) 1000000 (by simp [initG]) (by omega) (by simp) (by kernel_rfl) ?_
    simp -implicitDefEqProofs [initG]
    refine lenK (m := mapE E) (E := X) 1000001 (by omega) map59 (by simp [initG]) ?_
    simp -implicitDefEqProofs [initG, mapE_len, h4, h4']
    exact ⟨.d (.int .i64 3), [1000000, 1000001], by simp, by simp [initG, tr, isH], by simp [ResG], by simp, X, by simp [initG, tr]⟩
  · have h4' : ¬ (256 : Int) ≤ E.length := by omega
    rw [if_neg h4] at hR
    subst hR
    have hp := mset_new (sortedL a) h2
    generalize insE (n, sortedL a) E = E2 at *
    simp only [atts] at c5
    simp -implicitDefEqProofs [initG, tr, entD, atts]
    refine givB [1000000, 1000001] 1000000 c1 (by simp [initG, tr]) rfl (by simp) ?_
    rintro r hs' ⟨rfl, rfl⟩
    simp -implicitDefEqProofs [initG, takeH, putH, tr, h0]
    refine callK c2 ?_
    simp -implicitDefEqProofs [initG]
    refine givB [1000000, 1000001] 1000000 c3 (by simp [initG, tr]) rfl (by simp) ?_
    rintro r hs' ⟨rfl, rfl⟩
    simp -implicitDefEqProofs [initG, takeH, putH, tr]
    refine givB [1000000, 1000001] 1000000 c4 (by simp [initG, tr]) rfl (by simp) ?_
    rintro r hs' ⟨rfl, rfl⟩
    simp -implicitDefEqProofs [initG, takeH, putH, tr]
    refine rawFd (e := 61) (ds := [.raw (.map (some u))]) 1000000 (by simp [initG]) (by omega) (by simp) (by kernel_rfl) ?_
    simp -implicitDefEqProofs [initG]
    refine lenK (m := mapE E) (E := X) 1000001 (by omega) map59 (by simp [initG]) ?_
    simp -implicitDefEqProofs [initG, mapE_len, h4, h4']
    refine rawFd (e := 61) (ds := [.raw (.map (some u))]) 1000000 (by simp [initG]) (by omega) (by simp) (by kernel_rfl) ?_
    simp -implicitDefEqProofs [initG]
    refine callP c5 ?_
    simp -implicitDefEqProofs [initG]
    refine updK (E := X) (m := mapE E) 1000001 map59 (by simp [initG]) (fit_str n) (mapE E2) hp ?_
    simp -implicitDefEqProofs [initG]
    exact ⟨.d (.int .i64 0), [1000000, 1000001], by simp, by simp [initG, tr, isH], by simp [ResG], by simp, none, by simp [initG, tr]⟩
theorem tput_fn (p u : Nat) (E : List Ent) (X : Option (List (D × Nat) × Nat)) (hE : OrdE E) (n : Str) (a : List Att) (ha : Fit2 a) : CtrG Tryz.prog 38 [.d (.raw (va p)), .d (entD (n, a))] (tr p u E X) (fun r hs' => r = .d (.int .i64 (putE E n a).2) ∧ TR p u (putE E n a).1 hs') := by
  refine fn_of_vwpG (fun i => i == 5000006 || i == 5000011) (by kernel_rfl) Tryz.func38 (by kernel_rfl) rfl rfl (Nat.le_of_ble_eq_true rfl) (by kernel_rfl) rfl ?_
  have c1 := tmade_fn p u E X
  have c3 := thas_fn p u E X n
  have c5 := sorted_fn a ha
  obtain ⟨R, hR⟩ : ∃ R, putE E n a = R := ⟨_, rfl⟩
  rw [hR]
  unfold putE at hR
  cases h2 : hasE E n with
  | false =>
    rw [h2] at c3
    simp only [h2, if_true] at hR
    subst hR
    simp -implicitDefEqProofs [initG, tr, entD, atts]
    refine givB [1000000, 1000001] 1000000 c1 (by simp [initG, tr]) rfl (by simp) ?_
    rintro r hs' ⟨rfl, rfl⟩
    simp -implicitDefEqProofs [initG, takeH, putH, tr]
    refine givB [1000000, 1000001] 1000000 c3 (by simp [initG, tr]) rfl (by simp) ?_
    rintro r hs' ⟨rfl, rfl⟩
    simp -implicitDefEqProofs [initG, takeH, putH, tr]
    exact ⟨.d (.int .i64 6), [1000000, 1000001], by simp, by simp [initG, tr, isH], by simp [ResG], by simp, X, by simp [initG, tr]⟩
  | true =>
    rw [h2] at c3
    simp only [h2, Bool.true_eq_false, if_false] at hR
    subst hR
    have hp := mset_put (sortedL a) (NS.nodup hE) h2
    generalize insE (n, sortedL a) (delE E n) = E2 at *
    simp only [atts] at c5
    simp -implicitDefEqProofs [initG, tr, entD, atts]
    refine givB [1000000, 1000001] 1000000 c1 (by simp [initG, tr]) rfl (by simp) ?_
    rintro r hs' ⟨rfl, rfl⟩
    simp -implicitDefEqProofs [initG, takeH, putH, tr]
    refine givB [1000000, 1000001] 1000000 c3 (by simp [initG, tr]) rfl (by simp) ?_
    rintro r hs' ⟨rfl, rfl⟩
    simp -implicitDefEqProofs [initG, takeH, putH, tr]
    refine rawFd (e := 61) (ds := [.raw (.map (some u))]) 1000000 (by simp [initG]) (by omega) (by simp) (by kernel_rfl) ?_
    simp -implicitDefEqProofs [initG]
    refine callP c5 ?_
    simp -implicitDefEqProofs [initG]
    refine updK (E := X) (m := mapE E) 1000001 map59 (by simp [initG]) (fit_str n) (mapE E2) hp ?_
    simp -implicitDefEqProofs [initG]
    exact ⟨.d (.int .i64 0), [1000000, 1000001], by simp, by simp [initG, tr, isH], by simp [ResG], by simp, none, by simp [initG, tr]⟩
theorem tdelete_fn (p u : Nat) (E : List Ent) (X : Option (List (D × Nat) × Nat)) (hE : TI E) (s : Str) (hs : List.length s < 900000) : CtrG Tryz.prog 31 [.d (.raw (va p)), .d (.str s)] (tr p u E X) (fun r hs' => r = .d (.int .i64 (deleteE E s).2) ∧ TR p u (deleteE E s).1 hs') := by
  refine fn_of_vwpG (fun i => i == 5000006 || i == 5000010 || i == 5000018) (by kernel_rfl) Tryz.func31 (by kernel_rfl) rfl rfl (Nat.le_of_ble_eq_true rfl) (by kernel_rfl) rfl ?_
  have c1 := tmade_fn p u E X
  have c3 := thas_fn p u E X s
  have c4 := ndepth_fn s hs
  have c5 := tchildren_fn p u E X hE s
  obtain ⟨R, hR⟩ : ∃ R, deleteE E s = R := ⟨_, rfl⟩
  rw [hR]
  unfold deleteE at hR
  cases h2 : hasE E s with
  | false =>
    rw [h2] at c3
    simp only [h2, if_true] at hR
    subst hR
    simp -implicitDefEqProofs [initG, tr]
    refine givB [1000000, 1000001] 1000000 c1 (by simp [initG, tr]) rfl (by simp) ?_
    rintro r hs' ⟨rfl, rfl⟩
    simp -implicitDefEqProofs [initG, takeH, putH, tr]
    refine givB [1000000, 1000001] 1000000 c3 (by simp [initG, tr]) rfl (by simp) ?_
    rintro r hs' ⟨rfl, rfl⟩
    simp -implicitDefEqProofs [initG, takeH, putH, tr]
    exact ⟨.d (.int .i64 6), [1000000, 1000001], by simp, by simp [initG, tr, isH], by simp [ResG], by simp, X, by simp [initG, tr]⟩
  | true =>
  rw [h2] at c3
  have hc : childrenE E s = kidsE E s := by unfold childrenE; rw [if_neg (fun q => by rw [h2] at q; cases q.2)]
  rw [hc] at c5
  have hkl : (kidsE E s).length ≤ 256 := by
    have h1 : (kidsE E s).length ≤ (keysE E).length := List.length_filter_le _ _
    have h3 := hE.few
    simp only [keysE, List.length_map] at h1
    omega
  simp only [h2, Bool.true_eq_false, if_false] at hR
  have hd := mdel_E E s
  generalize depthU s = dp at *
  generalize kidsE E s = kids at *
  by_cases h3 : dp = 1
  · rw [if_pos (.inl h3)] at hR
    subst hR
    simp -implicitDefEqProofs [initG, tr]
    refine givB [1000000, 1000001] 1000000 c1 (by simp [initG, tr]) rfl (by simp) ?_
    rintro r hs' ⟨rfl, rfl⟩
    simp -implicitDefEqProofs [initG, takeH, putH, tr]
    refine givB [1000000, 1000001] 1000000 c3 (by simp [initG, tr]) rfl (by simp) ?_
    rintro r hs' ⟨rfl, rfl⟩
    simp -implicitDefEqProofs [initG, takeH, putH, tr]
    refine callK c4 ?_
    simp -implicitDefEqProofs [initG, h3]
    exact ⟨.d (.int .i64 12), [1000000, 1000001], by simp, by simp [initG, tr, isH], by simp [ResG], by simp, X, by simp [initG, tr]⟩
  have h3' : ¬ (dp : Int) = 1 := by omega
  by_cases h4 : kids = []
  · subst h4
    rw [if_neg (by simp [h3])] at hR
    subst hR
    simp -implicitDefEqProofs [initG, tr]
    refine givB [1000000, 1000001] 1000000 c1 (by simp [initG, tr]) rfl (by simp) ?_
    rintro r hs' ⟨rfl, rfl⟩
    simp -implicitDefEqProofs [initG, takeH, putH, tr]
    refine givB [1000000, 1000001] 1000000 c3 (by simp [initG, tr]) rfl (by simp) ?_
    rintro r hs' ⟨rfl, rfl⟩
    simp -implicitDefEqProofs [initG, takeH, putH, tr]
    refine callK c4 ?_
    simp -implicitDefEqProofs [initG, h3, h3']
    refine givB [1000000, 1000001] 1000000 c5 (by simp [initG, tr]) rfl (by simp) ?_
    rintro r hs' ⟨rfl, X', rfl⟩
    simp -implicitDefEqProofs [initG, takeH, putH, tr]
    refine rawFd (e := 61) (ds := [.raw (.map (some u))]) 1000000 (by simp [initG]) (by omega) (by simp) (by kernel_rfl) ?_
    simp -implicitDefEqProofs [initG]
    refine delK (E := X') (m := mapE E) 1000001 map59 (by simp [initG]) (fit_str s) (mapE (delE E s)) (by rw [hd]) ?_
    simp -implicitDefEqProofs [initG]
    exact ⟨.d (.int .i64 0), [1000000, 1000001], by simp, by simp [initG, tr, isH], by simp [ResG], by simp, none, by simp [initG, tr]⟩
  · rw [if_pos (.inr h4)] at hR
    subst hR
    have h5 : (0 : Int) < kids.length := by
      have := List.length_pos_iff.2 h4
      omega
    have h6 := List.length_pos_iff.2 h4
    simp -implicitDefEqProofs [initG, tr]
    refine givB [1000000, 1000001] 1000000 c1 (by simp [initG, tr]) rfl (by simp) ?_
    rintro r hs' ⟨rfl, rfl⟩
    simp -implicitDefEqProofs [initG, takeH, putH, tr]
    refine givB [1000000, 1000001] 1000000 c3 (by simp [initG, tr]) rfl (by simp) ?_
    rintro r hs' ⟨rfl, rfl⟩
    simp -implicitDefEqProofs [initG, takeH, putH, tr]
    refine callK c4 ?_
    simp -implicitDefEqProofs [initG, h3, h3']
    refine givB [1000000, 1000001] 1000000 c5 (by simp [initG, tr]) rfl (by simp) ?_
    rintro r hs' ⟨rfl, X', rfl⟩
    simp -implicitDefEqProofs [initG, takeH, putH, tr, h5, h6]
    exact ⟨.d (.int .i64 12), [1000000, 1000001], by simp, by simp [initG, tr, isH], by simp [ResG], by simp, X', by simp [initG, tr]⟩
end Go.Proofs.Tz

/- The tree of entries: obstacles, Move, Clone. -/
set_option maxRecDepth 100000
set_option maxHeartbeats 8000000
set_option linter.unusedSimpArgs false
set_option linter.unusedVariables false
namespace Go.Proofs.Tz
open Go.Vw Go.RowKit Go.Proofs Go.Sort

/-- The obstacle's number. -/
def codeE (E : List Ent) (fr to : Str) : Nat :=
  if hasE E fr = false then 0 else if properU to = false then 1 else if hasE E to = true then 2 else if underU to fr = true then 3 else if parentedE E to = false then 4 else if depthU fr = 1 then 5 else if deepE E fr to = true then 6 else 7
def errL : List Int := [6, 5, 7, 28, 6, 12, 3, 0]
theorem code_err (E : List Ent) (fr to : Str) : errL[codeE E fr to]? = some (obsE E fr to) := by
  unfold codeE obsE
  repeat' split
  all_goals rfl
theorem code_le (E : List Ent) (fr to : Str) : codeE E fr to ≤ 7 := by
  unfold codeE
  repeat' split
  all_goals omega
theorem code_free {E : List Ent} {fr to : Str} : codeE E fr to = 7 ↔ obsE E fr to = 0 := by
  unfold codeE obsE
  constructor <;> intro h <;> (repeat' split at h) <;> (repeat' split) <;> first | rfl | omega | simp_all
theorem rebase_err {s fr to : Str} (hu : underU s fr = true) (ht : properU to = true) : (rebaseU s fr to).2 = if (8 : Int) < depthU s - depthU fr + depthU to then 3 else 0 := by
  obtain ⟨k, m, e1, e2⟩ := under_parts hu
  obtain ⟨q, n, e3⟩ := proper_norm ht
  have h := rebase_norm e1 e2 e3
  rw [depth_norm e1, depth_norm e2, depth_norm e3]
  by_cases h8 : k.length + (q :: n).length ≤ 8
  · obtain ⟨t, h1, _⟩ := h.1 h8
    rw [h1, if_neg]
    simp only [List.length_append, List.length_cons] at h8 ⊢
    omega
  · rw [h.2 (by omega), if_pos]
    simp only [List.length_append, List.length_cons] at h8 ⊢
    omega
theorem deep_iff {E : List Ent} {fr to : Str} (hf : fr ≠ []) (ht : properU to = true) : deepE E fr to = true ↔ ∃ s ∈ keysE E, underU s fr = true ∧ (rebaseU s fr to).2 ≠ 0 := by
  unfold deepE subE
  rw [List.any_eq_true]
  constructor
  · rintro ⟨e, he, hd⟩
    obtain ⟨h1, h2⟩ := List.mem_filter.1 he
    simp only [hf, decide_false, Bool.false_or] at h2
    simp only [decide_eq_true_eq] at hd
    exact ⟨e.1, List.mem_map.2 ⟨e, h1, rfl⟩, h2, by rw [rebase_err h2 ht, if_pos hd]; decide⟩
  · rintro ⟨s, hs, h2, h3⟩
    obtain ⟨e, he, rfl⟩ := List.mem_map.1 hs
    rw [rebase_err h2 ht] at h3
    refine ⟨e, List.mem_filter.2 ⟨he, by simp [h2]⟩, ?_⟩
    simp only [decide_eq_true_eq]
    split at h3
    · assumption
    · exact absurd rfl h3

def ObI (p u : Nat) (E : List Ent) (fr to : Str) (k : Nat) (τ : St) : Prop := ∃ ss seen e, Seen (keysE E) ss seen ∧ ss.length = k ∧ τ 0 = .d (.raw (va p)) ∧ τ 1 = .d (.str fr) ∧ τ 2 = .d (.str to) ∧ τ 44 = .mit (.map (some u)) e seen ∧
  (∀ s ∈ ss, underU s fr = true → (rebaseU s fr to).2 = 0) ∧ τ 1000000 = .hb (va p) 61 (.agg [.raw (.map (some u))]) ∧ τ 1000001 = .hm (.map (some u)) 9 (mapE E) (some e)
theorem tobst_fn (p u : Nat) (E : List Ent) (X : Option (List (D × Nat) × Nat)) (hE : TI E) (fr to : Str) (hf : List.length fr < 900000) (ht : List.length to < 900000) :
    CtrG Tryz.prog 62 [.d (.raw (va p)), .d (.str fr), .d (.str to)] (tr p u E X) (fun r hs' => r = .d (.int .i64 (codeE E fr to)) ∧ TR p u E hs') := by
  refine fn_of_vwpG (fun i => i == 5000013 || i == 5000026 || i == 5000034) (by kernel_rfl) Tryz.func62 (by kernel_rfl) rfl rfl (Nat.le_of_ble_eq_true rfl) (by kernel_rfl) rfl ?_
  have c1 := thas_fn p u E X fr
  have c2 := nvalid_fn to ht
  have c3 := thas_fn p u E X to
  have c4 := nunder_fn to fr ht hf
  have c5 := tparented_fn p u E X to ht
  have c6 := ndepth_fn fr hf
  obtain ⟨R, hR⟩ : ∃ R, codeE E fr to = R := ⟨_, rfl⟩
  rw [hR]
  unfold codeE at hR
  cases h1 : hasE E fr with
  | false =>
    rw [h1] at c1 hR
    simp only [if_true] at hR
    subst hR
    simp -implicitDefEqProofs [initG, tr]
    refine givB [1000000, 1000001] 1000000 c1 (by simp [initG, tr]) rfl (by simp) ?_
    rintro r hs' ⟨rfl, rfl⟩
    simp -implicitDefEqProofs [initG, takeH, putH, tr]
    exact ⟨.d (.int .i64 0), [1000000, 1000001], by simp, by simp [initG, tr, isH], by simp [ResG], by simp, X, by simp [initG, tr]⟩
  | true =>
  rw [h1] at c1
  simp only [h1, Bool.true_eq_false, if_false] at hR
  by_cases h0 : to = []
  · have hpr : properU to = false := by simp [properU, h0]
    rw [if_pos hpr] at hR
    subst hR h0
    simp -implicitDefEqProofs [initG, tr]
    refine givB [1000000, 1000001] 1000000 c1 (by simp [initG, tr]) rfl (by simp) ?_
    rintro r hs' ⟨rfl, rfl⟩
    simp -implicitDefEqProofs [initG, takeH, putH, tr]
    exact ⟨.d (.int .i64 1), [1000000, 1000001], by simp, by simp [initG, tr, isH], by simp [ResG], by simp, X, by simp [initG, tr]⟩
  cases h2 : validU to with
  | false =>
    have hpr : properU to = false := by simp [properU, h2]
    rw [if_pos hpr] at hR
    subst hR
    rw [h2] at c2
    simp -implicitDefEqProofs [initG, tr]
    refine givB [1000000, 1000001] 1000000 c1 (by simp [initG, tr]) rfl (by simp) ?_
    rintro r hs' ⟨rfl, rfl⟩
    simp -implicitDefEqProofs [initG, takeH, putH, tr, h0]
    refine callK c2 ?_
    simp -implicitDefEqProofs [initG]
    exact ⟨.d (.int .i64 1), [1000000, 1000001], by simp, by simp [initG, tr, isH], by simp [ResG], by simp, X, by simp [initG, tr]⟩
  | true =>
  have hpr : properU to = true := by simp [properU, h2, h0]
  rw [h2] at c2
  simp only [hpr, Bool.true_eq_false, if_false] at hR
  cases h3 : hasE E to with
  | true =>
    rw [h3] at c3
    simp only [h3, if_true] at hR
    subst hR
    simp -implicitDefEqProofs [initG, tr]
    refine givB [1000000, 1000001] 1000000 c1 (by simp [initG, tr]) rfl (by simp) ?_
    rintro r hs' ⟨rfl, rfl⟩
    simp -implicitDefEqProofs [initG, takeH, putH, tr, h0]
    refine callK c2 ?_
    simp -implicitDefEqProofs [initG]
    refine givB [1000000, 1000001] 1000000 c3 (by simp [initG, tr]) rfl (by simp) ?_
    rintro r hs' ⟨rfl, rfl⟩
    simp -implicitDefEqProofs [initG, takeH, putH, tr]
    exact ⟨.d (.int .i64 2), [1000000, 1000001], by simp, by simp [initG, tr, isH], by simp [ResG], by simp, X, by simp [initG, tr]⟩
  | false =>
  rw [h3] at c3
  simp only [h3, Bool.false_eq_true, if_false] at hR
  cases h4 : underU to fr with
  | true =>
    rw [h4] at c4
    simp only [h4, if_true] at hR
    subst hR
    simp -implicitDefEqProofs [initG, tr]
    refine givB [1000000, 1000001] 1000000 c1 (by simp [initG, tr]) rfl (by simp) ?_
    rintro r hs' ⟨rfl, rfl⟩
    simp -implicitDefEqProofs [initG, takeH, putH, tr, h0]
    refine callK c2 ?_
    simp -implicitDefEqProofs [initG]
    refine givB [1000000, 1000001] 1000000 c3 (by simp [initG, tr]) rfl (by simp) ?_
    rintro r hs' ⟨rfl, rfl⟩
    simp -implicitDefEqProofs [initG, takeH, putH, tr]
    refine callK c4 ?_
    simp -implicitDefEqProofs [initG]
    exact ⟨.d (.int .i64 3), [1000000, 1000001], by simp, by simp [initG, tr, isH], by simp [ResG], by simp, X, by simp [initG, tr]⟩
  | false =>
  rw [h4] at c4
  simp only [h4, Bool.false_eq_true, if_false] at hR
  cases h5 : parentedE E to with
  | false =>
    rw [h5] at c5
    simp only [h5, if_true] at hR
    subst hR
    simp -implicitDefEqProofs [initG, tr]
    refine givB [1000000, 1000001] 1000000 c1 (by simp [initG, tr]) rfl (by simp) ?_
    rintro r hs' ⟨rfl, rfl⟩
    simp -implicitDefEqProofs [initG, takeH, putH, tr, h0]
    refine callK c2 ?_
    simp -implicitDefEqProofs [initG]
    refine givB [1000000, 1000001] 1000000 c3 (by simp [initG, tr]) rfl (by simp) ?_
    rintro r hs' ⟨rfl, rfl⟩
    simp -implicitDefEqProofs [initG, takeH, putH, tr]
    refine callK c4 ?_
    simp -implicitDefEqProofs [initG]
    refine givB [1000000, 1000001] 1000000 c5 (by simp [initG, tr]) rfl (by simp) ?_
    rintro r hs' ⟨rfl, rfl⟩
    simp -implicitDefEqProofs [initG, takeH, putH, tr]
    exact ⟨.d (.int .i64 4), [1000000, 1000001], by simp, by simp [initG, tr, isH], by simp [ResG], by simp, X, by simp [initG, tr]⟩
  | true =>
  rw [h5] at c5
  simp only [h5, Bool.true_eq_false, if_false] at hR
  by_cases h6 : depthU fr = 1
  · rw [if_pos h6] at hR
    subst hR
    rw [h6] at c6
    simp -implicitDefEqProofs [initG, tr]
    refine givB [1000000, 1000001] 1000000 c1 (by simp [initG, tr]) rfl (by simp) ?_
    rintro r hs' ⟨rfl, rfl⟩
    simp -implicitDefEqProofs [initG, takeH, putH, tr, h0]
    refine callK c2 ?_
    simp -implicitDefEqProofs [initG]
    refine givB [1000000, 1000001] 1000000 c3 (by simp [initG, tr]) rfl (by simp) ?_
    rintro r hs' ⟨rfl, rfl⟩
    simp -implicitDefEqProofs [initG, takeH, putH, tr]
    refine callK c4 ?_
    simp -implicitDefEqProofs [initG]
    refine givB [1000000, 1000001] 1000000 c5 (by simp [initG, tr]) rfl (by simp) ?_
    rintro r hs' ⟨rfl, rfl⟩
    simp -implicitDefEqProofs [initG, takeH, putH, tr]
    refine callK c6 ?_
    simp -implicitDefEqProofs [initG]
    exact ⟨.d (.int .i64 5), [1000000, 1000001], by simp, by simp [initG, tr, isH], by simp [ResG], by simp, X, by simp [initG, tr]⟩
  rw [if_neg h6] at hR
  have hfn : fr ≠ [] := fun e => by
    have := hE.key (hasE_iff.1 h1)
    rw [e] at this; simp [properU] at this
  have hdp := deep_iff (E := E) hfn hpr
  generalize hdp6 : depthU fr = dp at *
  have h6' : ¬ (dp : Int) = 1 := by omega
  simp -implicitDefEqProofs [initG, tr]
  refine givB [1000000, 1000001] 1000000 c1 (by simp [initG, tr]) rfl (by simp) ?_
  rintro r hs' ⟨rfl, rfl⟩
  simp -implicitDefEqProofs [initG, takeH, putH, tr, h0]
  refine callK c2 ?_
  simp -implicitDefEqProofs [initG]
  refine givB [1000000, 1000001] 1000000 c3 (by simp [initG, tr]) rfl (by simp) ?_
  rintro r hs' ⟨rfl, rfl⟩
  simp -implicitDefEqProofs [initG, takeH, putH, tr]
  refine callK c4 ?_
  simp -implicitDefEqProofs [initG]
  refine givB [1000000, 1000001] 1000000 c5 (by simp [initG, tr]) rfl (by simp) ?_
  rintro r hs' ⟨rfl, rfl⟩
  simp -implicitDefEqProofs [initG, takeH, putH, tr]
  refine callK c6 ?_
  simp -implicitDefEqProofs [initG, h6, h6']
  refine rawFd (e := 61) (ds := [.raw (.map (some u))]) 1000000 (by simp [initG]) (by omega) (by simp) (by kernel_rfl) ?_
  simp -implicitDefEqProofs [initG]
  refine rngK 1000001 map59 (by simp [initG]; exact ⟨rfl, rfl⟩) (fun e => ?_)
  simp -implicitDefEqProofs [initG]
  refine loopN (keysE E).length (ObI p u E fr to) ⟨[], [], e, Seen.nil _, rfl, by simp [initG], by simp [initG], by simp [initG], by simp [initG], by simp, by simp [initG], by simp [initG]⟩ ?_
  clear e c1 c2 c3 c4 c5 c6
  rintro k τ hk ⟨ss, seen, e, hS, hsl, g0, g1, g2, g44, hno, gA, gB⟩
  have hnd := NS.nodup hE.ord
  simp -implicitDefEqProofs [g0, g1, g2, g44]
  refine nxtK 1000001 (by simp [gB]; exact ⟨rfl, rfl⟩) (fun x v hm hn => ?_) (fun hall => ?_)
  · obtain ⟨s, a, rfl, rfl, hin⟩ := mapE_mem hm
    have hin' := keys_mem hin
    have hS2 := hS.next hin' hn
    have hlt := hS.lt hnd hin' hn
    rw [hsl] at hlt
    have hsk := hE.klen hin'
    have c1 := nunder_fn s fr hsk hf
    have c2 := nrebase_fn s fr to hsk hf ht
    simp -implicitDefEqProofs [g0, g1, g2, g44, gA, gB]
    refine entK (kt := 9) 1000001 (by simp [gB]) hm ?_
    simp -implicitDefEqProofs [g0, g1, g2, g44, gA, gB]
    refine callK c1 ?_
    cases hu : underU s fr with
    | false =>
      simp -implicitDefEqProofs [g0, g1, g2, g44, gA, gB, hu]
      refine again hlt ⟨ss ++ [s], seen ++ [.str s], e, hS2, by simp [hsl], by simp [g0], by simp [g1], by simp [g2], by simp, ?_, by simp [gA], by simp [gB]⟩
      intro x hx hux
      rcases List.mem_append.1 hx with hx | hx
      · exact hno x hx hux
      · simp only [List.mem_singleton] at hx; subst hx; rw [hu] at hux; cases hux
    | true =>
      by_cases h0 : (rebaseU s fr to).2 = 0
      · generalize hG : rebaseU s fr to = G at *
        obtain ⟨t, er⟩ := G
        simp only at h0
        subst h0
        simp -implicitDefEqProofs [g0, g1, g2, g44, gA, gB, hu]
        refine callK c2 ?_
        simp -implicitDefEqProofs [g0, g1, g2, g44, gA, gB]
        refine again hlt ⟨ss ++ [s], seen ++ [.str s], e, hS2, by simp [hsl], by simp [g0], by simp [g1], by simp [g2], by simp, ?_, by simp [gA], by simp [gB]⟩
        intro x hx hux
        rcases List.mem_append.1 hx with hx | hx
        · exact hno x hx hux
        · simp only [List.mem_singleton] at hx; subst hx; rw [hG]
      · have hd : deepE E fr to = true := hdp.2 ⟨s, hin', hu, h0⟩
        rw [if_pos hd] at hR
        subst hR
        generalize rebaseU s fr to = G at *
        obtain ⟨t, er⟩ := G
        simp only at h0
        simp -implicitDefEqProofs [g0, g1, g2, g44, gA, gB, hu]
        refine callK c2 ?_
        simp -implicitDefEqProofs [g0, g1, g2, g44, gA, gB, h0]
        exact ⟨.d (.int .i64 6), [1000000, 1000001], by simp, by simp [gA, gB, isH], by simp [ResG], by simp, some e, by simp [gA, gB, tr]⟩
  · have hd : ¬ deepE E fr to = true := fun h => by
      obtain ⟨s, hs, hu, hne⟩ := hdp.1 h
      exact hne (hno s (((hS.all hnd (mapE_all hall)).mem_iff).2 hs) hu)
    rw [if_neg hd] at hR
    subst hR
    simp -implicitDefEqProofs [g0, g1, g2, g44, gA, gB]
    exact ⟨.d (.int .i64 7), [1000000, 1000001], by simp, by simp [gA, gB, isH], by simp [ResG], by simp, none, by simp [gA, gB, tr]⟩
end Go.Proofs.Tz

/- The tree of entries: Move, Clone, New. -/
set_option maxRecDepth 100000
set_option maxHeartbeats 8000000
set_option linter.unusedSimpArgs false
set_option linter.unusedVariables false
namespace Go.Proofs.Tz
open Go.Vw Go.RowKit Go.Proofs Go.Sort

/-- The entries whose names are among these. -/
def pickE (M : List Ent) (S : List Str) : List Ent := M.filter fun e => decide (e.1 ∈ S)
theorem pick_nil (M : List Ent) : pickE M [] = [] := by simp [pickE]
theorem pick_all {M : List Ent} {S : List Str} (h : ∀ e ∈ M, e.1 ∈ S) : pickE M S = M := List.filter_eq_self.2 fun e he => by simp [h e he]
theorem pick_no {M : List Ent} {S : List Str} {x : Str} (h : x ∉ S) : hasE (pickE M S) x = false := by
  cases q : hasE (pickE M S) x with
  | false => rfl
  | true =>
    obtain ⟨e, he, rfl⟩ := List.mem_map.1 (hasE_iff.1 q)
    exact absurd (by simpa using (List.mem_filter.1 he).2) h
theorem nd_of_keys : ∀ {M : List Ent}, (keysE M).Nodup → M.Nodup
  | [], _ => List.nodup_nil
  | e :: M, h => by
    have h2 := List.nodup_cons.1 h
    exact List.nodup_cons.2 ⟨fun hm => h2.1 (List.mem_map.2 ⟨e, hm, rfl⟩), nd_of_keys h2.2⟩
theorem key_uniq : ∀ {M : List Ent}, (keysE M).Nodup → ∀ {x y : Ent}, x ∈ M → y ∈ M → x.1 = y.1 → x = y
  | [], _, _, _, h, _, _ => by simp at h
  | e :: M, h, x, y, hx, hy, hxy => by
    have h2 := List.nodup_cons.1 h
    rcases List.mem_cons.1 hx with rfl | hx' <;> rcases List.mem_cons.1 hy with rfl | hy'
    · rfl
    · exact absurd (List.mem_map.2 ⟨y, hy', hxy.symm⟩) h2.1
    · exact absurd (List.mem_map.2 ⟨x, hx', hxy⟩) h2.1
    · exact key_uniq h2.2 hx' hy' hxy
theorem pick_snoc {M : List Ent} (hM : (keysE M).Nodup) {S : List Str} {x : Str} {a : List Att} (hx : x ∉ S) (hm : (x, a) ∈ M) : (pickE M (S ++ [x])).Perm (pickE M S ++ [(x, a)]) := by
  have hn := nd_of_keys hM
  refine (List.perm_ext_iff_of_nodup (hn.filter _) ?_).2 fun e => ?_
  · rw [List.nodup_append]
    refine ⟨hn.filter _, by simp, ?_⟩
    rintro e he b hb rfl
    simp only [List.mem_singleton] at hb
    subst hb
    exact hx (by simpa using (List.mem_filter.1 he).2)
  · simp only [pickE, List.mem_filter, List.mem_append, List.mem_singleton, decide_eq_true_eq]
    constructor
    · rintro ⟨h1, h2 | h2⟩
      · exact .inl ⟨h1, h2⟩
      · exact .inr (key_uniq hM h1 hm h2)
    · rintro (⟨h1, h2⟩ | rfl)
      · exact ⟨h1, .inl h2⟩
      · exact ⟨hm, .inr rfl⟩
theorem mset_pick {M : List Ent} (hM : (keysE M).Nodup) {S : List Str} {x : Str} {a : List Att} (hx : x ∉ S) (hm : (x, a) ∈ M) : List.Perm (mapE (pickE M (S ++ [x]))) (mset (mapE (pickE M S)) (.str x) (atts a)) := by
  unfold mset
  rw [any_E, pick_no hx]
  simp only [Bool.false_eq_true, if_false]
  have := (pick_snoc hM hx hm).map (fun e : Ent => ((.str e.1 : D), atts e.2))
  rw [List.map_append] at this
  exact this

theorem gerrs : gdat Tryz.prog 0 = some (.agg (errL.map (.int .i64))) := by kernel_rfl
def MoI (p u g : Nat) (E M : List Ent) (fr to : Str) (k : Nat) (τ : St) : Prop := ∃ ss seen e, Seen (keysE E) ss seen ∧ ss.length = k ∧ τ 0 = .d (.raw (va p)) ∧ τ 1 = .d (.str fr) ∧ τ 2 = .d (.str to) ∧ τ 28 = .mit (.map (some u)) e seen ∧
  τ 8 = .d (.raw (.map (some g))) ∧ τ 1000000 = .hb (va p) 61 (.agg [.raw (.map (some u))]) ∧ τ 1000001 = .hm (.map (some u)) 9 (mapE E) (some e) ∧ τ 1000002 = .hm (.map (some g)) 9 (mapE (pickE M (ss.map (renU fr to)))) none
theorem tmove_fn (p u : Nat) (E : List Ent) (X : Option (List (D × Nat) × Nat)) (hE : TI E) (fr to : Str) (hf : List.length fr < 900000) (ht : List.length to < 900000) :
    CtrG Tryz.prog 28 [.d (.raw (va p)), .d (.str fr), .d (.str to)] (tr p u E X) (fun r hs' => r = .d (.int .i64 (moveE E fr to).2) ∧ ∃ u', TR p u' (moveE E fr to).1 hs') := by
  refine fn_of_vwpG (fun i => i == 5000012 || i == 5000017) (by kernel_rfl) Tryz.func28 (by kernel_rfl) rfl rfl (Nat.le_of_ble_eq_true rfl) (by kernel_rfl) rfl ?_
  have c1 := tmade_fn p u E X
  have c2 := tobst_fn p u E X hE fr to hf ht
  have hle := code_le E fr to
  have herr := code_err E fr to
  by_cases h7 : codeE E fr to = 7
  case neg =>
    have h0 : ¬ obsE E fr to = 0 := fun q => h7 (code_free.2 q)
    have hR : moveE E fr to = (E, obsE E fr to) := by unfold moveE; rw [if_neg h0]
    rw [hR]
    generalize codeE E fr to = c at *
    generalize obsE E fr to = er at *
    have h7' : ¬ (c : Int) = 7 := by omega
    have hex : ∃ x, errL[c]? = some x := ⟨_, herr⟩
    have hget : (errL.map (D.int IntKind.i64))[c]? = some (.int .i64 er) := by rw [List.getElem?_map, herr]; rfl
    generalize hEL : errL.map (D.int IntKind.i64) = EL at *
    have hg := gerrs
    rw [hEL] at hg
    have hELl : EL.length = 8 := by rw [← hEL]; rfl
    have hELw : ∀ y ∈ EL, width y = 1 := fun y hy => by
      rw [← hEL] at hy
      obtain ⟨x, _, rfl⟩ := List.mem_map.1 hy; rfl
    simp -implicitDefEqProofs [initG, tr]
    refine givB [1000000, 1000001] 1000000 c1 (by simp [initG, tr]) rfl (by simp) ?_
    rintro r hs' ⟨rfl, rfl⟩
    simp -implicitDefEqProofs [initG, takeH, putH, tr]
    refine givB [1000000, 1000001] 1000000 c2 (by simp [initG, tr]) rfl (by simp) ?_
    rintro r hs' ⟨rfl, X', rfl⟩
    simp -implicitDefEqProofs [initG, takeH, putH, tr, h7', hg]
    refine ⟨8, 27, 1, by kernel_rfl, by kernel_rfl, hELl, hELw, by omega, by omega, ?_⟩
    simp -implicitDefEqProofs [initG, hget]
    exact ⟨.d (.int .i64 er), [1000000, 1000001], by simp, by simp [initG, tr, isH], by simp [ResG], by simp, u, X', by simp [initG, tr]⟩
  have h0 := code_free.1 h7
  have hMV := MV.of hE h0
  have hR : moveE E fr to = (movedE E fr to, 0) := by unfold moveE; rw [if_pos h0]
  rw [hR]
  rw [h7] at c2
  have hMk := NS.nodup hMV.ord
  have hinj := fun {s t : Str} => @MV.inj E fr to hMV s t
  have hMm : ∀ s a, (s, a) ∈ E → (renU fr to s, a) ∈ movedE E fr to := fun s a h => hMV.perm.mem_iff.2 (List.mem_map.2 ⟨(s, a), h, rfl⟩)
  have hMa : ∀ e ∈ movedE E fr to, ∃ s ∈ keysE E, renU fr to s = e.1 := fun e he => hMV.keys.1 (List.mem_map.2 ⟨e, he, rfl⟩)
  generalize movedE E fr to = M at *
  simp -implicitDefEqProofs [initG, tr]
  refine givB [1000000, 1000001] 1000000 c1 (by simp [initG, tr]) rfl (by simp) ?_
  rintro r hs' ⟨rfl, rfl⟩
  simp -implicitDefEqProofs [initG, takeH, putH, tr]
  refine givB [1000000, 1000001] 1000000 c2 (by simp [initG, tr]) rfl (by simp) ?_
  rintro r hs' ⟨rfl, X', rfl⟩
  simp -implicitDefEqProofs [initG, takeH, putH, tr]
  refine makeK 9 1000002 (by simp [initG]) (fun g => ?_)
  simp -implicitDefEqProofs [initG]
  refine rawFd (e := 61) (ds := [.raw (.map (some u))]) 1000000 (by simp [initG]) (by omega) (by simp) (by kernel_rfl) ?_
  simp -implicitDefEqProofs [initG]
  refine rngK 1000001 map59 (by simp [initG]; exact ⟨rfl, rfl⟩) (fun e => ?_)
  simp -implicitDefEqProofs [initG]
  refine loopN (keysE E).length (MoI p u g E M fr to) ⟨[], [], e, Seen.nil _, rfl, by simp [initG], by simp [initG], by simp [initG], by simp [initG], by simp [initG], by simp [initG], by simp [initG], by simp [initG, pick_nil, mapE]⟩ ?_
  clear e c1 c2 X' X
  rintro k τ hk ⟨ss, seen, e, hS, hsl, g0, g1, g2, g28, g8, gA, gB, gC⟩
  have hnd := NS.nodup hE.ord
  simp -implicitDefEqProofs [g0, g1, g2, g28]
  refine nxtK 1000001 (by simp [gB]; exact ⟨rfl, rfl⟩) (fun x v hm hn => ?_) (fun hall => ?_)
  · obtain ⟨s, a, rfl, rfl, hin⟩ := mapE_mem hm
    have hin' := keys_mem hin
    have hS2 := hS.next hin' hn
    have hlt := hS.lt hnd hin' hn
    rw [hsl] at hlt
    have hsk := hE.klen hin'
    have c1 := nunder_fn s fr hsk hf
    have c2 := nrebase_fn s fr to hsk hf ht
    have hns : renU fr to s ∉ ss.map (renU fr to) := fun hm => by
      obtain ⟨t, ht, e⟩ := List.mem_map.1 hm
      have := hinj (hS.sub t ht) hin' e
      subst this
      exact hn (hS.mem.2 ht)
    have hp := mset_pick hMk hns (hMm s a hin)
    have hmap : (ss ++ [s]).map (renU fr to) = ss.map (renU fr to) ++ [renU fr to s] := by simp
    rw [← hmap] at hp
    generalize hM2 : pickE M ((ss ++ [s]).map (renU fr to)) = M2 at *
    generalize pickE M (ss.map (renU fr to)) = M1 at *
    have hru : renU fr to s = if underU s fr = true then (rebaseU s fr to).1 else s := rfl
    simp -implicitDefEqProofs [g0, g1, g2, g28, g8, gA, gB, gC]
    refine entK (kt := 9) 1000001 (by simp [gB]) hm ?_
    simp -implicitDefEqProofs [g0, g1, g2, g28, g8, gA, gB, gC]
    refine callK c1 ?_
    cases hu : underU s fr with
    | false =>
      rw [hu] at hru
      simp only [Bool.false_eq_true, if_false] at hru
      rw [hru] at hp
      simp only [atts] at hp
      simp -implicitDefEqProofs [g0, g1, g2, g28, g8, gA, gB, gC, hu, atts]
      refine updK (E := none) (m := mapE M1) 1000002 map59 (by simp [gC]) (fit_str s) (mapE M2) hp ?_
      exact again hlt ⟨ss ++ [s], seen ++ [.str s], e, hS2, by simp [hsl], by simp [g0], by simp [g1], by simp [g2], by simp, by simp [g8], by simp [gA], by simp [gB], by rw [hM2]; simp⟩
    | true =>
      rw [hu] at hru
      simp only [if_true] at hru
      rw [hru] at hp
      simp only [atts] at hp
      generalize rebaseU s fr to = G at *
      obtain ⟨t, er⟩ := G
      simp -implicitDefEqProofs [g0, g1, g2, g28, g8, gA, gB, gC, hu, atts]
      refine callK c2 ?_
      simp -implicitDefEqProofs [g0, g1, g2, g28, g8, gA, gB, gC, hu, atts]
      refine updK (E := none) (m := mapE M1) 1000002 map59 (by simp [gC]) (fit_str t) (mapE M2) hp ?_
      exact again hlt ⟨ss ++ [s], seen ++ [.str s], e, hS2, by simp [hsl], by simp [g0], by simp [g1], by simp [g2], by simp, by simp [g8], by simp [gA], by simp [gB], by rw [hM2]; simp⟩
  · have hpa := hS.all hnd (mapE_all hall)
    have hal : pickE M (ss.map (renU fr to)) = M := pick_all fun e he => by
      obtain ⟨s, hs, hr⟩ := hMa e he
      rw [← hr]
      exact List.mem_map.2 ⟨s, hpa.mem_iff.2 hs, rfl⟩
    rw [hal] at gC
    simp -implicitDefEqProofs [g0, g1, g2, g28, g8, gA, gB, gC]
    refine rawFd (e := 61) (ds := [.raw (.map (some u))]) 1000000 (by simp [gA]) (by omega) (by simp) (by kernel_rfl) ?_
    simp -implicitDefEqProofs [g0, g1, g2, g28, g8, gA, gB, gC]
    exact ⟨.d (.int .i64 0), [1000000, 1000002], by simp, by simp [gA, gC, isH], by simp [ResG], by simp, g, none, by simp [gA, gC, tr]⟩

/-! ### copies -/
def ClI (p u g q : Nat) (E : List Ent) (k : Nat) (τ : St) : Prop := ∃ ss seen e, Seen (keysE E) ss seen ∧ ss.length = k ∧ τ 0 = .d (.raw (va p)) ∧ τ 16 = .mit (.map (some u)) e seen ∧ τ 3 = .d (.raw (va q)) ∧
  τ 1000000 = .hb (va p) 61 (.agg [.raw (.map (some u))]) ∧ τ 1000001 = .hm (.map (some u)) 9 (mapE E) (some e) ∧ τ 1000002 = .hb (va q) 61 (.agg [.raw (.map (some g))]) ∧ τ 1000003 = .hm (.map (some g)) 9 (mapE (pickE E ss)) none
theorem tclone_fn (p u : Nat) (E : List Ent) (X : Option (List (D × Nat) × Nat)) (hE : TI E) :
    CtrG Tryz.prog 26 [.d (.raw (va p))] (tr p u E X) (fun r hs' => ∃ p' u' X', r = .d (.raw (va p')) ∧ hs' = tr p u E X' ++ tr p' u' E none) := by
  refine fn_of_vwpG (fun i => i == 5000007 || i == 1000011) (by kernel_rfl) Tryz.func26 (by kernel_rfl) rfl rfl (Nat.le_of_ble_eq_true rfl) (by kernel_rfl) rfl ?_
  have c1 := tmade_fn p u E X
  have hnd := NS.nodup hE.ord
  simp -implicitDefEqProofs [initG, tr]
  refine givB [1000000, 1000001] 1000000 c1 (by simp [initG, tr]) rfl (by simp) ?_
  rintro r hs' ⟨rfl, rfl⟩
  simp -implicitDefEqProofs [initG, takeH, putH, tr]
  refine makeK 9 1000003 (by simp [initG]) (fun g => ?_)
  simp -implicitDefEqProofs [initG]
  refine ⟨1000002, by simp [initG], fun q => ?_⟩
  simp -implicitDefEqProofs [initG]
  refine rawFd (e := 61) (ds := [.raw (.map (some u))]) 1000000 (by simp [initG]) (by omega) (by simp) (by kernel_rfl) ?_
  simp -implicitDefEqProofs [initG]
  refine rngK 1000001 map59 (by simp [initG]; exact ⟨rfl, rfl⟩) (fun e => ?_)
  simp -implicitDefEqProofs [initG]
  refine loopN (keysE E).length (ClI p u g q E) ⟨[], [], e, Seen.nil _, rfl, by simp [initG], by simp [initG], by simp [initG, va], by simp [initG], by simp [initG], by simp [initG, va], by simp [initG, pick_nil, mapE]⟩ ?_
  clear e c1
  rintro k τ hk ⟨ss, seen, e, hS, hsl, g0, g16, g3, gA, gB, gC, gD⟩
  simp -implicitDefEqProofs [g0, g16, g3]
  refine nxtK 1000001 (by simp [gB]; exact ⟨rfl, rfl⟩) (fun x v hm hn => ?_) (fun hall => ?_)
  · obtain ⟨s, a, rfl, rfl, hin⟩ := mapE_mem hm
    have hin' := keys_mem hin
    have hS2 := hS.next hin' hn
    have hlt := hS.lt hnd hin' hn
    rw [hsl] at hlt
    have hns : s ∉ ss := fun hm => hn (hS.mem.2 hm)
    have hp := mset_pick hnd hns hin
    generalize hM2 : pickE E (ss ++ [s]) = M2 at *
    generalize pickE E ss = M1 at *
    simp only [atts] at hp
    simp -implicitDefEqProofs [g0, g16, g3, gA, gB, gC, gD]
    refine entK (kt := 9) 1000001 (by simp [gB]) hm ?_
    simp -implicitDefEqProofs [g0, g16, g3, gA, gB, gC, gD]
    refine rawFd (e := 61) (ds := [.raw (.map (some g))]) 1000002 (by simp [gC]) (by omega) (by simp) (by kernel_rfl) ?_
    simp -implicitDefEqProofs [g0, g16, g3, gA, gB, gC, gD, atts]
    refine updK (E := none) (m := mapE M1) 1000003 map59 (by simp [gD]) (fit_str s) (mapE M2) hp ?_
    exact again hlt ⟨ss ++ [s], seen ++ [.str s], e, hS2, by simp [hsl], by simp [g0], by simp, by simp [g3], by simp [gA], by simp [gB], by simp [gC], by rw [hM2]; simp⟩
  · have hpa := hS.all hnd (mapE_all hall)
    have hal : pickE E ss = E := pick_all fun e he => hpa.mem_iff.2 (List.mem_map.2 ⟨e, he, rfl⟩)
    rw [hal] at gD
    simp -implicitDefEqProofs [g0, g16, g3, gA, gB, gC, gD]
    exact ⟨.d (.raw (va q)), [1000000, 1000001, 1000002, 1000003], by simp, by simp [gA, gB, gC, gD, isH], by simp [ResG], q, rfl, g, none, by simp [gA, gB, gC, gD, tr]⟩

/-! ### new trees -/
def newGo (E : List Ent) : List Str → List Ent × Int
  | [] => (E, 0)
  | s :: l => if validU s = false ∨ depthU s ≠ 1 then ([], 5) else if hasE E s = true then ([], 7) else newGo (insE (s, []) E) l
def newE (R : List Str) : List Ent × Int := if R = [] then ([], 6) else if 256 < R.length then ([], 3) else newGo [] R
def TrP (R : List Ent × Int) (r : AV) (hs' : List AV) : Prop := (R.2 ≠ 0 ∧ r = .tup [.d .nilp, .d (.int .i64 R.2)] ∧ hs' = []) ∨ (R.2 = 0 ∧ ∃ p u, r = .tup [.d (.raw (va p)), .d (.int .i64 0)] ∧ hs' = tr p u R.1 none)
def NeI (R : List Str) (V : List Ent × Int) (k : Nat) (τ : St) : Prop := ∃ E p u, τ 16 = .d (strs R) ∧ τ 17 = .d (.int .i64 R.length) ∧ τ 18 = .d (.int .i64 k) ∧ τ 4 = .d (.raw (va p)) ∧ newGo E (R.drop k) = V ∧
  τ 1000000 = .hb (va p) 61 (.agg [.raw (.map (some u))]) ∧ τ 1000001 = .hm (.map (some u)) 9 (mapE E) none
theorem tnew_fn (R : List Str) (hR : ∀ s ∈ R, List.length s < 900000) : CtrG Tryz.prog 11 [.d (strs R)] [] (TrP (newE R)) := by
  refine fn_of_vwpGN (rs := [.tmp 2, .tmp 3]) (fun i => i == 1000015 || i == 5000032) (by kernel_rfl) Tryz.func11 (by kernel_rfl) rfl rfl (by simp) (Nat.le_of_ble_eq_true rfl) (by kernel_rfl) rfl ?_
  obtain ⟨V, hV⟩ : ∃ V, newE R = V := ⟨_, rfl⟩
  rw [hV]
  unfold newE at hV
  by_cases h0 : R = []
  · rw [if_pos h0] at hV
    subst hV h0
    simp -implicitDefEqProofs [initG, strs]
    exact ⟨[.d .nilp, .d (.int .i64 6)], [], by simp, by simp, by simp [resDs, resD], .inl ⟨by decide, rfl, rfl⟩⟩
  rw [if_neg h0] at hV
  have h0l : ¬ R.length = 0 := fun q => h0 (List.eq_nil_of_length_eq_zero q)
  have h0i : ¬ (R.length : Int) = 0 := by omega
  by_cases h1 : 256 < R.length
  · have h1i : (256 : Int) < R.length := by omega
    rw [if_pos h1] at hV
    subst hV
    simp -implicitDefEqProofs [initG, strs, h0, h0i, h1, h1i]
    exact ⟨[.d .nilp, .d (.int .i64 3)], [], by simp, by simp, by simp [resDs, resD], .inl ⟨by decide, rfl, rfl⟩⟩
  rw [if_neg h1] at hV
  have h1i : ¬ (256 : Int) < R.length := by omega
  simp -implicitDefEqProofs [initG, strs, h0, h0i, h1, h1i]
  refine makeK 9 1000001 (by simp [initG]) (fun g => ?_)
  simp -implicitDefEqProofs [initG]
  refine ⟨1000000, by simp [initG], fun q => ?_⟩
  simp -implicitDefEqProofs [initG]
  refine loopN R.length (NeI R V) ⟨[], q, g, by simp [initG, strs], by simp [initG], by simp [initG], by simp [initG, va], by simpa using hV, by simp [initG, va], by simp [initG, mapE]⟩ ?_
  rintro k τ hk ⟨E, p, u, g16, g17, g18, g4, hgo, gA, gB⟩
  by_cases hlt : k < R.length
  · have hlt' : (k : Int) < R.length := by omega
    rw [List.drop_eq_getElem_cons hlt, newGo] at hgo
    have hs := hR _ (List.getElem_mem hlt)
    generalize hx : R[k] = s at *
    have c1 := nvalid_fn s hs
    have c2 := ndepth_fn s hs
    have c3 := thas_fn p u E none s
    cases h2 : validU s with
    | false =>
      rw [if_pos (.inl h2)] at hgo
      subst hgo
      rw [h2] at c1
      simp -implicitDefEqProofs [g16, g17, g18, g4, gA, gB, strs, hlt, hlt', hx]
      refine callK c1 ?_
      simp -implicitDefEqProofs [g16, g17, g18, g4, gA, gB]
      exact ⟨[.d .nilp, .d (.int .i64 5)], [], by simp, by simp, by simp [resDs, resD], .inl ⟨by decide, rfl, rfl⟩⟩
    | true =>
    rw [h2] at c1
    generalize depthU s = dp at *
    by_cases h3 : dp = 1
    case neg =>
      have h3' : ¬ (dp : Int) = 1 := by omega
      rw [if_pos (.inr h3)] at hgo
      subst hgo
      simp -implicitDefEqProofs [g16, g17, g18, g4, gA, gB, strs, hlt, hlt', hx]
      refine callK c1 ?_
      simp -implicitDefEqProofs [g16, g17, g18, g4, gA, gB]
      refine callK c2 ?_
      simp -implicitDefEqProofs [g16, g17, g18, g4, gA, gB, h3, h3']
      exact ⟨[.d .nilp, .d (.int .i64 5)], [], by simp, by simp, by simp [resDs, resD], .inl ⟨by decide, rfl, rfl⟩⟩
    subst h3
    rw [if_neg (by simp [h2])] at hgo
    cases h4 : hasE E s with
    | true =>
      rw [h4] at c3
      rw [if_pos h4] at hgo
      subst hgo
      simp -implicitDefEqProofs [g16, g17, g18, g4, gA, gB, strs, hlt, hlt', hx]
      refine callK c1 ?_
      simp -implicitDefEqProofs [g16, g17, g18, g4, gA, gB]
      refine callK c2 ?_
      simp -implicitDefEqProofs [g16, g17, g18, g4, gA, gB]
      refine givB [1000000, 1000001] 1000000 c3 (by simp [gA, gB, tr]) rfl (by simp) ?_
      rintro r hs' ⟨rfl, rfl⟩
      simp -implicitDefEqProofs [g16, g17, g18, g4, gA, gB, takeH, putH, tr]
      exact ⟨[.d .nilp, .d (.int .i64 7)], [], by simp, by simp, by simp [resDs, resD], .inl ⟨by decide, rfl, rfl⟩⟩
    | false =>
      rw [h4] at c3
      rw [if_neg (by simp [h4])] at hgo
      have hp := mset_new (n := s) [] h4
      generalize hE2 : insE (s, []) E = E2 at *
      simp -implicitDefEqProofs [g16, g17, g18, g4, gA, gB, strs, hlt, hlt', hx]
      refine callK c1 ?_
      simp -implicitDefEqProofs [g16, g17, g18, g4, gA, gB]
      refine callK c2 ?_
      simp -implicitDefEqProofs [g16, g17, g18, g4, gA, gB]
      refine givB [1000000, 1000001] 1000000 c3 (by simp [gA, gB, tr]) rfl (by simp) ?_
      rintro r hs' ⟨rfl, rfl⟩
      simp -implicitDefEqProofs [g16, g17, g18, g4, gA, gB, takeH, putH, tr]
      refine rawFd (e := 61) (ds := [.raw (.map (some u))]) 1000000 (by simp) (by omega) (by simp) (by kernel_rfl) ?_
      simp -implicitDefEqProofs [g16, g17, g18, g4, gA, gB]
      refine updK (E := none) (m := mapE E) 1000001 map59 (by simp) (fit_str s) (mapE E2) hp ?_
      simp -implicitDefEqProofs [g16, g17, g18, g4, gA, gB]
      repeat refine And.intro (by omega) ?_
      exact again hlt ⟨E2, p, u, by simp [g16, strs], by simp [g17], by simp, by simp [g4], hgo, by simp, by simp⟩
  · have hlt' : ¬ (k : Int) < R.length := by omega
    rw [List.drop_eq_nil_of_le (by omega), newGo] at hgo
    subst hgo
    simp -implicitDefEqProofs [g16, g17, g18, g4, gA, gB, strs, hlt, hlt']
    exact ⟨[.d (.raw (va p)), .d (.int .i64 0)], [1000000, 1000001], by simp, by simp [gA, gB, isH], by simp [resDs, resD, g4], .inr ⟨rfl, p, u, rfl, by simp [gA, gB, tr]⟩⟩
end Go.Proofs.Tz
