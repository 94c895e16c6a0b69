/-
  After each of a sequence of records the state returns what the reference returns: the answer of Apply, the entry under a name, the lists, each entry, and what a state of the whole sequence returns. THE CONDITIONS: none on the arguments beyond the form's own reach; the listed tables are as the program's text lays them (tied by the given tie).
-/
import Derived.MakeChecks
import Derived.Test.YtnknfnfinhagoaaGreatDoorCards
import Derived.Test.YtnknfnfinhagoaaGreatDoorTie
import Derived.Test.YtnknfnfinhagoaaGreatDoorTf
import Derived.Deep.DeepHandedRow
import Derived.Lay
namespace Go.Proofs.YtnknfnfinhagoaaGreatDoor.mergeStatesWhole
open Go.ChangeShapes Go.WideShapes Go.ChangeAt Go.RowKit Go.Vw
set_option maxRecDepth 100000
set_option linter.unusedVariables false

theorem own : ownKnob Tryz.prog.godebug = none := by kernel_rfl
theorem kids : Kids Tryz.prog (· < Tryz.prog.types.size) := kids_rows (by kernel_rfl) (by kernel_rfl)
theorem filled : ∀ t e, t < Tryz.prog.types.size → Tryz.prog.underlying t = some (.slice e) → 0 < Tryz.prog.cellsOf e := slices_full_of Tryz.prog (by kernel_rfl)
theorem typed : ∀ t ∈ Tryz.f3.params.toList, t < Tryz.prog.types.size := by
  have h : (Tryz.f3.params.toList.all fun t => decide (t < Tryz.prog.types.size)) = true := by kernel_rfl
  exact fun t ht => of_decide_eq_true (List.all_eq_true.1 h t ht)
theorem weighty : ∀ t e, t < Tryz.prog.types.size → Tryz.prog.underlying t = some (.slice e) → 0 < Tryz.prog.bytesOf e := bytes_full_of Tryz.prog (by kernel_rfl)

theorem words_only {P : Program} {g : Nat} {dw de : D} {g' : Nat} {d : D} (h1 : P.globalNamed "identity/change.words" = some g) (h2 : P.globalNamed "identity/tree.errors" = none) (h : (([("identity/change.words", dw), ("identity/tree.errors", de)] : List (String × D)).find? fun p => decide (P.globalNamed p.1 = some g')).map (·.2) = some d) : g' = g ∧ d = dw := by
  simp only [List.find?_cons, List.find?_nil, h1, h2] at h
  by_cases e : g = g'
  · subst e
    simp at h
    exact ⟨rfl, h.symm⟩
  · simp [e] at h

/-- What the walk gives, for all arguments. -/
theorem contract (H : Type) (enc : TypeId × Value → H) (W : World) (base : Nat) (args : Array Value) (ds gs : List (DataW H)) (before : List MemPlace)
    (hval : ∀ (j : Nat) t v, Tryz.f3.params[j]? = some t → args[j]? = some v → Value.okWide Tryz.prog W .any base t v)
    (hL : laidMetH Tryz.prog Rows.mergeStatesRow.laid W)
    (hW : DataW.Whole enc Tryz.prog Tryz.f3.params.toList Rows.mergeStatesSpec.vars false W args.toList ds gs before) (hk : (DataW.weightsEach Tryz.prog (Tryz.f3.params.toList ++ (OpenSpec.ofChange Rows.mergeStatesSpec).bare.plain.varTypes Tryz.prog) (ds ++ gs)).all (· ≤ reachBytes) = true) :
    Calls Tryz.prog 3 args W fun e W' => ∃ v, e = .returned v ∧ Rows.mergeStatesSpec.post enc Tryz.prog Tryz.f3 false true false false W args v W' := by
  have hW' := hW
  obtain ⟨p, q, hA, hV, rfl, _, _⟩ := hW
  obtain ⟨rfl, rfl⟩ := trodVars_none hV
  obtain ⟨hr, hf⟩ := open_args kids filled (base := base) (l := [.sl (.agg [.agg [.int .i64, .int .i64, .int .i64], .int .i64, .str, .str, .str, .str]), .str]) (by kernel_rfl) typed (fun j t v h1 h2 => hval j t v (by simpa using h1) (by simpa using h2)) hA
  have hb : D.lims 140737488351232 (ds.map toD) := by
    have e : Tryz.f3.params.toList ++ (OpenSpec.ofChange Rows.mergeStatesSpec).bare.plain.varTypes Tryz.prog = Tryz.f3.params.toList := List.append_nil _
    rw [e, List.append_nil] at hk
    exact lim_args kids weighty (l := [.sl (.agg [.agg [.int .i64, .int .i64, .int .i64], .int .i64, .str, .str, .str, .str]), .str]) (by kernel_rfl) typed hA fun y hy => of_decide_eq_true (List.all_eq_true.1 hk y hy)
  have hlen : ds.length = 2 → Rows.mergeStatesSpec.fn H ds = { results := [.lit (.bool true)], args := ds } := fun h => by
    match ds, h with
    | [d0, d1], _ => rfl
  generalize ds.map toD = dd at hr hf hb
  simp only [Sh.FitsL] at hf
  obtain ⟨x0, y0, e0, f0, x1, y1, e1, f1, e2⟩ := hf
  obtain ⟨a0, g0⟩ := Tz.fits_chgs f0
  obtain ⟨a1, g1⟩ := Tz.fits_str f1
  rw [e0, e1] at hr hb
  rw [e2, g0, g1] at hr hb
  rw [Go.MakeChecks.laidMetH_plain _ _ _ (by kernel_rfl)] at hL
  have hgl : GL Tryz.prog W (old W) := gl_of_laid kids filled hL (dw := Rows.laid_identity_change_words) (sh := .sl .str) (List.mem_of_getElem? (i := 1) rfl) rfl (g := 0) (t := 43) (by kernel_rfl) (by kernel_rfl) (of_decide_eq_true (by kernel_rfl)) (by kernel_rfl) (fun _ _ h => words_only (by kernel_rfl) (by kernel_rfl) h)
  have c := (Tz.MergeStates_ok a0 a1 hb).2 W (old W) none args.toList (fun _ _ h => h) hgl (fun _ h => by cases h) hr
  rw [Array.toArray_toList] at c
  refine c.mono fun e W' ⟨v, L', og', he, hg, _, _, _, hv⟩ => ⟨v, he, ?_⟩
  obtain rfl : v = .bool true := RepV.bool_inv (by simpa only [RC] using hv)
  rw [noB_eq] at hg
  exact law_post kids filled typed rfl (fun h => hlen h) (by kernel_rfl) (show Tryz.prog.underlying 4 = some .bool by kernel_rfl) hW' hg

noncomputable def laidWorld (os : Os) : World := World.laidAll Tryz.prog os Rows.mergeStatesRow.laid
theorem reads (os : Os) {H : Type} (enc : TypeId × Value → H) : ∃ places, DataW.whole enc Tryz.prog ((laidWorld os).forCall (fun _ _ => 0) ⟨#[], #[.slice none 0 0, .string .empty], []⟩).memory Tryz.f3.params.toList Rows.mergeStatesSpec.vars false (#[.slice none 0 0, .string .empty] : Array Value).toList 8 = some ([.nil, .lit (.string [])], [], places) :=
  ⟨[], by kernel_rfl⟩
theorem laid_met (os : Os) : laidMet Tryz.prog Rows.mergeStatesRow.laid ((laidWorld os).forCall (fun _ _ => 0) ⟨#[], #[.slice none 0 0, .string .empty], []⟩).memory :=
  laidMet_laidAll _ (by kernel_rfl) (by kernel_rfl)
theorem shaped (os : Os) : ((laidWorld os).forCall (fun _ _ => 0) ⟨#[], #[.slice none 0 0, .string .empty], []⟩).Shaped Tryz.prog := World.shaped_of_ZipB (by kernel_rfl) (by kernel_rfl)

theorem lifted (os : Os) (started : os.Started) (H : Type) (enc : TypeId × Value → H) (F : Stop.Interp) :
    ReturnsInHanded {} Tryz.checked os 3 .any ((OpenSpec.ofChange Rows.mergeStatesSpec).preRow enc Tryz.prog Tryz.f3 Rows.mergeStatesRow.domain false Rows.mergeStatesRow.laid) (((OpenSpec.ofChange Rows.mergeStatesSpec).at F).post enc Tryz.prog Tryz.f3 false true false false) := by
  obtain ⟨places, hx⟩ := reads os enc
  refine returnsInHanded_of_row (C := Tryz.checked) (s := OpenSpec.ofChange Rows.mergeStatesSpec) own started (by kernel_rfl) Tryz.func3
    (witness_laid (enc := enc) (C := Tryz.checked) false (laidWorld os) #[.slice none 0 0, .string .empty] (World.laidAll_os _ _ _) (shaped os) (by kernel_rfl)
      (OpenSpec.preRow_of_cond 8 hx (by kernel_rfl) (fun k hk => by cases hk) (by kernel_rfl) (laid_met os))) ?_
  intro W base args ds gs before hval hW _ _ hz hL _ _
  exact contract H enc W base args ds gs before hval hL hW hz

theorem said : Rows.MergeStatesSaid :=
  OpenClaim.holds_of_cond 3 Tryz.f3 rfl rfl rfl rfl rfl rfl rfl ⟨rfl, rfl, rfl, rfl, rfl⟩ rfl rfl rfl rfl rfl (by kernel_rfl) Tryz.func3 (by kernel_rfl)
    (of_decide_eq_true (by kernel_rfl)) (by unfold Func.isWrapper; first | (rw [if_pos (by decide +kernel)]; kernel_rfl) | (rw [if_neg (by decide +kernel)]; exact ⟨rfl, rfl⟩))
    (fun os started H enc _ F => by rw [OpenClaim.pre_eq_preRow]; exact lifted os started H enc F)

theorem plain (f : FuncId) (fn : Func) (hf : Tryz.pinned.checked.prog.funcNamed Rows.mergeStatesRow.func = some f) (hfn : Tryz.pinned.checked.prog.funcs[f]? = some fn) :
    true = Tryz.pinned.checked.prog.looks [] ∧ ∀ (j : Nat) t, fn.params[j]? = some t → Tryz.pinned.checked.prog.wantsStandIn t = false := by
  obtain rfl : f = 3 := Option.some.inj ((show Tryz.prog.funcNamed Rows.mergeStatesRow.func = some 3 by kernel_rfl).symm.trans hf) |>.symm
  obtain rfl : fn = Tryz.f3 := (Option.some.inj (Tryz.func3.symm.trans hfn)).symm
  refine ⟨by kernel_rfl, fun j t ht => ?_⟩
  have hall : (Tryz.f3.params.toList.all fun u => !Tryz.prog.wantsStandIn u) = true := by kernel_rfl
  have hm : t ∈ Tryz.f3.params.toList := by simpa using Array.mem_of_getElem? ht
  exact (show Tryz.prog.wantsStandIn t = false by simpa using List.all_eq_true.1 hall t hm)

theorem card : Rows.MergeStatesCardSaid :=
  Claim7.holds_tied_plain_at .later [] _ _ _ _ said (fun _ h => by cases h) (by kernel_rfl) (fun _ h => by cases h) mergeStates_row_tie rfl ⟨rfl, rfl⟩ (by kernel_rfl) rfl plain (by kernel_rfl)
end Go.Proofs.YtnknfnfinhagoaaGreatDoor.mergeStatesWhole
namespace Go.Proofs.YtnknfnfinhagoaaGreatDoor
theorem mergeStates_proved : Rows.MergeStatesCardSaid := mergeStatesWhole.card
end Go.Proofs.YtnknfnfinhagoaaGreatDoor
