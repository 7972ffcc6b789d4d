/- EntriesPairs: for every two entries the law returns true, and both read as they did: the tied card (the package's listed tables hold what the program's text lays). -/
import Derived.Test.YtobfdenalhmecaaDoorSt
set_option linter.unusedSimpArgs false
set_option linter.unusedSectionVars false
set_option linter.unusedVariables false
namespace Go.Proofs.YtobfdenalhmecaaDoor.entriesPairs
open Bk Go Go.ChangeShapes Go.WideShapes Go.ChangeAt Go.RowKit

/-- what the walk gives, for all arguments and every world that holds the table -/
theorem contract (H : Type) (enc : TypeId × Value → H) (W : World) (base : Nat) (args : Array Value) (ds gs : List (DataW H)) (before : List MemPlace)
    (hval : ∀ (j : Nat) t v, Tryd.f3.params[j]? = some t → args[j]? = some v → Value.okWide Tryd.prog W .any base t v)
    (hW : DataW.Whole enc Tryd.prog Tryd.f3.params.toList Rows.entriesPairsSpec.vars false W args.toList ds gs before) (hL : laidMetH Tryd.prog Rows.entriesPairsRow.laid W) :
    Calls Tryd.prog 3 args W fun e W' => ∃ v, e = .returned v ∧ Rows.entriesPairsSpec.post enc Tryd.prog Tryd.f3 false true false false W args v W' := by
  have hW' := hW
  obtain ⟨p, q, hA0, hV, rfl, hfz, hnd⟩ := hW
  have hA : DataW.TrodAll enc Tryd.prog W 0 (fun _ => true) true Tryd.f3.params.toList args.toList ds p := hA0
  rw [Tryd.params3] at hA hval
  obtain ⟨v0, vs0, d0, ds0, p0, q0, hargs, rfl, rfl, h0, r0⟩ := trodAll_cons hA
  obtain ⟨v1, vs1, d1, ds1, p1, q1, rfl, rfl, rfl, h1, r1⟩ := trodAll_cons r0
  obtain ⟨rfl, rfl, rfl⟩ := trodAll_nil r1
  obtain rfl : args = #[v0, v1] := by cases args; simp_all
  obtain ⟨rfl, rfl⟩ := trodVars_none hV
  obtain ⟨x, rfl, rfl, rfl, x0, x1, x2⟩ := open_ent (hval 0 23 v0 rfl rfl) h0
  obtain ⟨y, rfl, rfl, rfl, y0, y1, y2⟩ := open_ent (hval 1 23 v1 rfl rfl) h1
  clear hA0
  simp only [List.append_nil] at hW'
  refine ((pc3 x y).run (allF W) W [entV x, entV y] (laid_gh hL) (fun _ _ _ h => h) rfl (fun i d v hd hv => ?_)).mono ?_
  · match i, hd, hv with
    | 0, hd, hv => cases hd; cases hv; exact ent_ri _ x
    | 1, hd, hv => cases hd; cases hv; exact ent_ri _ y
    | i + 2, hd, hv => cases hd
  · rintro e W' ⟨v, h', rfl, _, _, _, hr, hfr⟩
    have hb := hfr.below (fun b _ h => h)
    cases hr
    exact ⟨_, rfl, post_low (pa := []) (pv := []) hW' (fun _ _ _ => trodAll_cons_mk (shut_bool Tryd.underlying4 _) trodAll_mk0)
      (fun _ _ => trodAll_cons_mk (shut_ent x0 x1 x2) (trodAll_cons_mk (shut_ent y0 y1 y2) trodAll_mk0)) (fun _ _ => rfl) rfl
      hb (ok_one (by kernel_rfl) rfl (okWide_bool_mk Tryd.underlying4 _))⟩

noncomputable def inp : Array Value := #[entV noEnt, entV noEnt]
theorem laid_met (os : Os) : laidMet Tryd.prog Rows.entriesPairsRow.laid ((laidWorld os).forCall (fun _ _ => 0) ⟨#[], inp, []⟩).memory :=
  laidMet_of_run' 8 (by kernel_rfl) (by kernel_rfl)
theorem reads (os : Os) {H : Type} (enc : TypeId × Value → H) : ∃ places, DataW.whole enc Tryd.prog ((laidWorld os).forCall (fun _ _ => 0) ⟨#[], inp, []⟩).memory Tryd.f3.params.toList Rows.entriesPairsSpec.vars false inp.toList 8 = some ([entD noEnt, entD noEnt], [], places) :=
  ⟨[], by kernel_rfl⟩

set_option maxRecDepth 100000 in
theorem lifted (os : Os) (started : os.Started) (H : Type) (enc : TypeId × Value → H) (F : Stop.Interp) :
    ReturnsInHanded {} Tryd.checked os 3 .any ((OpenSpec.ofChange Rows.entriesPairsSpec).preRow enc Tryd.prog Tryd.f3 Rows.entriesPairsRow.domain false Rows.entriesPairsRow.laid) (((OpenSpec.ofChange Rows.entriesPairsSpec).at F).post enc Tryd.prog Tryd.f3 false true false false) := by
  obtain ⟨places, hx⟩ := reads os enc
  refine returnsInHanded_of_row (C := Tryd.checked) (s := OpenSpec.ofChange Rows.entriesPairsSpec) own started (by kernel_rfl) Tryd.func3
    (witness_row_at (enc := enc) (C := Tryd.checked) false (laidWorld os) inp rfl (by kernel_rfl) (by kernel_rfl) (by kernel_rfl)
      (OpenSpec.preRow_of_cond 8 hx (by kernel_rfl) (fun k hk => by cases hk) (by kernel_rfl) (laid_met os))) ?_
  intro W base args ds gs before hval hW _ _ _ hL _ _
  exact contract H enc W base args ds gs before hval hW hL

theorem said : Rows.EntriesPairsSaid :=
  OpenClaim.holds_of_cond 3 Tryd.f3 rfl rfl rfl rfl rfl rfl rfl ⟨rfl, rfl, rfl, rfl, rfl⟩ rfl rfl rfl rfl rfl (by kernel_rfl) Tryd.func3 (by kernel_rfl)
    (of_decide_eq_true (by kernel_rfl)) (by unfold Func.isWrapper; first | (rw [if_pos (by decide +kernel)]; kernel_rfl) | (rw [if_neg (by decide +kernel)]; exact ⟨rfl, rfl⟩))
    (fun os started H enc _ F => by rw [OpenClaim.pre_eq_preRow]; exact lifted os started H enc F)

theorem plain (f : FuncId) (fn : Func) (hf : Tryd.pinned.checked.prog.funcNamed "bookend/bookendlaw03.EntriesPairs" = some f) (hfn : Tryd.pinned.checked.prog.funcs[f]? = some fn) :
    false = Tryd.pinned.checked.prog.looks [] ∧ ∀ (j : Nat) t, fn.params[j]? = some t → Tryd.pinned.checked.prog.wantsStandIn t = false := by
  obtain rfl : f = 3 := Option.some.inj ((show Tryd.prog.funcNamed "bookend/bookendlaw03.EntriesPairs" = some 3 by kernel_rfl).symm.trans hf) |>.symm
  obtain rfl : fn = Tryd.f3 := (Option.some.inj (Tryd.func3.symm.trans hfn)).symm
  refine ⟨by kernel_rfl, fun j t ht => ?_⟩
  rw [Tryd.params3] at ht
  obtain rfl : t = 23 := by
    have := Array.mem_of_getElem? ht
    simpa using this
  exact (show Tryd.prog.wantsStandIn 23 = false by kernel_rfl)

end Go.Proofs.YtobfdenalhmecaaDoor.entriesPairs
namespace Go.Proofs.YtobfdenalhmecaaDoor
/-- the card -/
theorem entriesPairs_card : Rows.EntriesPairsCardSaid :=
  Claim7.holds_tied_plain_at .later [] _ _ _ _ entriesPairs.said (fun _ h => by cases h) (by kernel_rfl) (fun _ h => by cases h) entriesPairs_row_tie rfl ⟨rfl, rfl⟩ (by kernel_rfl) rfl entriesPairs.plain (by kernel_rfl)
#print axioms entriesPairs_card
end Go.Proofs.YtobfdenalhmecaaDoor

