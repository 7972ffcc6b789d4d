/- EntriesSorted: for every list of entries the law returns true, and the list reads as it did: the tied card (the package's listed tables hold what the program's text lays). -/
import Derived.Test.YtobfdenalhmecaaDoorSt
import Derived.Test.YtobfdenalhmecaaDoorSA
import Derived.Carry
import Derived.Deep.Slices
set_option linter.unusedSimpArgs false
set_option linter.unusedSectionVars false
set_option linter.unusedVariables false
namespace Go.Proofs.YtobfdenalhmecaaDoor.entriesSorted
open Bk Go Go.ChangeShapes Go.WideShapes Go.ChangeAt Go.RowKit

theorem u33 : Tryd.prog.underlying 33 = some (.slice 23) := by kernel_rfl
theorem laid33 : laidOutB Tryd.prog = true := by kernel_rfl
theorem read33 : Tryd.prog.readableRec 33 = true := by kernel_rfl
theorem row33 : 33 < Tryd.prog.types.size := of_decide_eq_true (by kernel_rfl)

section
variable {H : Type} {enc : TypeId × Value → H} {w : World} {base : Nat} {sp : Nat → Bool} {held : Bool}
/-- an entry's four cells -/
theorem ent_cells {n : Nat} {cs : List Value} {d : DataW H} {p : List MemPlace} (h : DataW.trod enc Tryd.prog w base sp held n 23 cs = some (d, p)) : ∃ x : Ent, cs = [.string x.k, .string x.v, .bool x.dead, .int .i64 x.seq] := by
  obtain ⟨f0, f1, f2, f3, hu, ho, t0, t1, t2, t3⟩ := tF23
  obtain ⟨y0, y1, y2, y3, m, _, hl, h0, h1, h2, h3⟩ := Joins.trod_struct4 hu h
  obtain ⟨o0, k0⟩ := Deep.hone_of ho 0 f0 rfl
  obtain ⟨o1, k1⟩ := Deep.hone_of ho 1 f1 rfl
  obtain ⟨o2, k2⟩ := Deep.hone_of ho 2 f2 rfl
  obtain ⟨o3, k3⟩ := Deep.hone_of ho 3 f3 rfl
  rw [tC23] at hl
  match cs, hl with
  | [a, b, c, e], _ =>
  rw [o0, k0, t0] at h0
  rw [o1, k1, t1] at h1
  rw [o2, k2, t2] at h2
  rw [o3, k3, t3] at h3
  obtain ⟨s0, e0, _, _⟩ := DataW.trod_string tU9 h0
  obtain ⟨s1, e1, _, _⟩ := DataW.trod_string tU9 h1
  obtain ⟨b2, e2, _⟩ := DataW.trod_bool tU4 h2
  obtain ⟨z3, e3, _, _⟩ := DataW.trod_int tU2 h3
  simp at e0 e1 e2 e3
  subst e0; subst e1; subst e2; subst e3
  exact ⟨⟨s0, s1, b2, z3⟩, rfl⟩

/-- a list of entries that came in -/
theorem open_list {r : Reach} {b0 : Nat} {v : Value} {d : DataW H} {p : List MemPlace} (hv : Value.okWide Tryd.prog w r b0 33 v) (h : DataW.Trod enc Tryd.prog w base sp held 33 v d p) : ∃ l : List Ent, RI (allF w) (ents l) v := by
  obtain ⟨a, len, cap, rfl⟩ := okWide_slice u33 hv
  obtain ⟨fuel, hf⟩ := h
  rcases Deep.open_slice u33 hf with ⟨h0, _⟩ | ⟨a', len', cap', m, n, Dt, Pl, h0, _, hlc, _, hmm, _, hx⟩
  · simp [Value.cells] at h0
    obtain ⟨rfl, rfl, rfl⟩ := h0
    exact ⟨[], .slE 4 none 0⟩
  · simp [Value.cells] at h0
    obtain ⟨rfl, rfl, rfl⟩ := h0
    have hm : len ≤ m := by rw [hmm]; split <;> omega
    have each : ∀ i, i < len → ∃ x : Ent, w.cells? base (a'.add (i * 4)) 4 = some [.string x.k, .string x.v, .bool x.dead, .int .i64 x.seq] := by
      intro i hi
      obtain ⟨cs, h1, h2⟩ := hx i (by omega)
      rw [tC23] at h1
      obtain ⟨x, rfl⟩ := ent_cells h2
      exact ⟨x, h1⟩
    haveI : Inhabited Ent := ⟨noEnt⟩
    obtain ⟨f, hfx⟩ := Deep.choose_lt each
    by_cases h0 : len = 0
    · subst h0; exact ⟨[], .slE 4 (some a') cap⟩
    · have hsp : a'.spot = none := by
        have h1 := (World.cells?_some (hfx 0 (by omega))).2.2 0 (by omega)
        have h2 := World.cell?_spot h1
        simpa [Addr.add] using h2
      obtain ⟨b, o, spot⟩ := a'
      simp only at hsp
      subst hsp
      have hcell : ∀ i (j : Nat), i < len → j < 4 → w.cell? ⟨b, o + (i * 4 + j), none⟩ = [Value.string (f i).k, .string (f i).v, .bool (f i).dead, .int .i64 (f i).seq][j]? := by
        intro i j hi hj
        have h1 := (World.cells?_some (hfx i hi)).2.2 j hj
        rw [Addr.add_lit, Addr.add_lit, Nat.add_assoc] at h1
        exact h1
      refine ⟨(List.range len).map f, ?_⟩
      have hes : ∀ e ∈ ((List.range len).map f).map Ent.c, e.length = 4 := by
        intro e he
        obtain ⟨x, _, rfl⟩ := List.mem_map.1 he
        rfl
      refine .sl 4 _ b o len cap (fun j => (w.cell? ⟨b, o + j, none⟩).getD undef) hes (by simp) hlc (fun j hj => ?_) (fun j d hd => ?_)
      · obtain ⟨i, q, rfl, hq⟩ := divmod 4 j (by decide)
        have hi : i < len := by omega
        have h1 := hcell i q hi hq
        show w.cell? _ = some _ ∧ _
        simp only [h1]
        match q, hq with
        | 0, _ => exact ⟨rfl, rfl⟩
        | 1, _ => exact ⟨rfl, rfl⟩
        | 2, _ => exact ⟨rfl, rfl⟩
        | 3, _ => exact ⟨rfl, rfl⟩
      · obtain ⟨i, q, c, rfl, hq, hc, hd⟩ := flat_inv 4 _ hes j d hd
        have hi : i < len := by
          have := get_lt hc
          simpa using this
        have hce : c = (f i).c := by
          rw [List.getElem?_map, List.getElem?_map, List.getElem?_range hi] at hc
          simp at hc; exact hc.symm
        subst hce
        have h1 := hcell i q hi hq
        simp only [h1]
        match q, hq, hd with
        | 0, _, hd => cases hd; exact .v _
        | 1, _, hd => cases hd; exact .v _
        | 2, _, hd => cases hd; exact .v _
        | 3, _, hd => cases hd; exact .v _
end

/-- what the walk gives, for all arguments and every world that holds the table -/
theorem contract (H : Type) (enc : TypeId × Value → H) (W : World) (base : Nat) (args : Array Value) (ds gs : List (DataW H)) (before : List MemPlace)
    (hval : ∀ (j : Nat) t v, Tryd.f4.params[j]? = some t → args[j]? = some v → Value.okWide Tryd.prog W .any base t v)
    (hW : DataW.Whole enc Tryd.prog Tryd.f4.params.toList Rows.entriesSortedSpec.vars false W args.toList ds gs before) (hL : laidMetH Tryd.prog Rows.entriesSortedRow.laid W) :
    Calls Tryd.prog 4 args W fun e W' => ∃ v, e = .returned v ∧ Rows.entriesSortedSpec.post enc Tryd.prog Tryd.f4 false true false false W args v W' := by
  have hW' := hW
  obtain ⟨p, q, hA0, hV, rfl, hfz, hnd⟩ := hW
  have hA : DataW.TrodAll enc Tryd.prog W 0 (fun _ => true) true Tryd.f4.params.toList args.toList ds p := hA0
  rw [Tryd.params4] at hA hval
  obtain ⟨v0, vs0, d0, ds0, p0, q0, hargs, rfl, rfl, h0, r0⟩ := trodAll_cons hA
  obtain ⟨rfl, rfl, rfl⟩ := trodAll_nil r0
  obtain rfl : args = #[v0] := by cases args; simp_all
  obtain ⟨rfl, rfl⟩ := trodVars_none hV
  obtain ⟨l, hl⟩ := open_list (hval 0 33 v0 rfl rfl) h0
  clear hA0
  simp only [List.append_nil] at hW'
  have hlt : ∀ x ∈ p0, x.block < W.heap.size := fun x hx => by simpa using hW'.lt x hx
  refine ((pc4 l).run (allF W) W [v0] (laid_gh hL) (fun _ _ _ h => h) rfl (fun i d v hd hv => ?_)).mono ?_
  · match i, hd, hv with
    | 0, hd, hv => cases hd; cases hv; exact hl
    | i + 1, hd, hv => cases hd
  · rintro e W' ⟨v, h', rfl, _, _, _, hr, hfr⟩
    have hb := hfr.below (fun b _ h => h)
    cases hr
    have stays : ∀ sp : Nat → Bool, (∀ p ∈ p0, sp p.block = true) → DataW.Trod enc Tryd.prog W' 0 sp true 33 v0 d0 p0 := fun sp hsp =>
      WideElems.Trod_stays laid33 read33 row33 h0 (fun x hx => hb.same (hlt x hx)) hsp
    exact ⟨_, rfl, post_low (pa := p0) (pv := []) hW' (fun _ _ _ => trodAll_cons_mk (shut_bool Tryd.underlying4 _) trodAll_mk0)
      (fun sp hsp => by
        have := trodAll_cons_mk (stays sp hsp) (trodAll_mk0 (enc := enc) (P := Tryd.prog) (w := W') (base := 0) (spare := sp) (held := true))
        rw [List.append_nil] at this
        exact this) (fun _ _ => rfl) (by simp)
      hb (ok_one (by kernel_rfl) rfl (okWide_bool_mk Tryd.underlying4 _))⟩

noncomputable def inp : Array Value := #[.slice none 0 0]
theorem laid_met (os : Os) : laidMet Tryd.prog Rows.entriesSortedRow.laid ((laidWorld os).forCall (fun _ _ => 0) ⟨#[], inp, []⟩).memory :=
  laidMet_of_run' 8 (by kernel_rfl) (by kernel_rfl)
theorem reads (os : Os) {H : Type} (enc : TypeId × Value → H) : ∃ places, DataW.whole enc Tryd.prog ((laidWorld os).forCall (fun _ _ => 0) ⟨#[], inp, []⟩).memory Tryd.f4.params.toList Rows.entriesSortedSpec.vars false inp.toList 8 = some ([.nil], [], places) :=
  ⟨[], by kernel_rfl⟩

set_option maxRecDepth 100000 in
theorem lifted (os : Os) (started : os.Started) (H : Type) (enc : TypeId × Value → H) (F : Stop.Interp) :
    ReturnsInHanded {} Tryd.checked os 4 .any ((OpenSpec.ofChange Rows.entriesSortedSpec).preRow enc Tryd.prog Tryd.f4 Rows.entriesSortedRow.domain false Rows.entriesSortedRow.laid) (((OpenSpec.ofChange Rows.entriesSortedSpec).at F).post enc Tryd.prog Tryd.f4 false true false false) := by
  obtain ⟨places, hx⟩ := reads os enc
  refine returnsInHanded_of_row (C := Tryd.checked) (s := OpenSpec.ofChange Rows.entriesSortedSpec) own started (by kernel_rfl) Tryd.func4
    (witness_row_at (enc := enc) (C := Tryd.checked) false (laidWorld os) inp rfl (by kernel_rfl) (by kernel_rfl) (by kernel_rfl)
      (OpenSpec.preRow_of_cond 8 hx (by kernel_rfl) (fun k hk => by cases hk) (by kernel_rfl) (laid_met os))) ?_
  intro W base args ds gs before hval hW _ _ _ hL _ _
  exact contract H enc W base args ds gs before hval hW hL

theorem said : Rows.EntriesSortedSaid :=
  OpenClaim.holds_of_cond 4 Tryd.f4 rfl rfl rfl rfl rfl rfl rfl ⟨rfl, rfl, rfl, rfl, rfl⟩ rfl rfl rfl rfl rfl (by kernel_rfl) Tryd.func4 (by kernel_rfl)
    (of_decide_eq_true (by kernel_rfl)) (by unfold Func.isWrapper; first | (rw [if_pos (by decide +kernel)]; kernel_rfl) | (rw [if_neg (by decide +kernel)]; exact ⟨rfl, rfl⟩))
    (fun os started H enc _ F => by rw [OpenClaim.pre_eq_preRow]; exact lifted os started H enc F)

theorem plain (f : FuncId) (fn : Func) (hf : Tryd.pinned.checked.prog.funcNamed "bookend/bookendlaw03.EntriesSorted" = some f) (hfn : Tryd.pinned.checked.prog.funcs[f]? = some fn) :
    false = Tryd.pinned.checked.prog.looks [] ∧ ∀ (j : Nat) t, fn.params[j]? = some t → Tryd.pinned.checked.prog.wantsStandIn t = false := by
  obtain rfl : f = 4 := Option.some.inj ((show Tryd.prog.funcNamed "bookend/bookendlaw03.EntriesSorted" = some 4 by kernel_rfl).symm.trans hf) |>.symm
  obtain rfl : fn = Tryd.f4 := (Option.some.inj (Tryd.func4.symm.trans hfn)).symm
  refine ⟨by kernel_rfl, fun j t ht => ?_⟩
  rw [Tryd.params4] at ht
  obtain rfl : t = 33 := by
    have := Array.mem_of_getElem? ht
    simpa using this
  exact (show Tryd.prog.wantsStandIn 33 = false by kernel_rfl)

end Go.Proofs.YtobfdenalhmecaaDoor.entriesSorted
namespace Go.Proofs.YtobfdenalhmecaaDoor
/-- the card -/
theorem entriesSorted_card : Rows.EntriesSortedCardSaid :=
  Claim7.holds_tied_plain_at .later [] _ _ _ _ entriesSorted.said (fun _ h => by cases h) (by kernel_rfl) (fun _ h => by cases h) entriesSorted_row_tie rfl ⟨rfl, rfl⟩ (by kernel_rfl) rfl entriesSorted.plain (by kernel_rfl)
#print axioms entriesSorted_card
end Go.Proofs.YtobfdenalhmecaaDoor
