/- The rows' common part: what the listed table of escapes gives; a world for the witnesses. -/
import Derived.Test.YtobfdenalhmecaaDoorSq
import Derived.Test.YtobfdenalhmecaaDoorCards
import Derived.Test.YtobfdenalhmecaaDoorTie
import Derived.WalkKit
import Derived.ProofKit
import Derived.OpenShut
import Derived.Deep.DeepHandedRow
import Derived.Lib.LaidTab
import Derived.Lib.SmallJoins
set_option linter.unusedSimpArgs false
set_option linter.unusedSectionVars false
set_option linter.unusedVariables false
namespace Bk
open Go Go.Proofs Go.Proofs.YtobfdenalhmecaaDoor Go.ChangeShapes Go.WideShapes Go.ChangeAt Go.RowKit

theorem own : ownKnob Tryd.prog.godebug = none := by kernel_rfl
theorem gEsc : Tryd.prog.globalNamed "bookend/words.escapes" = some 0 := by kernel_rfl
theorem gEscType : (Tryd.prog.globals[0]?).map (·.type) = some 79 := by kernel_rfl
theorem tU79 : Tryd.prog.underlying 79 = some (.array 5 78) := by kernel_rfl
theorem tU5 : Tryd.prog.underlying 5 = some (.int .u8) := by kernel_rfl
theorem tC78 : Tryd.prog.cellsOf 78 = 2 := by kernel_rfl
theorem tC79 : Tryd.prog.cellsOf 79 = 10 := by kernel_rfl
theorem tC5 : Tryd.prog.cellsOf 5 = 1 := by kernel_rfl
theorem tF78 : ∃ f0 f1 : Field, Tryd.prog.underlying 78 = some (.struct #[f0, f1]) ∧ f0.type = 5 ∧ f1.type = 5 ∧ f0.offset = 0 ∧ f1.offset = 1 := ⟨_, _, Tryd.underlying78, rfl, rfl, rfl, rfl⟩

section
variable {H : Type} {enc : TypeId × Value → H} {w : World} {base : Nat} {sp : Nat → Bool} {held : Bool} {fuel : Nat}
theorem esc2 {cs : List Value} {x y : Int} {p : List MemPlace} (h : DataW.trod enc Tryd.prog w base sp held fuel 78 cs = some (.agg [.lit (.int .u8 x), .lit (.int .u8 y)], p)) : cs = [.int .u8 x, .int .u8 y] := by
  obtain ⟨f0, f1, hu, t0, t1, o0, o1⟩ := tF78
  obtain ⟨y0, y1, n, hx, hl, h0, h1⟩ := trod_struct2 hu h
  rw [t0, o0, tC5] at h0
  rw [t1, o1, tC5] at h1
  rw [tC78] at hl
  match cs, hl with
  | [a, b], _ =>
  obtain ⟨z0, c0, rfl, _⟩ := DataW.trod_int tU5 h0
  obtain ⟨z1, c1, rfl, _⟩ := DataW.trod_int tU5 h1
  simp at c0 c1
  simp at hx
  subst c0; subst c1
  obtain ⟨⟨rfl, rfl⟩, _⟩ := hx
  rfl
theorem esc10 {cs : List Value} {p : List MemPlace} (h : DataW.trod enc Tryd.prog w base sp held fuel 79 cs = some (Rows.laid_bookend_words_escapes, p)) : cs = escL := by
  cases fuel with
  | zero => simp [DataW.trod] at h
  | succ fuel =>
    simp only [DataW.trod, tU79, tC78, tC79] at h
    split at h
    · rename_i hl
      obtain ⟨xs, hm, hx⟩ := Option.map_eq_some_iff.1 h
      have hxs := congrArg Prod.fst hx
      simp only [Rows.laid_bookend_words_escapes, DataW.agg.injEq] at hxs
      have hlen := Lib.mapM_length hm
      match xs, hlen, hxs with
      | [⟨d0, p0⟩, ⟨d1, p1⟩, ⟨d2, p2⟩, ⟨d3, p3⟩, ⟨d4, p4⟩], _, hxs =>
      simp only [List.map_cons, List.map_nil, List.cons.injEq, and_true] at hxs
      obtain ⟨rfl, rfl, rfl, rfl, rfl⟩ := hxs
      match cs, hl with
      | [a0, a1, a2, a3, a4, a5, a6, a7, a8, a9], _ =>
      have g : ∀ i, i < 5 → ∃ b, _ := fun i hi => Lib.mapM_at hm i i (by simp [hi])
      obtain ⟨_, b0, e0⟩ := g 0 (by decide)
      obtain ⟨_, b1, e1⟩ := g 1 (by decide)
      obtain ⟨_, b2, e2⟩ := g 2 (by decide)
      obtain ⟨_, b3, e3⟩ := g 3 (by decide)
      obtain ⟨_, b4, e4⟩ := g 4 (by decide)
      rw [← Option.some.inj b0] at e0
      rw [← Option.some.inj b1] at e1
      rw [← Option.some.inj b2] at e2
      rw [← Option.some.inj b3] at e3
      rw [← Option.some.inj b4] at e4
      have k0 := esc2 e0
      clear e0
      have k1 := esc2 e1
      clear e1
      have k2 := esc2 e2
      clear e2
      have k3 := esc2 e3
      clear e3
      have k4 := esc2 e4
      clear e4
      simp at k0 k1 k2 k3 k4
      obtain ⟨rfl, rfl⟩ := k0
      obtain ⟨rfl, rfl⟩ := k1
      obtain ⟨rfl, rfl⟩ := k2
      obtain ⟨rfl, rfl⟩ := k3
      obtain ⟨rfl, rfl⟩ := k4
      rfl
    · cases h
end

/-- the post, where only blocks that the call made were frozen -/
theorem post_low {P : Program} {H : Type} {enc : TypeId × Value → H} {f : Func} {s : ChangeSpec} {apart fresh handsOn again : Bool} {W W' : World} {args : Array Value} {v : Value} {ds gs : List (DataW H)} {before pa pv : List MemPlace}
    (hW : DataW.Whole enc P f.params.toList s.vars apart W args.toList ds gs before)
    (hres : ∀ (b : Nat) (sp : Nat → Bool) (hd : Bool), DataW.TrodAll enc P W' b sp hd f.resultTypes.toList (v.resultList f.resultTypes.size) (s.fn H (ds ++ gs)).results [])
    (hargs : ∀ sp : Nat → Bool, (∀ p ∈ before, sp p.block = true) → DataW.TrodAll enc P W' 0 sp true f.params.toList args.toList (s.fn H (ds ++ gs)).args pa)
    (hvars : ∀ sp : Nat → Bool, (∀ p ∈ before, sp p.block = true) → DataW.TrodVars enc P W' sp s.vars (s.fn H (ds ++ gs)).vars pv)
    (hps : before = pa ++ pv) (hb : Below W.heap.size W W')
    (hok : ∀ (j : Nat) (t : TypeId) (r : Value), f.resultTypes[j]? = some t → (v.resultList f.resultTypes.size)[j]? = some r → Value.okWide P W' .any 0 t r) :
    s.post enc P f apart fresh handsOn again W args v W' := by
  have hlt : ∀ p ∈ before, p.block < W.heap.size := fun p hp => by simpa using hW.lt p hp
  have hold : ∀ p ∈ before, (fun b => decide (b < W.heap.size)) p.block = true := fun p hp => decide_eq_true (hlt p hp)
  refine ⟨ds, gs, before, [], pa, pv, hW, hres _ _ _, hargs _ hold, hvars _ hold, World.keptBut_mono (fun p hp => ⟨hp, ?_⟩) (hb.frame (· ∈ before)), fun _ => ?_⟩
  · rw [hps, List.mem_append] at hp
    exact Or.inr hp
  · obtain ⟨_, _, _, _, _, hz, hn⟩ := hW
    refine ⟨hok, _, _, ([] ++ pa) ++ pv, ⟨[] ++ pa, pv, trodAll_append (hargs _ (fun _ _ => rfl)) (hres _ _ _), hvars _ (fun _ _ => rfl), rfl, ?_, ?_⟩, ?_⟩
    · intro b off hp
      have hin : MemPlace.cell b off ∈ before := by rw [hps]; simpa using hp
      rw [hb.frozen (p := ⟨b, off, none⟩) (hlt _ hin)]
      exact hz b off hin
    · intro ha
      have := hn ha
      rw [hps] at this
      simpa using this
    · intro p hp _
      rw [hps]
      simpa using hp

/-- all cells of a world -/
def allF (w : World) : FM := fun b o => w.cell? ⟨b, o, none⟩

/-- what the row's list gives -/
theorem laid_gh {W : World} (h : laidMetH Tryd.prog Rows.entriesPairsRow.laid W) : FLe Gh.gh (allF W) := by
  have h : laidMet Tryd.prog Rows.entriesPairsRow.laid W := h
  obtain ⟨ps, hv, _⟩ := h
  obtain ⟨_, _, _, _, _, q1, _, _, _, _, hv, _⟩ := hv
  obtain ⟨_, _, _, _, _, q2, _, _, _, _, hv, _⟩ := hv
  obtain ⟨_, _, _, _, _, q3, _, _, _, _, hv, _⟩ := hv
  obtain ⟨g, t, cs, fuel, p, q4, hg, ht, hvar, hd, _, _⟩ := hv
  obtain rfl := Option.some.inj (gEsc.symm.trans hg)
  obtain rfl := Option.some.inj (gEscType.symm.trans ht)
  have hcs := esc10 hd
  intro b o x hx
  match b, hx with
  | 0, hx =>
    show W.cell? ⟨0, o, none⟩ = some x
    rw [World.var?_cell gEsc hvar o, ← Array.getElem?_toList, hcs]
    exact hx
  | b + 1, hx => cases hx

/-- a world in which the listed variables hold what their initialisers lay -/
def tab0 : Array Value := #[.int .u8 34, .int .u8 34, .int .u8 92, .int .u8 92, .int .u8 10, .int .u8 110, .int .u8 13, .int .u8 114, .int .u8 9, .int .u8 116]
def tab2 : Array Value := #[.int .u64 1, .int .u64 10, .int .u64 100, .int .u64 1000, .int .u64 10000, .int .u64 100000, .int .u64 1000000, .int .u64 10000000, .int .u64 100000000, .int .u64 1000000000, .int .u64 10000000000, .int .u64 100000000000, .int .u64 1000000000000, .int .u64 10000000000000, .int .u64 100000000000000, .int .u64 1000000000000000, .int .u64 10000000000000000, .int .u64 100000000000000000, .int .u64 1000000000000000000, .int .u64 10000000000000000000]
def tab3 : Array Value := #[.int .u8 0, .int .u8 1, .int .u8 28, .int .u8 2, .int .u8 29, .int .u8 14, .int .u8 24, .int .u8 3, .int .u8 30, .int .u8 22, .int .u8 20, .int .u8 15, .int .u8 25, .int .u8 17, .int .u8 4, .int .u8 8, .int .u8 31, .int .u8 27, .int .u8 13, .int .u8 23, .int .u8 21, .int .u8 19, .int .u8 16, .int .u8 7, .int .u8 26, .int .u8 12, .int .u8 18, .int .u8 6, .int .u8 11, .int .u8 5, .int .u8 10, .int .u8 9]
def tab4 : Array Value := #[.int .u8 0, .int .u8 1, .int .u8 56, .int .u8 2, .int .u8 57, .int .u8 49, .int .u8 28, .int .u8 3, .int .u8 61, .int .u8 58, .int .u8 42, .int .u8 50, .int .u8 38, .int .u8 29, .int .u8 17, .int .u8 4, .int .u8 62, .int .u8 47, .int .u8 59, .int .u8 36, .int .u8 45, .int .u8 43, .int .u8 51, .int .u8 22, .int .u8 53, .int .u8 39, .int .u8 33, .int .u8 30, .int .u8 24, .int .u8 18, .int .u8 12, .int .u8 5, .int .u8 63, .int .u8 55, .int .u8 48, .int .u8 27, .int .u8 60, .int .u8 41, .int .u8 37, .int .u8 16, .int .u8 46, .int .u8 35, .int .u8 44, .int .u8 21, .int .u8 52, .int .u8 32, .int .u8 23, .int .u8 11, .int .u8 54, .int .u8 26, .int .u8 40, .int .u8 15, .int .u8 34, .int .u8 20, .int .u8 31, .int .u8 10, .int .u8 25, .int .u8 14, .int .u8 19, .int .u8 9, .int .u8 13, .int .u8 8, .int .u8 7, .int .u8 6]
def putB (h : Array Obj) (b : Nat) (cs : Array Value) : Array Obj := h.modify b fun
  | .cells _ t frozen => .cells cs t frozen
  | o => o
noncomputable def laidWorld (os : Os) : World :=
  { World.holding Tryd.prog os ⟨#[], #[], []⟩ with heap := putB (putB (putB (putB (World.holding Tryd.prog os ⟨#[], #[], []⟩).heap 0 tab0) 2 tab2) 3 tab3) 4 tab4 }

theorem tU4 : Tryd.prog.underlying 4 = some .bool := by kernel_rfl
theorem tU9 : Tryd.prog.underlying 9 = some .string := by kernel_rfl
theorem tU2 : Tryd.prog.underlying 2 = some (.int .i64) := by kernel_rfl
theorem tC23 : Tryd.prog.cellsOf 23 = 4 := by kernel_rfl
theorem tF23 : ∃ f0 f1 f2 f3 : Field, Tryd.prog.underlying 23 = some (.struct #[f0, f1, f2, f3]) ∧ Deep.oneCellFields Tryd.prog #[f0, f1, f2, f3] = true ∧ f0.type = 9 ∧ f1.type = 9 ∧ f2.type = 4 ∧ f3.type = 2 :=
  ⟨_, _, _, _, Tryd.underlying23, by kernel_rfl, rfl, rfl, rfl, rfl⟩

section
variable {H : Type} {enc : TypeId × Value → H} {w : World} {base : Nat} {sp : Nat → Bool} {held : Bool}
/-- an entry as a datum -/
def entD (x : Ent) : DataW H := .agg [.lit (.string x.k.data.toList), .lit (.string x.v.data.toList), .lit (.bool x.dead), .lit (.int .i64 x.seq)]
def entV (x : Ent) : Value := .agg #[.string x.k, .string x.v, .bool x.dead, .int .i64 x.seq]
theorem open_ent {r : Reach} {b0 : Nat} {v : Value} {d : DataW H} {p : List MemPlace} (hv : Value.okWide Tryd.prog w r b0 23 v) (h : DataW.Trod enc Tryd.prog w base sp held 23 v d p) :
    ∃ x : Ent, v = entV x ∧ d = entD x ∧ p = [] ∧ x.k.size ≤ maxLen ∧ x.v.size ≤ maxLen ∧ (Lit.int .i64 x.seq).wf = true := by
  obtain ⟨f0, f1, f2, f3, hu, ho, t0, t1, t2, t3⟩ := tF23
  obtain ⟨v0, v1, v2, v3, y0, y1, y2, y3, n, rfl, rfl, rfl, h0, h1, h2, h3⟩ := Joins.open_agg4 hu ho tC23 hv h
  rw [t0] at h0; rw [t1] at h1; rw [t2] at h2; rw [t3] at h3
  obtain ⟨s0, e0, rfl, l0⟩ := DataW.trod_string tU9 h0
  obtain ⟨s1, e1, rfl, l1⟩ := DataW.trod_string tU9 h1
  obtain ⟨b2, e2, rfl⟩ := DataW.trod_bool tU4 h2
  obtain ⟨z3, e3, rfl, l3⟩ := DataW.trod_int tU2 h3
  simp at e0 e1 e2 e3
  subst e0; subst e1; subst e2; subst e3
  exact ⟨⟨s0, s1, b2, z3⟩, rfl, rfl, rfl, l0, l1, l3⟩
theorem shut_ent {x : Ent} (h0 : x.k.size ≤ maxLen) (h1 : x.v.size ≤ maxLen) (h2 : (Lit.int .i64 x.seq).wf = true) : DataW.Trod enc Tryd.prog w base sp held 23 (entV x) (entD x) [] := by
  obtain ⟨f0, f1, f2, f3, hu, ho, t0, t1, t2, t3⟩ := tF23
  exact Joins.shut_agg4 (y0 := (.lit (.string x.k.data.toList), [])) (y1 := (.lit (.string x.v.data.toList), [])) (y2 := (.lit (.bool x.dead), [])) (y3 := (.lit (.int .i64 x.seq), [])) hu ho tC23
    ⟨1, by rw [t0]; simp [DataW.trod, tU9, h0]⟩ ⟨1, by rw [t1]; simp [DataW.trod, tU9, h1]⟩ ⟨1, by rw [t2]; simp [DataW.trod, tU4]⟩ ⟨1, by rw [t3]; simp [DataW.trod, tU2, h2]⟩
theorem ent_ri (h : FM) (x : Ent) : RI h (.agg x.c) (entV x) := by
  refine .agg _ [.string x.k, .string x.v, .bool x.dead, .int .i64 x.seq] rfl (fun i d y hd hy => ?_)
  match i, hd, hy with
  | 0, hd, hy => cases hd; cases hy; exact .v _
  | 1, hd, hy => cases hd; cases hy; exact .v _
  | 2, hd, hy => cases hd; cases hy; exact .v _
  | 3, hd, hy => cases hd; cases hy; exact .v _
  | i + 4, hd, hy => cases hd
end
end Bk
