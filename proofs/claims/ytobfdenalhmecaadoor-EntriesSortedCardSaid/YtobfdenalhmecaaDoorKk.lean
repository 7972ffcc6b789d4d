/- Each operation does in the model what it does in the abstract machine: structs, addresses, slices of slices. -/
import Derived.Test.YtobfdenalhmecaaDoorKj
set_option linter.unusedSimpArgs false
set_option linter.unusedSectionVars false
set_option linter.unusedVariables false
namespace Bk
open Go
variable [Gh]

section
variable {P : Program} {T : Tab} {w0 w : World} {W : Nat → Prop} {h : FM} {m : BM} {n : Nat} {H : Hp} {e : Env} {a : Act}
variable {dst : Option Tmp} {ty : TypeId} {pos : String} {af : Array Edge} {gd : Option (Nat × Bool)} {id : Nat} {K : D → Nat → Hp → Prop} {Q : Exit → Act → World → Prop}

theorem places_run (hT : TabOk P T) (w : World) : ∀ (gs : List Field) (ps : List (Nat × Nat)), placesA T (gs.map fun g => (g.offset, g.type)) = some ps →
    (gs.mapM fun f => (do pure (f.offset, ← Go.sizeOf f.type) : Sem (Nat × Nat))).run P w = .ok ps w
  | [], ps, hp => by simp [placesA] at hp; subst hp; rfl
  | g :: gs, ps, hp => by
    simp only [List.map_cons, placesA] at hp
    split at hp
    · rename_i i l hi hl
      cases hp
      rw [List.mapM_cons]
      simp only [Sem.run_bind, tab_sizeOf hT hi, Result.andThen_ok, Sem.run_pure, places_run hT w gs l hl]
    · cases hp

theorem fill_rel (ps : List (Nat × Nat)) (re : ER h m e a) : ∀ (l : List (Nat × Operand)) (l' : List (Nat × D × Nat)) (z ds : List D) (cells : Array Value), partsA ps e l = some l' → fillL z l' = some ds →
    z.length = cells.size → (∀ (i : Nat) d x, z[i]? = some d → cells.toList[i]? = some x → RD h m d x) →
    ∃ cells', Instr.fill (ps.toArray[·]?) cells (l.map fun p => (p.1, a.eval p.2)) = some cells' ∧ ds.length = cells'.size ∧ ∀ (i : Nat) d x, ds[i]? = some d → cells'.toList[i]? = some x → RD h m d x
  | [], l', z, ds, cells, hp, hf, hl, hr => by
    simp only [partsA] at hp; cases hp
    simp only [fillL] at hf; cases hf
    exact ⟨cells, rfl, hl, hr⟩
  | (i, x) :: l, l', z, ds, cells, hp, hf, hl, hr => by
    simp only [partsA] at hp
    split at hp
    · rename_i o k l1 hi hl1
      cases hp
      simp only [fillL] at hf
      split at hf
      · rename_i h1 h2 h3
        have h1 := lenL_iff h1
        have h3 := Nat.le_of_ble_eq_true h3
        obtain ⟨hcl, hcr, hc1⟩ := cells_rel (re.ev x) h2
        have hsz : (a.eval x).cells.size = k := by rw [← Array.length_toList, hcl, h1]
        simp only [List.map_cons, Instr.fill]
        rw [show ps.toArray[i]? = some (o, k) from by simpa using hi]
        simp only []
        rw [if_neg (by simp [hsz]; omega), fill_step cells (a.eval x) o (by omega)]
        have hlen : (cells.toList.take o ++ (a.eval x).cells.toList ++ cells.toList.drop (o + (a.eval x).cells.toList.length)).length = cells.size := by
          rw [seg_len _ _ _ (by simp [hsz]; omega)]; simp
        have hzl : (storeL z o (cellsOf (ev e x))).length = z.length := seg_len _ _ _ (by omega)
        refine fill_rel ps re l l1 _ ds _ hl1 hf (by rw [hzl, hl]; simp only [List.size_toArray, hlen]) ?_
        intro j d y hd hy
        simp only [] at hy
        rw [seg_get _ _ _ (by simp [hsz]; omega)] at hy
        unfold storeL at hd
        rw [seg_get _ _ _ (by omega)] at hd
        by_cases e1 : j < o
        · rw [if_pos e1] at hd hy; exact hr j d y hd hy
        · rw [if_neg e1] at hd hy
          by_cases e2 : j < o + (cellsOf (ev e x)).length
          · rw [if_pos e2] at hd; rw [if_pos (by omega)] at hy; exact hcr _ d y hd hy
          · rw [if_neg e2] at hd; rw [if_neg (by omega)] at hy; exact hr j d y hd hy
      · cases hf
    · cases hp

theorem build_goal (hT : TabOk P T) {t : Nat} {parts : Array (Nat × Operand)} (hk : opA T (CallA P) (.build t parts) e n H id K) (r : WR w0 W h m n H w) (re : ER h m e a) :
    OpGoal P ⟨dst, .build t parts, ty, pos, af, gd⟩ a w w0 W h m n id K Q := by
  simp only [opA] at hk
  split at hk
  rotate_left
  · exact hk.elim
  rename_i i hi
  split at hk
  rotate_left
  · exact hk.elim
  rename_i fs hkd
  split at hk
  rotate_left
  · exact hk.elim
  rename_i ps hps
  split at hk
  rotate_left
  · exact hk.elim
  rename_i l hl
  split at hk
  rotate_left
  · exact hk.elim
  rename_i ds hds
  obtain ⟨f, z, hf, hfs, hfb, hfz, hzz, hkt, _, _, hzk⟩ := tab_info hT hi
  rw [hkd] at hkt
  obtain ⟨gs, ht, hgs, _⟩ := kind_struct hkt
  rw [← hgs] at hps
  have hplaces := places_run hT w gs.toList ps hps
  have hz0 : ∀ (j : Nat) d x, (zerosA i)[j]? = some d → z.cells.toList[j]? = some x → RD h m d x := by
    intro j d x hd hx
    rw [hzz] at hx
    rw [zeros_get i j d x hd hx]; exact .imm _ _ (.v x)
  obtain ⟨cells', hfill, hcl, hcr⟩ := fill_rel ps re parts.toList l (zerosA i) ds z.cells hl hds (by rw [← Array.length_toList, hzz]; simp [zerosA]) hz0
  have hag : RD h m (.agg ds) (.agg cells') := by
    have := RD.agg (h := h) (m := m) ds cells'.toList (by simpa using hcl) hcr
    simpa using this
  refine goal_of_pure ?_ r hag hk
  simp only [execOp, Instr.build, Sem.run_bind, zeroValue, tab_typeInfo hf, hfz, Sem.run_pure, Result.andThen_ok, run_underlying ht]
  rw [Array.mapM_eq_mapM_toList]
  simp only [Sem.run_map, hplaces, Result.andThen_ok, Array.toList_map, hfill]
  simp

theorem field_of (hT : TabOk P T) {t f o : Nat} {i : TI} (hf : fieldOf T t f = some (o, i)) :
    ∃ gs g, P.underlying t = some (.struct gs) ∧ gs[f]? = some g ∧ g.offset = o ∧ T.get g.type = some i := by
  unfold fieldOf at hf
  split at hf
  · rename_i fs hti
    split at hf
    · rename_i o' ft hfs
      split at hf
      · rename_i i' hfi
        cases hf
        obtain ⟨_, _, _, _, _, _, _, hkt, _⟩ := tab_info hT hti
        obtain ⟨gs, ht, hgs, _⟩ := kind_struct hkt
        rw [← hgs, List.getElem?_map] at hfs
        cases hg : gs.toList[f]? with
        | none => rw [hg] at hfs; simp at hfs
        | some g =>
          rw [hg] at hfs; simp at hfs
          exact ⟨gs, g, ht, by simpa using hg, hfs.1, by rw [hfs.2]; exact hfi⟩
      · cases hf
    · cases hf
  · cases hf

theorem run_fieldAt' (hT : TabOk P T) {t f o : Nat} {i : TI} (hf : fieldOf T t f = some (o, i)) (h1 : Nat.ble 1 i.sz = true) (b j : Nat) (w : World) :
    (Instr.fieldAt t (.pointer (some ⟨b, j, none⟩)) f).run P w = .ok (.pointer (some ⟨b, j + o, none⟩)) w := by
  obtain ⟨gs, g, ht, hg, ho, hi⟩ := field_of hT hf
  have h1 := Nat.le_of_ble_eq_true h1
  simp [Instr.fieldAt, run_underlying ht, hg, Instr.sureAddr, fieldPlace, tab_sizeOf hT hi, show i.sz ≠ 0 from by omega, Addr.add_lit, ho]

theorem fieldAddr_goal (hT : TabOk P T) {t f : Nat} {x : Operand} (hk : opA T (CallA P) (.fieldAddr t x f) e n H id K) (r : WR w0 W h m n H w) (re : ER h m e a) :
    OpGoal P ⟨dst, .fieldAddr t x f, ty, pos, af, gd⟩ a w w0 W h m n id K Q := by
  simp only [opA] at hk
  have rx := re.ev x
  split at hk
  rotate_left
  · exact hk.elim
  rename_i o i hfo
  split at hk
  rotate_left
  · exact hk.elim
  rename_i h1
  split at hk
  · rename_i c j hx
    rw [hx] at rx
    obtain ⟨b, q, u, hv, hu, hr⟩ := rx.fp_inv
    refine goal_of_pure (v := .pointer (some ⟨b, q + j + o, none⟩)) (by simp only [execOp, hv, Sem.run_bind, run_fieldAt' hT hfo h1, Result.andThen_ok, Sem.run_pure]) r (.imm _ _ (.fp c (j + o) b q _ u (by omega) hu hr)) hk
  · rename_i id' j hx
    rw [hx] at rx
    obtain ⟨b, N, hm, hv⟩ := rx.ptr_inv
    exact goal_of_pure (v := .pointer (some ⟨b, j + o, none⟩)) (by simp only [execOp, hv, Sem.run_bind, run_fieldAt' hT hfo h1, Result.andThen_ok, Sem.run_pure]) r (.ptr _ _ b N hm) hk
  · rename_i id' k y j hx
    rw [hx] at rx
    obtain ⟨b, N, hm, hv⟩ := rx.eptr_inv
    exact goal_of_pure (v := .pointer (some ⟨b, y * k + j + o, none⟩)) (by simp only [execOp, hv, Sem.run_bind, run_fieldAt' hT hfo h1, Result.andThen_ok, Sem.run_pure]) r (.eptr _ _ _ _ b N _ hm (by omega)) hk
  · exact hk.elim

/-- the cells of a value of a struct or an array -/
theorem RD.agg_inv {ds : List D} {v : Value} (r : RD h m (.agg ds) v) : ∃ xs : List Value, v = .agg xs.toArray ∧ ds.length = xs.length ∧ ∀ (i : Nat) x y, ds[i]? = some x → xs[i]? = some y → RD h m x y := by
  cases r with
  | imm _ _ r => cases r with
    | agg _ xs hl hr => exact ⟨xs, rfl, hl, fun i x y hx hy => .imm _ _ (hr i x y hx hy)⟩
  | agg _ xs hl hr => exact ⟨xs, rfl, hl, hr⟩
theorem RD.tuple_inv {ds : List D} {v : Value} (r : RD h m (.tuple ds) v) : ∃ xs : List Value, v = .tuple xs.toArray ∧ ds.length = xs.length ∧ ∀ (i : Nat) x y, ds[i]? = some x → xs[i]? = some y → RD h m x y := by
  cases r with
  | imm _ _ r => cases r with
    | tuple _ xs hl hr => exact ⟨xs, rfl, hl, fun i x y hx hy => .imm _ _ (hr i x y hx hy)⟩
  | tuple _ xs hl hr => exact ⟨xs, rfl, hl, hr⟩

theorem part_sound (hT : TabOk P T) {t : Nat} {i : TI} (hi : T.get t = some i) {ds : List D} {o : Nat} {K : D → Prop} (hk : packA i ds o K) {xs : List Value} (hl : ds.length = xs.length)
    (hr : ∀ (i : Nat) x y, ds[i]? = some x → xs[i]? = some y → RD h m x y) : ∃ d x, (part t xs.toArray o).run P w = .ok x w ∧ K d ∧ RD h m d x := by
  unfold packA at hk
  have hagg := tab_isAgg hT hi w
  split at hk
  · rename_i ha
    rw [ha] at hagg
    split at hk
    · rename_i h1
      have h1 := lenL_iff h1
      refine ⟨_, .agg (((xs.drop o).take i.sz).toArray), ?_, hk, .agg _ _ (by simp [hl]) ?_⟩
      · simp only [part, Sem.run_bind, hagg, Result.andThen_ok, if_true, tab_sizeOf hT hi, Sem.run_pure]
        congr 2
        apply Array.ext'
        simp [List.take_drop]
      · intro j x y hx hy
        rw [List.getElem?_take] at hx hy
        split at hx
        · rename_i hj
          rw [if_pos hj] at hy
          rw [List.getElem?_drop] at hx hy
          exact hr _ x y hx hy
        · cases hx
    · exact hk.elim
  · rename_i ha
    rw [ha] at hagg
    split at hk
    · rename_i d rr hd
      have hj := drop_cons hd
      have hjl : o < xs.length := by rw [← hl]; exact get_lt hj
      refine ⟨d, xs[o], ?_, hk, hr o d _ hj (List.getElem?_eq_getElem hjl)⟩
      simp [part, hagg, hjl]
    · exact hk.elim

theorem field_goal (hT : TabOk P T) {t f : Nat} {x : Operand} (hk : opA T (CallA P) (.field t x f) e n H id K) (r : WR w0 W h m n H w) (re : ER h m e a) :
    OpGoal P ⟨dst, .field t x f, ty, pos, af, gd⟩ a w w0 W h m n id K Q := by
  simp only [opA] at hk
  have rx := re.ev x
  split at hk
  rotate_left
  · exact hk.elim
  rename_i o i hfo
  split at hk
  rotate_left
  · exact hk.elim
  rename_i ds hx
  rw [hx] at rx
  obtain ⟨gs, g, ht, hg, ho, hi⟩ := field_of hT hfo
  obtain ⟨xs, hv, hl, hr⟩ := rx.agg_inv
  obtain ⟨d, y, hrun, hK, hd⟩ := part_sound (w := w) hT hi hk hl hr
  refine goal_of_pure (v := y) ?_ r hd hK
  simp only [execOp, hv, Sem.run_bind, Instr.field, run_underlying ht, Result.andThen_ok, hg, asAgg, Sem.run_pure, ho, hrun]
end
end Bk
