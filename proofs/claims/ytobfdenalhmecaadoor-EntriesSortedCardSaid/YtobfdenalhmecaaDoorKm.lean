/- Each operation does in the model what it does in the abstract machine: comparisons, sums, lengths, copies. -/
import Derived.Test.YtobfdenalhmecaaDoorKl
set_option linter.unusedSimpArgs false
set_option linter.unusedSectionVars false
set_option linter.unusedVariables false
namespace Bk
open Go
variable [Gh]

section
variable {P : Program} {T : Tab} {w0 w : World} {W : Nat → Prop} {h : FM} {m : BM} {n : Nat} {H : Hp} {e : Env} {a : Act}
variable {dst : Option Tmp} {ty : TypeId} {pos : String} {af : Array Edge} {gd : Option (Nat × Bool)} {id : Nat} {K : D → Nat → Hp → Prop} {Q : Exit → Act → World → Prop}


theorem eqL_sound (hT : TabOk P T) (d : Nat) (X Y : List Value) (w : World) : ∀ (gs : List Field) (o : Nat) (xs ys : List D) (b : Bool), eqL T o (gs.map fun g => (g.offset, g.type)) xs ys = some b → (∀ g ∈ gs, (g.name != "_") = true) →
    (∀ (i : Nat) x y, xs[i]? = some x → X[o + i]? = some y → RD h m x y) → (∀ (i : Nat) x y, ys[i]? = some x → Y[o + i]? = some y → RD h m x y) → o + xs.length = X.length → o + ys.length = Y.length →
    (Op.eqFields (d + 1) X.toArray Y.toArray gs).run P w = .ok b w
  | [], o, xs, ys, b, hb, _, _, _, _, _ => by
    cases xs <;> cases ys <;> simp [eqL] at hb
    subst hb; rfl
  | g :: gs, o, xs, ys, b, hb, hn, hx, hy, hlx, hly => by
    simp only [List.map_cons] at hb
    cases xs with
    | nil => simp [eqL] at hb
    | cons x xs =>
      cases ys with
      | nil => simp [eqL] at hb
      | cons y ys =>
        have hgn : g.name ≠ "_" := by have := hn g (by simp); simpa using this
        have hXl : o < X.length := by simp at hlx; omega
        have hYl : o < Y.length := by simp at hly; omega
        have rx := hx 0 x X[o] rfl (by simp [hXl])
        have ry := hy 0 y Y[o] rfl (by simp [hYl])
        have ih := fun b' hb' => eqL_sound hT d X Y w gs (o + 1) xs ys b' hb' (fun g' hg' => hn g' (by simp [hg'])) (fun i x' y' h1 h2 => hx (i + 1) x' y' (by simpa using h1) (by rw [show o + (i + 1) = o + 1 + i from by omega]; exact h2))
          (fun i x' y' h1 h2 => hy (i + 1) x' y' (by simpa using h1) (by rw [show o + (i + 1) = o + 1 + i from by omega]; exact h2)) (by simp at hlx; omega) (by simp at hly; omega)
        have step : ∀ (ti : TI) (a1 b1 : Bool), T.get g.type = some ti → ti.kind.agg = false → g.offset = o → (Op.equalIn (d + 1) g.type X[o] Y[o]).run P w = .ok a1 w → eqL T (o + 1) (gs.map fun g => (g.offset, g.type)) xs ys = some b1 → b = (a1 && b1) →
            (Op.eqFields (d + 1) X.toArray Y.toArray (g :: gs)).run P w = .ok b w := by
          intro ti a1 b1 hti hag hgo he hb1 hbe
          have hpx : ∀ Z : List Value, ∀ hz : o < Z.length, (part g.type Z.toArray g.offset).run P w = .ok Z[o] w := by
            intro Z hz
            simp [part, tab_isAgg hT hti, hag, hgo, hz]
          simp only [Op.eqFields]
          rw [if_pos hgn]
          simp only [Sem.run_bind, hpx X hXl, hpx Y hYl, Result.andThen_ok, he, Sem.run_ite]
          cases a1
          · simp at hbe; subst hbe; simp
          · simp at hbe; subst hbe; simp [ih b hb1]
        cases x <;> try (simp [eqL] at hb; done)
        cases y <;> try (simp [eqL] at hb; done)
        rename_i x y
        have ex := rx.v_inv; have ey := ry.v_inv
        simp only [eqL] at hb
        split at hb
        · rename_i by_ z k hbo hti
          have hbo := Nat.eq_of_beq_eq_true hbo
          split at hb
          · rename_i k1 p k2 q
            split at hb
            · rename_i a1 b1 h1 h2 h3 h4
              have h1 := of_decide_eq_true h1; have h2 := of_decide_eq_true h2
              subst h1; subst h2
              cases hb
              simp only [eqV] at h3; cases h3
              refine step _ _ _ hti rfl hbo.symm ?_ h4 (andB_eq _ _)
              rw [ex, ey, run_equalIn_int w d g.type _ _ p q (tab_int hT hti), eqI_def]
            · cases hb
          · cases hb
        · rename_i by_ z hbo hti
          have hbo := Nat.eq_of_beq_eq_true hbo
          split at hb
          · rename_i p q
            split at hb
            · rename_i a1 b1 h3 h4
              cases hb
              simp only [eqV] at h3; cases h3
              refine step _ _ _ hti rfl hbo.symm ?_ h4 (andB_eq _ _)
              rw [ex, ey, run_equalIn_bool' w d g.type p q (tab_bool hT hti), eqB_eq]
            · cases hb
          · cases hb
        · rename_i by_ z hbo hti
          have hbo := Nat.eq_of_beq_eq_true hbo
          split at hb
          · rename_i p q
            split at hb
            · rename_i a1 b1 h3 h4
              cases hb
              simp only [eqV] at h3; cases h3
              refine step _ _ _ hti rfl hbo.symm ?_ h4 (andB_eq _ _)
              rw [ex, ey, run_equalIn_string w d g.type p q (tab_str hT hti), eqS_def]
            · cases hb
          · cases hb
        · cases hb

theorem run_nil_eq (w : World) (t el : TypeId) (A : Option Addr) (l c : Nat) (ht : P.underlying t = some (.slice el)) : (binOp .eql t (.slice A l c) (.slice none 0 0)).run P w = .ok (.bool A.isNone) w := by
  have h1 : ∀ d : Nat, (Op.equalIn (d + 1) t (.slice A l c) (.slice none 0 0)).run P w = .ok A.isNone w := fun d => by
    cases A <;> simp [Op.equalIn, run_underlying ht]
  simp only [binOp]; simp [Op.equal, Op.maxDepth, h1 9999]
theorem run_nil_ne (w : World) (t el : TypeId) (A : Option Addr) (l c : Nat) (ht : P.underlying t = some (.slice el)) : (binOp .neq t (.slice A l c) (.slice none 0 0)).run P w = .ok (.bool !A.isNone) w := by
  have h1 : ∀ d : Nat, (Op.equalIn (d + 1) t (.slice A l c) (.slice none 0 0)).run P w = .ok A.isNone w := fun d => by
    cases A <;> simp [Op.equalIn, run_underlying ht]
  simp only [binOp]; simp [Op.equal, Op.maxDepth, h1 9999]
theorem run_ptr_eq (w : World) (t el : TypeId) (A : Option Addr) (ht : P.underlying t = some (.pointer el)) : (binOp .eql t (.pointer A) (.pointer none)).run P w = .ok (.bool A.isNone) w := by
  have h1 : ∀ d : Nat, (Op.equalIn (d + 1) t (.pointer A) (.pointer none)).run P w = .ok A.isNone w := fun d => by
    cases A <;> simp [Op.equalIn, run_underlying ht]
  simp only [binOp]; simp [Op.equal, Op.maxDepth, h1 9999]
theorem run_ptr_ne (w : World) (t el : TypeId) (A : Option Addr) (ht : P.underlying t = some (.pointer el)) : (binOp .neq t (.pointer A) (.pointer none)).run P w = .ok (.bool !A.isNone) w := by
  have h1 : ∀ d : Nat, (Op.equalIn (d + 1) t (.pointer A) (.pointer none)).run P w = .ok A.isNone w := fun d => by
    cases A <;> simp [Op.equalIn, run_underlying ht]
  simp only [binOp]; simp [Op.equal, Op.maxDepth, h1 9999]

theorem run_op_bin {op : BinOp} {t yt : TypeId} {x y : Operand} {v : Value} (hg : (eqGuard op t x y (a.eval x) (a.eval y)).run P w = .ok () w) (hb : (binOp op t (a.eval x) (a.eval y)).run P w = .ok v w) :
    (execOp a.eval ⟨dst, .binOp op t x y yt, ty, pos, af, gd⟩).run P w = .ok (.value v) w := by
  simp [execOp, hg, hb]

theorem binA_sound (hT : TabOk P T) {op : BinOp} {t yt : TypeId} {x y : Operand} {KK : D → Prop} (hk : binA T op t (ev e x) (ev e y) KK) (re : ER h m e a) (w : World) :
    ∃ v d, (execOp a.eval ⟨dst, .binOp op t x y yt, ty, pos, af, gd⟩).run P w = .ok (.value v) w ∧ KK d ∧ RD h m d v := by
  have rx := re.ev x
  have ry := re.ev y
  unfold binA at hk
  simp only [splitB_eq] at hk
  split at hk
  · rename_i k p l q hx hy
    rw [hx] at rx; rw [hy] at ry
    have ex := rx.v_inv; have ey := ry.v_inv
    split at hk
    · exact hk.elim
    rename_i hkl
    have hkl := of_decide_eq_true hkl
    subst hkl
    have hg : (eqGuard op t x y (a.eval x) (a.eval y)).run P w = .ok () w := by rw [ex]; rw [eqGuard_at_int]; rfl
    split at hk
    · exact ⟨_, _, run_op_bin hg (by rw [ex, ey, binOp_add]; rfl), hk, .imm _ _ (by rw [wr_eq]; exact .v _)⟩
    · exact ⟨_, _, run_op_bin hg (by rw [ex, ey, binOp_sub]; rfl), hk, .imm _ _ (by rw [wr_eq]; exact .v _)⟩
    · exact ⟨_, _, run_op_bin hg (by rw [ex, ey, binOp_mul]; rfl), hk, .imm _ _ (by rw [wr_eq]; exact .v _)⟩
    · exact ⟨_, _, run_op_bin hg (by rw [ex, ey, binOp_eql]; rfl), hk, .imm _ _ (by rw [eqI_def]; exact .v _)⟩
    · exact ⟨_, _, run_op_bin hg (by rw [ex, ey, binOp_neq]; rfl), hk, .imm _ _ (by rw [notB_eq, eqI_def]; exact .v _)⟩
    · exact ⟨_, _, run_op_bin hg (by rw [ex, ey, binOp_lss]; rfl), hk, .imm _ _ (by rw [ltI_eq]; exact .v _)⟩
    · exact ⟨_, _, run_op_bin hg (by rw [ex, ey, binOp_leq]; rfl), hk, .imm _ _ (by rw [leI_eq]; exact .v _)⟩
    · exact ⟨_, _, run_op_bin hg (by rw [ex, ey, binOp_gtr]; rfl), hk, .imm _ _ (by rw [ltI_eq]; exact .v _)⟩
    · exact ⟨_, _, run_op_bin hg (by rw [ex, ey, binOp_geq]; rfl), hk, .imm _ _ (by rw [leI_eq]; exact .v _)⟩
    · obtain ⟨h0, h1, hK⟩ := hk
      refine ⟨_, _, run_op_bin (v := .int k (wr k (p / q))) hg ?_, hK, .imm _ _ (.v _)⟩
      rw [ex, ey, binOp_quo, wr_eq]
      simp only [Op.intDiv]
      rw [if_neg (by omega), Int.tdiv_eq_ediv_of_nonneg h0]; rfl
    · obtain ⟨h0, h1, hK⟩ := hk
      refine ⟨_, _, run_op_bin (v := .int k (p % q)) hg ?_, hK, .imm _ _ (.v _)⟩
      rw [ex, ey, binOp_rem]
      simp only [Op.intDiv]
      rw [if_neg (by omega), Int.tmod_eq_emod_of_nonneg h0]; rfl
    · obtain ⟨h0, h1, hK⟩ := hk
      refine ⟨_, _, run_op_bin (v := .int k (p / 2 ^ q.toNat)) (by rw [eqGuard_shr]; rfl) ?_, hK, .imm _ _ (.v _)⟩
      rw [ex, ey, binOp_shr, shift_shr k k p q h0 h1]; rfl
    · exact hk.elim
  · rename_i p q hx hy
    rw [hx] at rx; rw [hy] at ry
    have ex := rx.v_inv; have ey := ry.v_inv
    have hg : (eqGuard op t x y (a.eval x) (a.eval y)).run P w = .ok () w := by rw [ex]; rw [eqGuard_at_string]; rfl
    split at hk
    · obtain ⟨hs, hK⟩ := hk
      refine ⟨_, _, run_op_bin (v := .string (catS p q)) hg ?_, hK, .imm _ _ (.v _)⟩
      rw [ex, ey, binOp_string_add, catS_eq]
      simp only [Op.stringOp]
      rw [if_neg (by rw [IntKind.max_i64]; omega)]; rfl
    · exact ⟨_, _, run_op_bin hg (by rw [ex, ey, binOp_string_eql]; rfl), hk, .imm _ _ (by rw [eqS_def]; exact .v _)⟩
    · exact ⟨_, _, run_op_bin hg (by rw [ex, ey, binOp_string_neq]; rfl), hk, .imm _ _ (by rw [notB_eq, eqS_def]; exact .v _)⟩
    · exact ⟨_, _, run_op_bin hg (by rw [ex, ey, binOp_string_lss]; rfl), hk, .imm _ _ (by rw [ltS_eq]; exact .v _)⟩
    · exact ⟨_, _, run_op_bin hg (by rw [ex, ey, binOp_string_leq]; rfl), hk, .imm _ _ (by rw [orB_eq, ltS_eq, eqS_def]; exact .v _)⟩
    · exact ⟨_, _, run_op_bin hg (by rw [ex, ey, binOp_string_gtr]; rfl), hk, .imm _ _ (by rw [notB_eq, orB_eq, ltS_eq, eqS_def]; exact .v _)⟩
    · exact ⟨_, _, run_op_bin hg (by rw [ex, ey, binOp_string_geq]; rfl), hk, .imm _ _ (by rw [notB_eq, ltS_eq]; exact .v _)⟩
    · exact hk.elim
  · rename_i p q hx hy
    rw [hx] at rx; rw [hy] at ry
    have ex := rx.v_inv; have ey := ry.v_inv
    have hg : (eqGuard op t x y (a.eval x) (a.eval y)).run P w = .ok () w := by rw [ex]; rw [eqGuard_at_bool]; rfl
    split at hk
    rotate_left
    · exact hk.elim
    rename_i hti
    have ht := tab_bool hT hti
    have h1 : (Op.equal t (.bool p) (.bool q)).run P w = .ok (p == q) w := run_equalIn_bool' w 9999 t p q ht
    split at hk
    · exact ⟨_, _, run_op_bin hg (by rw [ex, ey]; simp only [binOp]; simp [h1]; rfl), hk, .imm _ _ (by rw [eqB_eq]; exact .v _)⟩
    · exact ⟨_, _, run_op_bin hg (by rw [ex, ey]; simp only [binOp]; simp [h1]; rfl), hk, .imm _ _ (by rw [notB_eq, eqB_eq]; exact .v _)⟩
    · exact hk.elim
  · rename_i xs ys hx hy
    rw [hx] at rx; rw [hy] at ry
    obtain ⟨X, ex, hxl, hxr⟩ := rx.agg_inv
    obtain ⟨Y, ey, hyl, hyr⟩ := ry.agg_inv
    split at hk
    rotate_left
    · exact hk.elim
    rename_i fs hti
    split at hk
    rotate_left
    · exact hk.elim
    rename_i b hb
    obtain ⟨_, _, _, _, _, _, _, hkt, hst, hgt, _⟩ := tab_info hT hti
    obtain ⟨gs, ht, hgs, hgn⟩ := kind_struct hkt
    have hfo : P.fieldsOf t = gs := by unfold Program.fieldsOf; rw [ht]
    rw [← hgs] at hb
    have hrun := eqL_sound (h := h) (m := m) hT 9998 X Y w gs.toList 0 xs ys b hb hgn (by simpa using hxr) (by simpa using hyr) (by simpa using hxl) (by simpa using hyl)
    have h1 := run_equalIn_struct (P := P) w 9999 t X.toArray Y.toArray (by rw [hfo]; exact ht) hst
    rw [hfo, hrun] at h1
    have hg : (eqGuard op t x y (a.eval x) (a.eval y)).run P w = .ok () w := by rw [ex, ey]; exact run_eqGuard_agg w op t x y _ _ hgt
    split at hk
    · exact ⟨_, _, run_op_bin hg (by rw [ex, ey, run_eql_struct, h1]; rfl), hk, .imm _ _ (.v _)⟩
    · exact ⟨_, _, run_op_bin hg (by rw [ex, ey, run_neq_struct, h1]; rfl), hk, .imm _ _ (by rw [notB_eq]; exact .v _)⟩
    · exact hk.elim
  · rename_i k es hx hy
    rw [hx] at rx; rw [hy] at ry
    have ey := ry.v_inv
    split at hk
    rotate_left
    · exact hk.elim
    rename_i el hti
    have ht := tab_slice hT hti
    have : ∃ A l c, a.eval x = .slice A l c ∧ (A.isNone = true → es = []) := by
      rcases rx.sl_inv with ⟨rfl, A, c, hv⟩ | ⟨b, o, c, u, hv, _⟩
      · exact ⟨A, 0, c, hv, fun _ => rfl⟩
      · exact ⟨_, _, _, hv, by simp⟩
    obtain ⟨A, l, c, ex, hA⟩ := this
    have hg : (eqGuard op t x y (a.eval x) (a.eval y)).run P w = .ok () w := by rw [ex]; rw [eqGuard_at_slice]; rfl
    split at hk
    · exact ⟨_, _, run_op_bin hg (by rw [ex, ey]; exact run_nil_eq w t el A l c ht), hk _ hA, .imm _ _ (.v _)⟩
    · exact ⟨_, _, run_op_bin hg (by rw [ex, ey]; exact run_nil_ne w t el A l c ht), hk _ (by simpa using hA), .imm _ _ (.v _)⟩
    · exact hk.elim
  · rename_i id' k lo len hx hy
    rw [hx] at rx; rw [hy] at ry
    have ey := ry.v_inv
    split at hk
    rotate_left
    · exact hk.elim
    rename_i el hti
    have ht := tab_slice hT hti
    have : ∃ A l c, a.eval x = .slice A l c ∧ (A.isNone = true → len = 0) := by
      rcases rx.msl_inv with ⟨b, N, c, _, _, _, hv⟩ | ⟨h0, A, hv⟩
      · exact ⟨_, _, _, hv, by simp⟩
      · exact ⟨_, _, _, hv, fun _ => h0⟩
    obtain ⟨A, l, c, ex, hA⟩ := this
    have hg : (eqGuard op t x y (a.eval x) (a.eval y)).run P w = .ok () w := by rw [ex]; rw [eqGuard_at_slice]; rfl
    split at hk
    · exact ⟨_, _, run_op_bin hg (by rw [ex, ey]; exact run_nil_eq w t el A l c ht), hk _ hA, .imm _ _ (.v _)⟩
    · exact ⟨_, _, run_op_bin hg (by rw [ex, ey]; exact run_nil_ne w t el A l c ht), hk _ (by simpa using hA), .imm _ _ (.v _)⟩
    · exact hk.elim
  · rename_i hx hy
    rw [hx] at rx; rw [hy] at ry
    have ex := rx.v_inv; have ey := ry.v_inv
    split at hk
    rotate_left
    · exact hk.elim
    rename_i el hti
    have ht := tab_slice hT hti
    have hg : (eqGuard op t x y (a.eval x) (a.eval y)).run P w = .ok () w := by rw [ex]; rw [eqGuard_at_slice]; rfl
    split at hk
    · exact ⟨_, _, run_op_bin hg (by rw [ex, ey]; exact run_nil_eq w t el none 0 0 ht), hk, .imm _ _ (.v _)⟩
    · exact ⟨_, _, run_op_bin hg (by rw [ex, ey]; exact run_nil_ne w t el none 0 0 ht), hk, .imm _ _ (.v _)⟩
    · exact hk.elim
  · rename_i id' j hx hy
    rw [hx] at rx; rw [hy] at ry
    have ey := ry.v_inv
    split at hk
    rotate_left
    · exact hk.elim
    rename_i el hti
    have ht := tab_ptr hT hti
    obtain ⟨b, N, hm, ex⟩ := rx.ptr_inv
    have hg : (eqGuard op t x y (a.eval x) (a.eval y)).run P w = .ok () w := by rw [ex]; rw [eqGuard_at_pointer]; rfl
    split at hk
    · exact ⟨_, _, run_op_bin hg (by rw [ex, ey]; exact run_ptr_eq w t el _ ht), hk, .imm _ _ (.v _)⟩
    · exact ⟨_, _, run_op_bin hg (by rw [ex, ey]; exact run_ptr_ne w t el _ ht), hk, .imm _ _ (.v _)⟩
    · exact hk.elim
  · rename_i hx hy
    rw [hx] at rx; rw [hy] at ry
    have ex := rx.v_inv; have ey := ry.v_inv
    split at hk
    rotate_left
    · exact hk.elim
    rename_i el hti
    have ht := tab_ptr hT hti
    have hg : (eqGuard op t x y (a.eval x) (a.eval y)).run P w = .ok () w := by rw [ex]; rw [eqGuard_at_pointer]; rfl
    split at hk
    · exact ⟨_, _, run_op_bin hg (by rw [ex, ey]; exact run_ptr_eq w t el none ht), hk, .imm _ _ (.v _)⟩
    · exact ⟨_, _, run_op_bin hg (by rw [ex, ey]; exact run_ptr_ne w t el none ht), hk, .imm _ _ (.v _)⟩
    · exact hk.elim
  · exact hk.elim
end
end Bk
