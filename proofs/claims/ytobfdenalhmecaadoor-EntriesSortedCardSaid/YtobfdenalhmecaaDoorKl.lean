/- Each operation does in the model what it does in the abstract machine: indexes, slices, reckoning, lengths. -/
import Derived.Test.YtobfdenalhmecaaDoorKk
set_option linter.unusedSimpArgs false
set_option linter.unusedSectionVars false
set_option linter.unusedVariables false
namespace Bk
open Go
variable [Gh]

section
variable {P : Program} {T : Tab} {w0 w : World} {W : Nat → Prop} {h : FM} {m : BM} {n : Nat} {H : Hp} {e : Env} {a : Act}
variable {dst : Option Tmp} {ty : TypeId} {pos : String} {af : Array Edge} {gd : Option (Nat × Bool)} {id : Nat} {K : D → Nat → Hp → Prop} {Q : Exit → Act → World → Prop}

theorem tab_slice (hT : TabOk P T) {t sz by_ el : Nat} {z : List Value} (hi : T.get t = some ⟨sz, by_, z, .slice el⟩) : P.underlying t = some (.slice el) := by
  obtain ⟨_, _, _, _, _, _, _, hkt, _⟩ := tab_info hT hi
  exact kind_slice hkt
theorem tab_array (hT : TabOk P T) {t sz by_ len el : Nat} {z : List Value} (hi : T.get t = some ⟨sz, by_, z, .array len el⟩) : P.underlying t = some (.array len el) := by
  obtain ⟨_, _, _, _, _, _, _, hkt, _⟩ := tab_info hT hi
  exact kind_array hkt
theorem tab_str (hT : TabOk P T) {t sz by_ : Nat} {z : List Value} (hi : T.get t = some ⟨sz, by_, z, .str⟩) : P.underlying t = some .string := by
  obtain ⟨_, _, _, _, _, _, _, hkt, _⟩ := tab_info hT hi
  exact kind_str hkt
theorem tab_bool (hT : TabOk P T) {t sz by_ : Nat} {z : List Value} (hi : T.get t = some ⟨sz, by_, z, .bool⟩) : P.underlying t = some .bool := by
  obtain ⟨_, _, _, _, _, _, _, hkt, _⟩ := tab_info hT hi
  exact kind_bool hkt
theorem tab_int (hT : TabOk P T) {t sz by_ : Nat} {z : List Value} {k : IntKind} (hi : T.get t = some ⟨sz, by_, z, .int k⟩) : P.underlying t = some (.int k) := by
  obtain ⟨_, _, _, _, _, _, _, hkt, _⟩ := tab_info hT hi
  exact kind_int hkt
theorem tab_ptr (hT : TabOk P T) {t sz by_ el : Nat} {z : List Value} (hi : T.get t = some ⟨sz, by_, z, .ptr el⟩) : P.underlying t = some (.pointer el) := by
  obtain ⟨_, _, _, _, _, _, _, hkt, _⟩ := tab_info hT hi
  exact kind_ptr hkt

theorem run_indexAt_sl (hT : TabOk P T) {t sz by_ el : Nat} {z : List Value} {j : TI} (hi : T.get t = some ⟨sz, by_, z, .slice el⟩) (hj : T.get el = some j) (ad : Addr) (len cap : Nat) (k : IntKind) (y : Nat) (hy : y < len) (w : World) :
    (Instr.indexAt t (.slice (some ad) len cap) (.int k (y : Int))).run P w = .ok (.pointer (some (ad.add (y * j.sz)))) w := by
  have ht := tab_slice hT hi
  simp [Instr.indexAt, run_underlying ht, asIntOf, tab_sizeOf hT hj, hy]

theorem indexAddr_goal (hT : TabOk P T) {t : Nat} {x i : Operand} (hk : opA T (CallA P) (.indexAddr t x i) e n H id K) (r : WR w0 W h m n H w) (re : ER h m e a) :
    OpGoal P ⟨dst, .indexAddr t x i, ty, pos, af, gd⟩ a w w0 W h m n id K Q := by
  simp only [opA] at hk
  have rx := re.ev x
  have ri := re.ev i
  split at hk
  · rename_i el hti
    split at hk
    rotate_left
    · exact hk.elim
    rename_i j hj
    split at hk
    · rename_i k es kk av hx hi'
      rw [hx] at rx; rw [hi'] at ri
      have hiv := ri.v_inv
      obtain ⟨y, c, rfl, hc, hkj, hK⟩ := hk
      have hyl := get_lt hc
      subst hkj
      rcases rx.sl_inv with ⟨rfl, _⟩ | ⟨b, o, cp, u, hv, hcp, hkk, hu, hr⟩
      · simp at hyl
      · have hcl : c.length = j.sz := hkk c (List.mem_of_getElem? hc)
        have hmul : (y + 1) * j.sz ≤ es.length * j.sz := Nat.mul_le_mul_right _ hyl
        rw [Nat.add_mul] at hmul
        refine goal_of_pure (v := .pointer (some ⟨b, o + y * j.sz, none⟩)) ?_ r (.imm _ _ (.fp c 0 b (o + y * j.sz) _ (fun q => u (y * j.sz + q)) (by omega) (fun q hq => ?_) (fun q d hd => ?_))) hK
        · simp only [execOp, hv, hiv, Sem.run_bind, run_indexAt_sl hT hti hj _ _ _ _ y hyl, Result.andThen_ok, Sem.run_pure, Addr.add_lit]
        · rw [Nat.add_assoc]; exact hu _ (by omega)
        · exact hr _ d (by rw [flat_get j.sz es hkk y q c hc (by have := get_lt hd; omega)]; exact hd)
    · rename_i id' k lo len kk av hx hi'
      rw [hx] at rx; rw [hi'] at ri
      have hiv := ri.v_inv
      obtain ⟨y, rfl, hy, hkj, hK⟩ := hk
      subst hkj
      rcases rx.msl_inv with ⟨b, N, c, hm, hc, hN, hv⟩ | ⟨h0, _⟩
      · refine goal_of_pure (v := .pointer (some ⟨b, lo * j.sz + y * j.sz, none⟩)) ?_ r (.eptr _ _ _ _ b N _ hm (by rw [Nat.add_mul]; omega)) hK
        simp only [execOp, hv, hiv, Sem.run_bind, run_indexAt_sl hT hti hj _ _ _ _ y hy, Result.andThen_ok, Sem.run_pure, Addr.add_lit]
      · omega
    · exact hk.elim
  · rename_i len el hti
    split at hk
    rotate_left
    · exact hk.elim
    rename_i j hj
    split at hk
    rotate_left
    · exact hk.elim
    rename_i id' o hx
    rw [hx] at rx
    obtain ⟨kk, y, hiv, hy, hK⟩ := natOf_v hk ri
    obtain ⟨b, N, hm, hv⟩ := rx.ptr_inv
    have ht := tab_array hT hti
    refine goal_of_pure (v := .pointer (some ⟨b, o + y * j.sz, none⟩)) ?_ r (.ptr _ _ b N hm) hK
    simp [execOp, hv, hiv, Instr.indexAt, run_underlying ht, asIntOf, tab_sizeOf hT hj, hy, Instr.sureAddr, Addr.add_lit]
  · exact hk.elim

theorem index_goal (hT : TabOk P T) {t : Nat} {x i : Operand} (hk : opA T (CallA P) (.index t x i) e n H id K) (r : WR w0 W h m n H w) (re : ER h m e a) :
    OpGoal P ⟨dst, .index t x i, ty, pos, af, gd⟩ a w w0 W h m n id K Q := by
  simp only [opA] at hk
  have rx := re.ev x
  have ri := re.ev i
  split at hk
  · rename_i hti
    split at hk
    rotate_left
    · exact hk.elim
    rename_i s hx
    rw [hx] at rx
    have hv := rx.v_inv
    obtain ⟨kk, y, hiv, b, hb, hK⟩ := natOf_v hk ri
    have ht := tab_str hT hti
    refine goal_of_pure (v := .int .u8 b.toNat) ?_ r (.imm _ _ (.v _)) hK
    simp [execOp, hv, hiv, Instr.index, run_underlying ht, asIntOf, hb]
  · rename_i len el hti
    split at hk
    rotate_left
    · exact hk.elim
    rename_i j hj
    split at hk
    rotate_left
    · exact hk.elim
    rename_i ds hx
    rw [hx] at rx
    obtain ⟨kk, y, hiv, hy, hK⟩ := natOf_v hk ri
    have ht := tab_array hT hti
    obtain ⟨xs, hv, hl, hr⟩ := rx.agg_inv
    obtain ⟨d, q, hrun, hK, hd⟩ := part_sound (w := w) hT hj hK hl hr
    refine goal_of_pure (v := q) ?_ r hd hK
    simp [execOp, hv, hiv, Instr.index, run_underlying ht, asIntOf, hy, tab_sizeOf hT hj, hrun]
  · exact hk.elim

theorem optNat_v {x : Option Operand} {K : Option Nat → Prop} (hk : optNat (x.map (ev e)) K) (re : ER h m e a) :
    ∃ l, ((x.map a.eval = none ∧ l = none) ∨ ∃ kk i, x.map a.eval = some (.int kk ((i : Nat) : Int)) ∧ l = some i) ∧ K l := by
  cases x with
  | none => exact ⟨none, .inl ⟨rfl, rfl⟩, hk⟩
  | some x =>
    simp only [Option.map_some, optNat] at hk
    obtain ⟨kk, i, hv, hK⟩ := natOf_v hk (re.ev x)
    exact ⟨some i, .inr ⟨kk, i, by simp [hv], rfl⟩, hK⟩

theorem run_bounds (isS : Bool) (len cap : Nat) (lo hi mx : Option Value) (l h q : Option Nat) (hlo : (lo = none ∧ l = none) ∨ ∃ kk i, lo = some (.int kk ((i : Nat) : Int)) ∧ l = some i)
    (hhi : (hi = none ∧ h = none) ∨ ∃ kk i, hi = some (.int kk ((i : Nat) : Int)) ∧ h = some i) (hmx : (mx = none ∧ q = none) ∨ ∃ kk i, mx = some (.int kk ((i : Nat) : Int)) ∧ q = some i)
    (h1 : l.getD 0 ≤ h.getD len) (h2 : h.getD len ≤ q.getD cap) (h3 : q.getD cap ≤ cap) (h4 : q ≠ none → h ≠ none) (w : World) :
    (Instr.sliceBounds isS len cap lo hi mx).run P w = .ok (l.getD 0, h.getD len, q.getD cap) w := by
  have hb : ∀ (kk : IntKind) (i y : Nat) (c : BoundsCode), i ≤ y → (Instr.sliceBound (.int kk (i : Int)) y c).run P w = .ok i w := by
    intro kk i y c hi
    have := run_sliceBound (P := P) w kk (i : Int) y c (by omega) (by omega)
    simpa using this
  rcases hlo with ⟨rfl, rfl⟩ | ⟨k1, i1, rfl, rfl⟩ <;> rcases hhi with ⟨rfl, rfl⟩ | ⟨k2, i2, rfl, rfl⟩ <;> rcases hmx with ⟨rfl, rfl⟩ | ⟨k3, i3, rfl, rfl⟩ <;>
    simp only [Option.getD_none, Option.getD_some] at h1 h2 h3 <;>
    first
      | (simp [Instr.sliceBounds, hb, h1, h2, h3]; done)
      | exact absurd rfl (h4 (by simp))

theorem slice_goal (hT : TabOk P T) {t : Nat} {x : Operand} {lo hi mx : Option Operand} (hk : opA T (CallA P) (.slice t x lo hi mx) e n H id K) (r : WR w0 W h m n H w) (re : ER h m e a) :
    OpGoal P ⟨dst, .slice t x lo hi mx, ty, pos, af, gd⟩ a w w0 W h m n id K Q := by
  simp only [opA, sliceA] at hk
  have rx := re.ev x
  obtain ⟨l, hl, hk⟩ := optNat_v hk re
  obtain ⟨hh, hhi, hk⟩ := optNat_v hk re
  obtain ⟨q, hq, hk⟩ := optNat_v hk re
  unfold sliceC at hk
  split at hk
  · -- strings
    rename_i hti
    have ht := tab_str hT hti
    split at hk
    · rename_i s hx
      rw [hx] at rx
      have hv := rx.v_inv
      obtain ⟨h1, h2, hK⟩ := hk
      have hmn : mx.map a.eval = none := by
        rcases hq with ⟨h3, _⟩ | ⟨_, _, _, h3⟩
        · exact h3
        · cases h3
      have hb := run_bounds (P := P) false s.size s.size (lo.map a.eval) (hi.map a.eval) none l hh none hl hhi (.inl ⟨rfl, rfl⟩) h1 (by simpa using h2) (by simp) (by simp) w
      refine goal_of_pure (v := .string (cutS s (l.getD 0) (hh.getD s.size))) ?_ r (.imm _ _ (.v _)) hK
      simp [execOp, hv, Instr.sliceAt, Instr.slice, run_underlying ht, hmn, hb, cutS_eq]
    · exact hk.elim
  · rename_i el hti
    have ht := tab_slice hT hti
    split at hk
    · exact hk.elim
    rename_i j hj
    have hgen : ∀ (A : Option Addr) (len cap : Nat) (l' h' q' : Nat), a.eval x = .slice A len cap → (Instr.sliceBounds true len cap (lo.map a.eval) (hi.map a.eval) (mx.map a.eval)).run P w = .ok (l', h', q') w →
        (execOp a.eval ⟨dst, .slice t x lo hi mx, ty, pos, af, gd⟩).run P w = .ok (.value (.slice (if q' = l' then A else A.map (·.add (l' * j.sz))) (h' - l') (q' - l'))) w := by
      intro A len cap l' h' q' hv hb
      simp [execOp, hv, Instr.sliceAt, Instr.slice, run_underlying ht, hb, tab_sizeOf hT hj]
    split at hk
    · rename_i k es hx
      rw [hx] at rx
      have hcut : ∀ (lo q : Nat), lo + q ≤ es.length → ∀ b o c (u : Nat → Value), (∀ e ∈ es, e.length = k) → (∀ j, j < es.length * k → h b (o + j) = some (u j) ∧ (u j).oneCell' = true) → (∀ (j : Nat) d, es.flatten[j]? = some d → RI h d (u j)) → q ≤ c →
          RI h (.sl k ((es.drop lo).take q)) (.slice (some ⟨b, o + lo * k, none⟩) q c) := by
        intro lo q hlq b o c u hkk hu hr hc
        have hmul := Nat.mul_le_mul_right k hlq
        rw [Nat.add_mul] at hmul
        refine .sl k _ b (o + lo * k) q c (fun j => u (lo * k + j)) (fun e he => hkk e (List.mem_of_mem_drop (List.mem_of_mem_take he))) (by rw [List.length_take, List.length_drop]; omega) hc (fun j hj => by rw [Nat.add_assoc]; exact hu _ (by omega)) (fun j d hd => ?_)
        have hj := get_lt hd
        rw [flat_len _ k (fun e he => hkk e (List.mem_of_mem_drop (List.mem_of_mem_take he))), List.length_take, List.length_drop, show min q (es.length - lo) = q from by omega] at hj
        rw [cut_flat k es hkk lo q j hj] at hd
        exact hr _ d hd
      have hcutT : ∀ (lo q : Nat), lo + q ≤ es.length → ∀ b o c (u : Nat → Value), (∀ e ∈ es, e.length = k) → (∀ j, j < es.length * k → h b (o + j) = some (u j) ∧ (u j).oneCell' = true) → (∀ (j : Nat) d, es.flatten[j]? = some d → RI h d (u j)) → q = c →
          RI h (.tsl k ((es.drop lo).take q)) (.slice (some ⟨b, o + lo * k, none⟩) q c) := by
        intro lo q hlq b o c u hkk hu hr hc
        have hmul := Nat.mul_le_mul_right k hlq
        rw [Nat.add_mul] at hmul
        subst hc
        refine .tsl k _ b (o + lo * k) q (fun j => u (lo * k + j)) (fun e he => hkk e (List.mem_of_mem_drop (List.mem_of_mem_take he))) (by rw [List.length_take, List.length_drop]; omega) (fun j hj => by rw [Nat.add_assoc]; exact hu _ (by omega)) (fun j d hd => ?_)
        have hj := get_lt hd
        rw [flat_len _ k (fun e he => hkk e (List.mem_of_mem_drop (List.mem_of_mem_take he))), List.length_take, List.length_drop, show min q (es.length - lo) = q from by omega] at hj
        rw [cut_flat k es hkk lo q j hj] at hd
        exact hr _ d hd
      split at hk
      · obtain ⟨hkj, h1, h2, hK⟩ := hk
        subst hkj
        rcases rx.sl_inv with ⟨rfl, A, c, hv⟩ | ⟨b, o, c, u, hv, hc, hkk, hu, hr⟩
        · have hmn : mx.map a.eval = none := by
            rcases hq with ⟨h3, _⟩ | ⟨_, _, _, h3⟩
            · exact h3
            · cases h3
          have hb := run_bounds (P := P) true 0 c (lo.map a.eval) (hi.map a.eval) (mx.map a.eval) l hh none hl hhi hq (by simpa using h1) (by simp at h2 ⊢; omega) (by simp) (by simp) w
          have hh0 : hh.getD 0 = 0 := by simpa using h2
          refine goal_of_pure (hgen A 0 c _ _ _ hv hb) r (.imm _ _ ?_) hK
          simp only [hh0, List.drop_nil, List.take_nil, Nat.zero_sub]
          exact .slE _ _ _
        · have hb := run_bounds (P := P) true es.length c (lo.map a.eval) (hi.map a.eval) (mx.map a.eval) l hh none hl hhi hq h1 (by simp; omega) (by simp) (by simp) w
          refine goal_of_pure (hgen _ _ c _ _ _ hv hb) r (.imm _ _ ?_) hK
          simp only [Option.getD_none, Option.map_some, Addr.add_lit]
          by_cases hcl : c = l.getD 0
          · rw [if_pos hcl, show hh.getD es.length - l.getD 0 = 0 from by omega, List.take_zero]
            exact .slE _ _ _
          · rw [if_neg hcl]
            exact hcut _ _ (by omega) b o _ u hkk hu hr (by omega)
      · rename_i mm
        obtain ⟨hkj, h1, h2, h3, hK⟩ := hk
        subst hkj; subst h2
        simp only [Option.getD_some] at h1 hK
        rcases rx.sl_inv with ⟨rfl, A, c, hv⟩ | ⟨b, o, c, u, hv, hc, hkk, hu, hr⟩
        · have hm0 : mm = 0 := by simpa using h3
          subst hm0
          have hb := run_bounds (P := P) true 0 c (lo.map a.eval) (hi.map a.eval) (mx.map a.eval) l (some 0) (some 0) hl hhi hq (by simpa using h1) (by simp) (by simp) (by simp) w
          refine goal_of_pure (hgen A 0 c _ _ _ hv hb) r (.imm _ _ ?_) hK
          simp only [Option.getD_some, List.drop_nil, List.take_nil, Nat.zero_sub]
          exact .tslE _ _
        · have hb := run_bounds (P := P) true es.length c (lo.map a.eval) (hi.map a.eval) (mx.map a.eval) l (some mm) (some mm) hl hhi hq (by simpa using h1) (by simp) (by simp; omega) (by simp) w
          refine goal_of_pure (hgen _ _ c _ _ _ hv hb) r (.imm _ _ ?_) hK
          simp only [Option.getD_some, Option.map_some, Addr.add_lit]
          by_cases hcl : mm = l.getD 0
          · rw [if_pos hcl, show mm - l.getD 0 = 0 from by omega, List.take_zero]
            exact .tslE _ _
          · rw [if_neg hcl]
            exact hcutT (l.getD 0) (mm - l.getD 0) (by omega) b o (mm - l.getD 0) u hkk hu hr rfl
    · rename_i id' k a' len hx
      rw [hx] at rx
      split at hk
      rotate_left
      · exact hk.elim
      obtain ⟨hkj, h1, h2, hK⟩ := hk
      subst hkj
      have hmn : mx.map a.eval = none := by
        rcases hq with ⟨h3, _⟩ | ⟨_, _, _, h3⟩
        · exact h3
        · cases h3
      rcases rx.msl_inv with ⟨b, N, c, hm, hc, hN, hv⟩ | ⟨h0, A, hv⟩
      · have hb := run_bounds (P := P) true len c (lo.map a.eval) (hi.map a.eval) (mx.map a.eval) l hh none hl hhi hq h1 (by simp; omega) (by simp) (by simp) w
        refine goal_of_pure (hgen _ _ c _ _ _ hv hb) r ?_ hK
        simp only [Option.getD_none, Option.map_some, Addr.add_lit]
        by_cases hcl : c = l.getD 0
        · rw [if_pos hcl, show hh.getD len - l.getD 0 = 0 from by omega, show c - l.getD 0 = 0 from by omega]
          exact .mslE _ _ _ _
        · rw [if_neg hcl]
          have := RD.msl (h := h) (m := m) id' j.sz (a' + l.getD 0) (hh.getD len - l.getD 0) b N (c - l.getD 0) hm (by omega) (by rw [show a' + l.getD 0 + (c - l.getD 0) = a' + c from by omega]; exact hN)
          rwa [Nat.add_mul] at this
      · subst h0
        have hh0 : hh.getD 0 = 0 := by omega
        have hl0 : l.getD 0 = 0 := by omega
        have hb := run_bounds (P := P) true 0 0 (lo.map a.eval) (hi.map a.eval) (mx.map a.eval) l hh none hl hhi hq h1 (by simp; omega) (by simp) (by simp) w
        refine goal_of_pure (hgen _ _ 0 _ _ _ hv hb) r ?_ hK
        simp only [Option.getD_none, hh0, hl0, Nat.sub_self, Nat.add_zero]
        exact .mslE _ _ _ _
    · rename_i hx
      rw [hx] at rx
      have hv := rx.v_inv
      split at hk
      rotate_left
      · exact hk.elim
      obtain ⟨h1, h2, hK⟩ := hk
      have hb := run_bounds (P := P) true 0 0 (lo.map a.eval) (hi.map a.eval) (mx.map a.eval) l hh none hl hhi hq (by omega) (by simp; omega) (by simp) (by simp) w
      refine goal_of_pure (hgen _ _ 0 _ _ _ hv hb) r ?_ hK
      simp only [h1, h2, Option.getD_none, Nat.sub_self]
      exact .imm _ _ (.v _)
    · exact hk.elim
  · exact hk.elim
end
end Bk
