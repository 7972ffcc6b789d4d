/- A region's operations in the order of the text. -/
import Derived.Test.YtobfdenalhmecaaDoorKo
set_option linter.unusedSimpArgs false
set_option linter.unusedSectionVars false
set_option linter.unusedVariables false
namespace Bk
open Go
variable [Gh]

section
variable {P : Program} {T : Tab} {w0 w : World} {W : Nat → Prop} {h : FM} {m : BM} {n : Nat} {H : Hp} {e : Env} {a : Act}
variable {N nb : Nat} {ops : Array Oper} {Q : Exit → Act → World → Prop}

theorem guard_sound {j : Nat} {b : Bool} {K : Bool → Prop} (hk : guardA ops j b e K) (re : ER h m e a) : ∃ g : Bool, K g ∧ (yielded ops a.tmps j == some b) = g := by
  unfold guardA at hk
  split at hk
  rotate_left
  · exact hk.elim
  rename_i o ho
  split at hk
  rotate_left
  · exact hk.elim
  rename_i t ht
  have rt := re.sl t
  split at hk
  · rename_i c hc
    rw [hc] at rt
    have hv := rt.v_inv
    have h1 : a.tmps[t]? = some (.bool c) := by
      rw [Array.getD_eq_getD_getElem?] at hv
      cases hx : a.tmps[t]? with
      | none => rw [hx] at hv; simp [undef] at hv
      | some x => rw [hx] at hv; simp at hv; rw [hv]
    have h2 : yielded ops a.tmps j = some c := by simp [yielded, ho, ht, h1]
    refine ⟨(yielded ops a.tmps j == some b), ?_, rfl⟩
    rw [h2]
    split at hk
    · have : (some c == some true) = c := by cases c <;> rfl
      rw [this]; exact hk
    · rw [notB_eq] at hk
      have : (some c == some false) = !c := by cases c <;> rfl
      rw [this]; exact hk
  · rename_i x hc
    rw [hc] at rt
    have hv := rt.v_inv
    have h2 : yielded ops a.tmps j = none := by
      rw [Array.getD_eq_getD_getElem?] at hv
      cases hx : a.tmps[t]? with
      | none => simp [yielded, ho, ht, hx]
      | some x => rw [hx] at hv; simp at hv; simp [yielded, ho, ht, hx, hv]
    exact ⟨false, hk, by rw [h2]; rfl⟩
  · exact hk.elim

theorem wanted_none {o : Oper} {y : Nat → Option Bool} (hg : o.guard = none) : Region.wanted o y = true := by simp [Region.wanted, hg]
theorem wanted_some {o : Oper} {y : Nat → Option Bool} {j : Nat} {b : Bool} (hg : o.guard = some (j, b)) : Region.wanted o y = (y j == some b) := by simp [Region.wanted, hg]

theorem dst_lt {t : Nat} {o : Option Nat} (hd : dstB N o = true) (he : o = some t) : t < N := by
  subst he
  have : t.succ ≤ N := Nat.le_of_ble_eq_true hd
  omega

theorem ER.put {o : Option Nat} {d : D} {v : Value} (re : ER h m e a) (hd : dstB N o = true) (hs : a.tmps.size = N) (r : RD h m d v) : ER h m (put e o d) (a.put o v) := by
  cases o with
  | none => exact re
  | some t =>
    have ht := dst_lt hd rfl
    refine ⟨re.gl, fun s => ?_⟩
    show RD h m (upd e t d s) ((a.tmps.setIfInBounds t v).getD s undef)
    by_cases hst : s = t
    · subst hst
      rw [upd_same]
      have : (a.tmps.setIfInBounds s v).getD s undef = v := by
        rw [Array.getD_eq_getD_getElem?, Array.getElem?_setIfInBounds_self_of_lt (by omega)]; rfl
      rw [this]; exact r
    · rw [upd_ne _ _ hst]
      have : (a.tmps.setIfInBounds t v).getD s undef = a.tmps.getD s undef := by
        rw [Array.getD_eq_getD_getElem?, Array.getD_eq_getD_getElem?, Array.getElem?_setIfInBounds_ne (Ne.symm hst)]
      rw [this]; exact re.sl s

theorem put_size (o : Option Nat) (v : Value) : (a.put o v).tmps.size = a.tmps.size := by
  cases o <;> simp [Act.put]
theorem put_defers (o : Option Nat) (v : Value) : (a.put o v).defers = a.defers := by
  cases o <;> simp [Act.put]

theorem ER.mono {h' : FM} {m' : BM} (re : ER h m e a) (hl : FLe h h') (ml : MLe m m') : ER h' m' e a := ⟨re.gl.trans hl, fun t => (re.sl t).mono hl ml⟩

/-- what follows a region -/
def After (N n nb : Nat) (w0 : World) (W : Nat → Prop) (h : FM) (m : BM) (K : Env → Nat → Hp → Prop) (Q : Exit → Act → World → Prop) : Prop :=
  ∀ e' n' H' h' m' a' w', K e' n' H' → FLe h h' → (∀ b o x, h' b o = some x → h b o = some x ∨ w0.heap.size ≤ b ∨ W b) → (∀ j, j < nb → m' j = m j) → n ≤ n' → WR w0 W h' m' n' H' w' → ER h' m' e' a' → a'.tmps.size = N → a'.defers = [] → Q .normal a' w'

theorem After.step {h' : FM} {m' : BM} {n' : Nat} {K : Env → Nat → Hp → Prop} (hQ : After N n nb w0 W h m K Q) (hl : FLe h h') (hnew : ∀ b o x, h' b o = some x → h b o = some x ∨ w0.heap.size ≤ b ∨ W b) (hm : ∀ j, j < nb → m' j = m j) (hn : n ≤ n') :
    After N n' nb w0 W h' m' K Q := by
  intro e2 n2 H2 h2 m2 a2 w2 hK hl2 hnew2 hm2 hn2 hw2 re2 hs2 hd2
  refine hQ e2 n2 H2 h2 m2 a2 w2 hK (hl.trans hl2) (fun b o x hx => ?_) (fun j hj => (hm2 j hj).trans (hm j hj)) (Nat.le_trans hn hn2) hw2 re2 hs2 hd2
  rcases hnew2 b o x hx with h1 | h1
  · exact hnew b o x h1
  · exact .inr h1

theorem opsA_sound (hT : TabOk P T) : ∀ (l : List Oper) (i : Nat) {e : Env} {n : Nat} {H : Hp} {h : FM} {m : BM} {a : Act} {w : World} {K : Env → Nat → Hp → Prop}, opsA P T N nb false ops i l e n H K →
    WR w0 W h m n H w → ER h m e a → a.tmps.size = N → a.defers = [] → nb + i + l.length ≤ n → (∀ j, nb + i ≤ j → j < nb + i + l.length → m j = none) → After N n nb w0 W h m K Q → wpList P ops Q l a w
  | [], i, e, n, H, h, m, a, w, K, hk, r, re, hs, hdf, hnl, hm, hQ => by
    exact hQ e n H h m a w hk (FLe.refl _) (fun b o x hx => .inl hx) (fun _ _ => rfl) (Nat.le_refl _) r re hs hdf
  | o :: rest, i, e, n, H, h, m, a, w, K, hk, r, re, hs, hdf, hnl, hm, hQ => by
    simp only [opsA, forceD_eq, forceN_eq, putK_eq] at hk
    split at hk
    · exact hk.elim
    rename_i hdst
    simp only [List.length_cons] at hnl
    have step : ∀ {K' : Env → Nat → Hp → Prop}, opK P T false o.op e n H (nb + i) (fun d n' H' => opsA P T N nb false ops (i + 1) rest (Bk.put e o.dst d) n' H' K') → After N n nb w0 W h m K' Q → o.wp P a w (wpList P ops Q rest) Q := by
      intro K' ho hQ
      have ho : opA T (CallA P) o.op e n H (nb + i) (fun d n' H' => opsA P T N nb false ops (i + 1) rest (Bk.put e o.dst d) n' H' K') := ho
      refine op_sound hT o ho r re (by omega) (hm _ (Nat.le_refl _) (by simp)) (Q := Q) _ ?_
      intro d n' H' h' m' w' v hK hle hnew hm' hn' hw' ml hd
      refine opsA_sound hT rest (i + 1) hK hw' ((re.mono hle ml).put hdst hs hd) (by rw [put_size]; exact hs) (by rw [put_defers]; exact hdf) (by omega) (fun j hj hj2 => ?_) (hQ.step hle hnew (fun j hj => hm' j (by omega) (by omega)) hn')
      rw [hm' j (by omega) (by omega)]; exact hm j (by omega) (by simp; omega)
    have skip : ∀ {K' : Env → Nat → Hp → Prop}, opsA P T N nb false ops (i + 1) rest (Bk.put e o.dst (.v (.tuple #[]))) n H K' → After N n nb w0 W h m K' Q → wpList P ops Q rest (a.put o.dst undef) w := by
      intro K' ho hQ
      exact opsA_sound hT rest (i + 1) ho r (re.put hdst hs (.imm _ _ (.v _))) (by rw [put_size]; exact hs) (by rw [put_defers]; exact hdf) (by omega) (fun j hj hj2 => hm j (by omega) (by simp; omega)) hQ
    unfold wpList
    split at hk
    · rename_i hg
      rw [wanted_none hg]
      exact .inl (step hk hQ)
    · rename_i j b hg
      obtain ⟨g, hK, hy⟩ := guard_sound hk re
      rw [wanted_some hg, hy]
      cases g with
      | true => exact .inl (step hK hQ)
      | false => exact skip hK hQ

end
end Bk
