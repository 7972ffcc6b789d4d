/- The operations of a region that draws its order, continued. -/
import Derived.Test.YtobfdenalhmecaaDoorKr
set_option linter.unusedSimpArgs false
set_option linter.unusedSectionVars false
set_option linter.unusedVariables false
namespace Bk
open Go
variable [Gh]

section
variable {P : Program} {T : Tab} {w0 w : World} {W : Nat → Prop} {h : FM} {m : BM} {n : Nat} {H : Hp} {e e' : Env} {a : Act}

theorem opA_det {o : Op} (ho : stillB o = true) {c : Nat → List D → Nat → Hp → (D → Nat → Hp → Prop) → Prop} {i : Nat} {K : D → Prop} (hk : opA T c o e n H i fun d _ _ => K d) : ∃ d, (opA T c o e n H i fun d' _ _ => d' = d) ∧ K d := by
  cases o with
  | move x => exact ⟨_, rfl, hk⟩
  | assign x => exact ⟨_, rfl, hk⟩
  | pick c x y =>
    simp only [opA] at hk ⊢
    split at hk
    · rename_i t hc; (try simp only [hc])
      cases t <;> exact ⟨_, rfl, hk⟩
    · exact hk.elim
  | build t ps =>
    simp only [opA] at hk ⊢
    split at hk
    · rename_i i hi; (try simp only [hi])
      split at hk
      · rename_i fs hf; (try simp only [hf])
        split at hk
        · rename_i ps hp; (try simp only [hp])
          split at hk
          · rename_i l hl; (try simp only [hl])
            split at hk
            · rename_i ds hd; (try simp only [hd])
              exact ⟨_, rfl, hk⟩
            · exact hk.elim
          · exact hk.elim
        · exact hk.elim
      · exact hk.elim
    · exact hk.elim
  | load t x => exact loadA_det hk
  | nilCheck x =>
    simp only [opA] at hk ⊢
    split at hk <;> first | (rename_i hx; exact hk.elim) | (rename_i hx; (try simp only [hx]); exact ⟨_, rfl, hk⟩)
  | unOp op t x => exact unA_det hk
  | convert s t x => exact convB_det hk
  | makeInterface t x =>
    simp only [opA] at hk ⊢
    split at hk
    · exact hk.elim
    · rename_i i hn hi
      (try simp only [hi])
      exact ⟨_, rfl, hk⟩
    · exact hk.elim
  | makeFunc f x y => exact ⟨_, rfl, hk⟩
  | slice t x lo hi mx => exact sliceA_det hk
  | fieldAddr t x f =>
    simp only [opA] at hk ⊢
    split at hk
    · rename_i o i hi; (try simp only [hi])
      split at hk
      · rename_i h1; (try simp only [h1])
        split at hk <;> first | exact hk.elim | (rename_i hx; (try simp only [hx]); exact ⟨_, rfl, hk⟩)
      · exact hk.elim
    · exact hk.elim
  | field t x f =>
    simp only [opA] at hk ⊢
    split at hk
    · rename_i o i hi; (try simp only [hi])
      split at hk
      · rename_i ds hd; (try simp only [hd])
        exact packA_det hk
      · exact hk.elim
    · exact hk.elim
  | indexAddr t x i =>
    simp only [opA] at hk ⊢
    split at hk
    · rename_i hi; (try simp only [hi])
      split at hk
      · rename_i j hj; (try simp only [hj])
        split at hk
        · rename_i h1 h2; (try simp only [h1, h2])
          obtain ⟨y, c, h3, h4, h5, h6⟩ := hk
          exact ⟨_, ⟨y, c, h3, h4, h5, rfl⟩, h6⟩
        · rename_i h1 h2; (try simp only [h1, h2])
          obtain ⟨y, h3, h4, h5, h6⟩ := hk
          exact ⟨_, ⟨y, h3, h4, h5, rfl⟩, h6⟩
        · exact hk.elim
      · exact hk.elim
    · rename_i hi; (try simp only [hi])
      split at hk
      · rename_i j hj; (try simp only [hj])
        split at hk
        · rename_i h1; (try simp only [h1])
          exact natOf_det (F := fun y K => y < _ ∧ K _) (fun _ _ hk => ⟨_, ⟨hk.1, rfl⟩, hk.2⟩) hk
        · exact hk.elim
      · exact hk.elim
    · exact hk.elim
  | index t x i =>
    simp only [opA] at hk ⊢
    split at hk
    · rename_i hi; (try simp only [hi])
      split at hk
      · rename_i s hx; (try simp only [hx])
        exact natOf_det (F := fun y K => ∃ b : UInt8, s[y]? = some b ∧ K (.v (.int .u8 b.toNat))) (fun _ _ hk => by obtain ⟨b, h1, h2⟩ := hk; exact ⟨_, ⟨b, h1, rfl⟩, h2⟩) hk
      · exact hk.elim
    · rename_i hi; (try simp only [hi])
      split at hk
      · rename_i j hj; (try simp only [hj])
        split at hk
        · rename_i ds h1; (try simp only [h1])
          exact natOf_det (F := fun y K => y < _ ∧ packA j ds (y * j.sz) K) (fun _ _ hk => by obtain ⟨h2, hk⟩ := hk; obtain ⟨d, h3, h4⟩ := packA_det hk; exact ⟨d, ⟨h2, h3⟩, h4⟩) hk
        · exact hk.elim
      · exact hk.elim
    · exact hk.elim
  | extract x i =>
    simp only [opA] at hk ⊢
    split at hk
    · rename_i ds hx; (try simp only [hx])
      split at hk
      · rename_i d hd; (try simp only [hd])
        exact ⟨_, rfl, hk⟩
      · exact hk.elim
    · exact hk.elim
  | call cl =>
    obtain ⟨cal, args, ats⟩ := cl
    cases cal with
    | value f => cases ho
    | invoke => cases ho
    | builtin b =>
      cases b with
      | len =>
        simp only [opA] at hk ⊢
        split at hk
        · rename_i h1 h2; (try simp only [h1, h2]); exact lenA_det hk
        · exact hk.elim
      | min =>
        simp only [opA] at hk ⊢
        split at hk
        · rename_i h1; (try simp only [h1]); exact minA_det hk
        · exact hk.elim
      | max =>
        simp only [opA] at hk ⊢
        split at hk
        · rename_i h1; (try simp only [h1]); exact minA_det hk
        · exact hk.elim
      | _ => cases ho
  | _ => cases ho

theorem opN_still {o : Op} (ho : stillB o = true) (K : D → Prop) : opN P T o e n H K = opA T (fun _ _ _ _ _ => False) o e n H 0 fun d _ _ => K d := by
  cases o with
  | call cl =>
    obtain ⟨cal, args, ats⟩ := cl
    cases cal with
    | value f => cases ho
    | invoke => cases ho
    | builtin b => cases b <;> first | (cases ho; done) | rfl
  | _ => first | (cases ho; done) | rfl

theorem opN_det {o : Op} {K : D → Prop} (hk : opN P T o e n H K) : ∃ d, opN P T o e n H (· = d) ∧ K d := by
  by_cases ho : stillB o = true
  · rw [opN_still ho] at hk
    obtain ⟨d, h1, h2⟩ := opA_det ho hk
    exact ⟨d, by rw [opN_still ho]; exact h1, h2⟩
  · cases o with
    | buildSlice t l ps =>
      simp only [opN] at hk ⊢
      split at hk
      · rename_i hi; (try simp only [hi])
        split at hk
        · rename_i hj; (try simp only [hj])
          split at hk
          · rename_i es he; (try simp only [he])
            split at hk
            · rename_i h1 h2 h3; (try simp only [h1, h2, h3])
              rw [forceLL_eq] at hk
              exact ⟨_, by rw [forceLL_eq], hk⟩
            · exact hk.elim
          · exact hk.elim
        · exact hk.elim
      · exact hk.elim
    | binOp op t x y yt =>
      simp only [opN] at hk ⊢
      split at hk
      · exact hk.elim
      · exact hk.elim
      · rename_i h1 h2
        obtain ⟨d, h3, h4⟩ := binA_det (fun k es he => h1 k es he) (fun i k l c he => h2 i k l c he) hk
        exact ⟨d, h3, h4⟩
    | call cl =>
      obtain ⟨cal, args, ats⟩ := cl
      cases cal with
      | value f =>
        simp only [opN] at hk ⊢
        split at hk
        · rename_i hf; (try simp only [hf])
          obtain ⟨r, h1, h2⟩ := hk
          exact ⟨r, ⟨r, h1, rfl⟩, h2⟩
        · exact hk.elim
      | invoke => exact hk.elim
      | builtin b => cases b <;> first | exact absurd rfl ho | exact hk.elim
    | _ => first | exact absurd rfl ho | exact hk.elim

/-! ### Its operands alone -/
theorem partsA_congr {ps : List (Nat × Nat)} : ∀ {l : List (Nat × Operand)}, (∀ p ∈ l, ev e p.2 = ev e' p.2) → partsA ps e l = partsA ps e' l
  | [], _ => rfl
  | (i, x) :: r, hx => by
    simp only [partsA]
    rw [partsA_congr (l := r) (fun p hp => hx p (by simp [hp])), show ev e x = ev e' x from hx (i, x) (by simp)]
theorem elemsA_congr {k : Nat} : ∀ {l : List (Nat × Operand)} {i : Nat}, (∀ p ∈ l, ev e p.2 = ev e' p.2) → elemsA k e i l = elemsA k e' i l
  | [], _, _ => rfl
  | (j, x) :: r, i, hx => by
    simp only [elemsA]
    rw [elemsA_congr (l := r) (fun p hp => hx p (by simp [hp])), show ev e x = ev e' x from hx (j, x) (by simp)]
theorem map_congr {l : List Operand} (hx : ∀ x ∈ l, ev e x = ev e' x) : l.map (ev e) = l.map (ev e') := List.map_congr_left hx
theorem opt_congr {o : Option Operand} (hx : ∀ x ∈ o.toArray, ev e x = ev e' x) : o.map (ev e) = o.map (ev e') := by
  cases o with
  | none => rfl
  | some x => simp [hx x (by simp)]

theorem opN_congr {o : Op} {K : D → Prop} (hx : ∀ x ∈ o.operands, ev e x = ev e' x) : opN P T o e n H K = opN P T o e' n H K := by
  cases o with
  | move x => simp only [opN, opA, hx x (by simp [Op.operands])]
  | assign x => simp only [opN, opA, hx x (by simp [Op.operands])]
  | pick c x y => simp only [opN, opA, hx c (by simp [Op.operands]), hx x (by simp [Op.operands]), hx y (by simp [Op.operands])]
  | build t ps => simp only [opN, opA, partsA_congr (l := ps.toList) (e := e) (e' := e') (fun p hp => hx p.2 (by simp [Op.operands]; exact ⟨p.1, by simpa using hp⟩))]
  | buildSlice t l ps => simp only [opN, opA, elemsA_congr (l := ps.toList) (e := e) (e' := e') (fun p hp => hx p.2 (by simp [Op.operands]; exact ⟨p.1, by simpa using hp⟩))]
  | load t x => simp only [opN, opA, hx x (by simp [Op.operands])]
  | nilCheck x => simp only [opN, opA, hx x (by simp [Op.operands])]
  | unOp op t x => simp only [opN, opA, hx x (by simp [Op.operands])]
  | binOp op t x y _ => simp only [opN, opA, hx x (by simp [Op.operands]), hx y (by simp [Op.operands])]
  | convert s t x => simp only [opN, opA, hx x (by simp [Op.operands])]
  | makeInterface t x => simp only [opN, opA, hx x (by simp [Op.operands])]
  | makeFunc f x y => simp only [opN, opA, map_congr (l := x.toList) (e := e) (e' := e') (fun z hz => hx z (by simp [Op.operands]; exact .inl (by simpa using hz))), map_congr (l := y.toList) (e := e) (e' := e') (fun z hz => hx z (by simp [Op.operands]; exact .inr (by simpa using hz)))]
  | slice t x lo hi mx => simp only [opN, opA, hx x (by simp [Op.operands]), opt_congr (o := lo) (e := e) (e' := e') (fun z hz => hx z (by simp [Op.operands] at hz ⊢; simp [hz])), opt_congr (o := hi) (e := e) (e' := e') (fun z hz => hx z (by simp [Op.operands] at hz ⊢; simp [hz])), opt_congr (o := mx) (e := e) (e' := e') (fun z hz => hx z (by simp [Op.operands] at hz ⊢; simp [hz]))]
  | fieldAddr t x f => simp only [opN, opA, hx x (by simp [Op.operands])]
  | field t x f => simp only [opN, opA, hx x (by simp [Op.operands])]
  | indexAddr t x i => simp only [opN, opA, hx x (by simp [Op.operands]), hx i (by simp [Op.operands])]
  | index t x i => simp only [opN, opA, hx x (by simp [Op.operands]), hx i (by simp [Op.operands])]
  | extract x i => simp only [opN, opA, hx x (by simp [Op.operands])]
  | call c =>
    obtain ⟨cal, args, ats⟩ := c
    have hargs : ∀ z ∈ args, ev e z = ev e' z := fun z hz => hx z (by simp [Op.operands, Call.operands, hz]; try cases cal <;> simp [hz])
    have hm := map_congr (l := args.toList) (e := e) (e' := e') (fun z hz => hargs z (by simpa using hz))
    cases cal with
    | value f => simp only [opN, hm, hx f (by simp [Op.operands, Call.operands])]
    | invoke => rfl
    | builtin b =>
      cases b with
      | len =>
        simp only [opN, opA]
        split
        · rename_i x t h1 h2
          rw [hargs x (by rw [← Array.mem_toList_iff, h1]; simp)]
        · rfl
      | min =>
        simp only [opN, opA]
        split
        · rename_i x y h1
          rw [hargs x (by rw [← Array.mem_toList_iff, h1]; simp), hargs y (by rw [← Array.mem_toList_iff, h1]; simp)]
        · rfl
      | max =>
        simp only [opN, opA]
        split
        · rename_i x y h1
          rw [hargs x (by rw [← Array.mem_toList_iff, h1]; simp), hargs y (by rw [← Array.mem_toList_iff, h1]; simp)]
        · rfl
      | _ => rfl
  | _ => rfl

end
end Bk
