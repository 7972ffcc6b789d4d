/- What is frozen; the operations of a region that draws its order. -/
import Derived.Test.YtobfdenalhmecaaDoorKp
set_option linter.unusedSimpArgs false
set_option linter.unusedSectionVars false
set_option linter.unusedVariables false
namespace Bk
open Go
variable [Gh]

def addF (h : FM) (b : Nat) (xs : List Value) : FM := fun b' o => if b' = b then xs[o]? else h b' o
theorem addF_self (h : FM) (b : Nat) (xs : List Value) (o : Nat) : addF h b xs b o = xs[o]? := by simp [addF]
theorem addF_le {h : FM} {b : Nat} (xs : List Value) (hb : ∀ o, h b o = none) : FLe h (addF h b xs) := by
  intro b' o x hx
  unfold addF
  split
  · subst_vars; rw [hb] at hx; cases hx
  · exact hx
theorem addF_new {h : FM} {b b' o : Nat} {xs : List Value} {x : Value} (hx : addF h b xs b' o = some x) : h b' o = some x ∨ b' = b := by
  unfold addF at hx
  split at hx
  · exact .inr (by assumption)
  · exact .inl hx

mutual
theorem isI_sound {h : FM} {m : BM} : ∀ (d : D) (v : Value), isI d = true → RD h m d v → RI h d v
  | .any, v, hd, _ => by simp [isI] at hd
  | .v x, v, _, r => by cases r; assumption
  | .sl k es, v, _, r => by cases r; assumption
  | .tsl k es, v, _, r => by cases r; assumption
  | .fp c j, v, _, r => by cases r; assumption
  | .msl _ _ _ _, v, hd, _ => by simp [isI] at hd
  | .ptr _ _, v, hd, _ => by simp [isI] at hd
  | .eptr _ _ _ _, v, hd, _ => by simp [isI] at hd
  | .fn f x y, v, hd, r => by
    simp only [isI] at hd
    split at hd
    · rename_i h1
      cases r with
      | imm _ _ r => exact r
      | fn _ _ _ xs ys hx hy rx ry => exact .fn f x y xs ys hx hy (isIL_sound x xs h1 rx) (isIL_sound y ys hd ry)
    · cases hd
  | .iface t d, v, hd, r => by
    simp only [isI] at hd
    cases r with
    | imm _ _ r => exact r
    | iface _ _ x r => exact .iface t d x (isI_sound d x hd r)
  | .agg ds, v, hd, r => by
    simp only [isI] at hd
    cases r with
    | imm _ _ r => exact r
    | agg _ xs hl r => exact .agg ds xs hl (isIL_sound ds xs hd r)
  | .tuple ds, v, hd, r => by
    simp only [isI] at hd
    cases r with
    | imm _ _ r => exact r
    | tuple _ xs hl r => exact .tuple ds xs hl (isIL_sound ds xs hd r)
theorem isIL_sound {h : FM} {m : BM} : ∀ (ds : List D) (xs : List Value), isIL ds = true → (∀ (i : Nat) d x, ds[i]? = some d → xs[i]? = some x → RD h m d x) → ∀ (i : Nat) d x, ds[i]? = some d → xs[i]? = some x → RI h d x
  | [], _, _, _ => by intro i d x hd; simp at hd
  | d :: ds, [], _, _ => by intro i d x hd hx; simp at hx
  | d :: ds, x :: xs, hd, r => by
    simp only [isIL] at hd
    split at hd
    · rename_i h1
      intro i d' x' h2 h3
      cases i with
      | zero => simp at h2 h3; subst h2; subst h3; exact isI_sound d x h1 (r 0 d x rfl rfl)
      | succ i => exact isIL_sound ds xs hd (fun i d x h4 h5 => r (i + 1) d x (by simpa using h4) (by simpa using h5)) i d' x' (by simpa using h2) (by simpa using h3)
    · cases hd
end

theorem isIL_mem : ∀ {l : List D}, isIL l = true → ∀ d ∈ l, isI d = true
  | [], _, d, hd => by simp at hd
  | a :: l, h, d, hd => by
    simp only [isIL] at h
    split at h
    · rcases List.mem_cons.1 hd with rfl | hd
      · assumption
      · exact isIL_mem h d hd
    · cases h
theorem isILL_mem : ∀ {l : List (List D)}, isILL l = true → ∀ c ∈ l, isIL c = true
  | [], _, d, hd => by simp at hd
  | a :: l, h, d, hd => by
    simp only [isILL] at h
    split at h
    · rcases List.mem_cons.1 hd with rfl | hd
      · assumption
      · exact isILL_mem h d hd
    · cases h
theorem isILL_flat {l : List (List D)} (h : isILL l = true) : ∀ d ∈ l.flatten, isI d = true := by
  intro d hd
  obtain ⟨c, hc, hd⟩ := List.mem_flatten.1 hd
  exact isIL_mem (isILL_mem h c hc) d hd

section
variable {P : Program} {T : Tab} {w0 w : World} {W : Nat → Prop} {h : FM} {m : BM} {n : Nat} {H : Hp} {e : Env} {a : Act}

/-- a block that no object has is frozen -/
theorem WR.freeze (r : WR w0 W h m n H w) {b t : Nat} {xs : List Value} (hb : w.heap[b]? = some (.cells xs.toArray t (0, 0))) (hh : ∀ o, h b o = none) (hm : ∀ id O N, H id = some O → m id ≠ some (b, N)) : WR w0 W (addF h b xs) m n H w := by
  have hl := addF_le xs hh
  refine ⟨⟨fun b' o x hx => ?_, r.rh.far, fun id O hO => ?_, r.rh.inj⟩, r.fr, r.wb⟩
  · rcases addF_new hx with h1 | h1
    · exact r.rh.froz _ _ _ h1
    · subst h1
      rw [addF_self] at hx
      rw [cell_iff hb]; exact hx
  · rcases r.rh.obj id O hO with h1 | ⟨b', ys, h1, h2, h3, h4, h5, h6⟩
    · exact .inl h1
    · refine .inr ⟨b', ys, h1, h2, h3, h4, fun j d x hd hx => ⟨(h5 j d x hd hx).1.mono hl (MLe.refl _), (h5 j d x hd hx).2⟩, fun o => ?_⟩
      have hne : b' ≠ b := fun he => hm id O ys.length hO (by rw [h1, he])
      simp [addF, hne, h6]

/-- another world with the same old blocks -/
theorem WR.lay (r : WR w0 W h m n H w) (o : Obj) : WR w0 W h m n H (w.alloc o) :=
  ⟨r.rh.keep fun b hb => heap_alloc_old w o hb, r.fr.alloc o, r.wb⟩

theorem fresh_none (r : WR w0 W h m n H w) (o : Nat) : h w.heap.size o = none := by
  cases e : h w.heap.size o with
  | none => rfl
  | some x => have := r.rh.block_lt e; omega

theorem fresh_not (r : WR w0 W h m n H w) (id : Nat) (O : AObj) (N : Nat) (hO : H id = some O) : m id ≠ some (w.heap.size, N) := by
  intro hm
  rcases r.rh.obj id O hO with ⟨h1, _⟩ | ⟨b, xs, h1, h2, _⟩
  · rw [h1] at hm; cases hm
  · rw [h1] at hm; cases hm
    have := block_lt_of_get h2; omega

/-- a new block, frozen at once -/
theorem WR.layFrozen (r : WR w0 W h m n H w) (xs : List Value) (t : Nat) : WR w0 W (addF h w.heap.size xs) m n H (w.alloc (.cells xs.toArray t)) := by
  refine (r.lay _).freeze (t := t) (heap_alloc_new w _) (fresh_none r) (fresh_not r)

end
end Bk
