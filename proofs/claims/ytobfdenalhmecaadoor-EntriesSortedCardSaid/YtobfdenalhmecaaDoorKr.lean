/- The operations of a region that draws its order: sound, of one value, and looking at their operands alone. -/
import Derived.Test.YtobfdenalhmecaaDoorKq
set_option linter.unusedSimpArgs false
set_option linter.unusedSectionVars false
set_option linter.unusedVariables false
namespace Bk
open Go
variable [Gh]

def stillB : Op → Bool
  | .move _ | .assign _ | .pick _ _ _ | .build _ _ | .load _ _ | .nilCheck _ | .unOp _ _ _ | .convert _ _ _ | .makeInterface _ _ | .makeFunc _ _ _ | .slice _ _ _ _ _ | .fieldAddr _ _ _ | .field _ _ _ | .indexAddr _ _ _ | .index _ _ _ | .extract _ _ => true
  | .call ⟨.builtin .len, _, _⟩ | .call ⟨.builtin .min, _, _⟩ | .call ⟨.builtin .max, _, _⟩ => true
  | _ => false

section
variable {P : Program} {T : Tab} {w0 w : World} {W : Nat → Prop} {h : FM} {m : BM} {n : Nat} {H : Hp} {e : Env} {a : Act}

theorem opA_still {c c' : Nat → List D → Nat → Hp → (D → Nat → Hp → Prop) → Prop} {o : Op} (ho : stillB o = true) {i i' : Nat} {K : D → Prop} (hk : opA T c o e n H i fun d _ _ => K d) :
    opA T c' o e n H i' fun d n' H' => K d ∧ n' = n ∧ H' = H := by
  cases o with
  | call cl =>
    obtain ⟨cal, args, ats⟩ := cl
    cases cal with
    | value f => cases ho
    | invoke => cases ho
    | builtin b => cases b <;> first | (cases ho; done) | (simp only [opA, and_true] at hk ⊢; exact hk)
  | _ => first | (cases ho; done) | (simp only [opA, and_true] at hk ⊢; exact hk)

/-! ### Of one value -/
theorem natOf_det {x : D} {F : Nat → (D → Prop) → Prop} (hF : ∀ i K, F i K → ∃ d, F i (· = d) ∧ K d) {K : D → Prop} (hk : natOf x fun i => F i K) : ∃ d, (natOf x fun i => F i (· = d)) ∧ K d := by
  unfold natOf at hk
  split at hk
  · obtain ⟨i, rfl, hk⟩ := hk
    obtain ⟨d, h1, h2⟩ := hF i K hk
    exact ⟨d, ⟨i, rfl, h1⟩, h2⟩
  · exact hk.elim
theorem optNat_det {x : Option D} {F : Option Nat → (D → Prop) → Prop} (hF : ∀ i K, F i K → ∃ d, F i (· = d) ∧ K d) {K : D → Prop} (hk : optNat x fun i => F i K) : ∃ d, (optNat x fun i => F i (· = d)) ∧ K d := by
  cases x with
  | none => exact hF none K hk
  | some x => exact natOf_det (F := fun i => F (some i)) (fun i => hF (some i)) hk
theorem packA_det {i : TI} {cells : List D} {j : Nat} {K : D → Prop} (hk : packA i cells j K) : ∃ d, packA i cells j (· = d) ∧ K d := by
  unfold packA at hk ⊢
  split at hk
  · rename_i h1
    split at hk
    · rename_i h2; exact ⟨_, by (try simp only [h1, h2]), hk⟩
    · exact hk.elim
  · rename_i h1
    split at hk
    · rename_i h2; exact ⟨_, by (try simp only [h1, h2]), hk⟩
    · exact hk.elim
theorem ghL_det {b : Nat} : ∀ {o n : Nat} {F : List D → (D → Prop) → Prop} {K : D → Prop}, (∀ l K, F l K → ∃ d, F l (· = d) ∧ K d) → ghL b o n (fun l => F l K) → ∃ d, ghL b o n (fun l => F l (· = d)) ∧ K d
  | o, 0, F, K, hF, hk => hF _ _ hk
  | o, n + 1, F, K, hF, hk => by
    simp only [ghL] at hk ⊢
    split at hk
    · rename_i x hx
      (try simp only [hx])
      exact ghL_det (F := fun l K => F (.v x :: l) K) (fun l K h => hF _ _ h) hk
    · exact hk.elim
theorem loadA_det {t : Nat} {p : D} {K : D → Prop} (hk : loadA T t p H K) : ∃ d, loadA T t p H (· = d) ∧ K d := by
  unfold loadA at hk ⊢
  split at hk
  · exact hk.elim
  rename_i i hi
  split at hk
  · exact packA_det hk
  · rename_i id j
    split at hk
    · rename_i h2
      (try simp only [h2])
      exact packA_det hk
    · exact hk.elim
  · obtain ⟨O, c, h1, h2, h3, hk⟩ := hk
    obtain ⟨d, h4, h5⟩ := packA_det hk
    exact ⟨d, ⟨O, c, h1, h2, h3, h4⟩, h5⟩
  · exact ghL_det (fun _ _ hk => packA_det hk) hk
  · exact hk.elim
theorem unA_det {op : UnOp} {x : D} {K : D → Prop} (hk : unA op x K) : ∃ d, unA op x (· = d) ∧ K d := by
  unfold unA at hk
  split at hk <;> first | exact ⟨_, rfl, hk⟩ | exact hk.elim
theorem minA_det {op : Builtin} {x y : D} {K : D → Prop} (hk : minA op x y K) : ∃ d, minA op x y (· = d) ∧ K d := by
  unfold minA at hk
  split at hk <;> first | exact ⟨_, rfl, hk⟩ | exact hk.elim
theorem lenA_det {t : Nat} {x : D} {K : D → Prop} (hk : lenA T t x K) : ∃ d, lenA T t x (· = d) ∧ K d := by
  unfold lenA at hk ⊢
  split at hk
  · rename_i h1; (try simp only [h1])
    split at hk <;> first | exact ⟨_, rfl, hk⟩ | exact hk.elim
  · rename_i h1; (try simp only [h1])
    split at hk <;> first | exact ⟨_, rfl, hk⟩ | exact hk.elim
  · exact hk.elim
theorem convA_det {s t : Nat} {x : D} {K : D → Prop} (hk : convA T s t x K) : ∃ d, convA T s t x (· = d) ∧ K d := by
  unfold convA at hk ⊢
  split at hk
  · rename_i h1 h2; (try simp only [h1, h2])
    split at hk <;> first | exact ⟨_, rfl, hk⟩ | exact hk.elim
  · rename_i h1 h2; (try simp only [h1, h2])
    split at hk <;> first | exact ⟨_, rfl, hk⟩ | exact hk.elim
  · exact hk.elim

theorem srcA_det {x : D} {k : Nat} {F : List (List D) → (D → Prop) → Prop} (hF : ∀ l K, F l K → ∃ d, F l (· = d) ∧ K d) {K : D → Prop} (hk : srcA x k H fun l => F l K) : ∃ d, (srcA x k H fun l => F l (· = d)) ∧ K d := by
  unfold srcA at hk ⊢
  split at hk
  · rename_i l es
    by_cases hl : l = k
    · simp only [hl, decide_true] at hk ⊢; exact hF _ _ hk
    · simp [hl] at hk
  · rename_i l es
    by_cases hl : l = k
    · simp only [hl, decide_true] at hk ⊢; exact hF _ _ hk
    · simp [hl] at hk
  · exact hF _ _ hk
  · obtain ⟨O, h1, h2, h3, h4, h5⟩ := hk
    obtain ⟨d, h6, h7⟩ := hF _ _ h5
    exact ⟨d, ⟨O, h1, h2, h3, h4, h6⟩, h7⟩
  · exact hk.elim
theorem convB_det {s t : Nat} {x : D} {K : D → Prop} (hk : convB T s t x H K) : ∃ d, convB T s t x H (· = d) ∧ K d := by
  unfold convB at hk ⊢
  split at hk
  · rename_i h1 h2; (try simp only [h1, h2])
    split at hk
    · rename_i h3; (try simp only [h3])
      exact srcA_det (F := fun es K => ∃ b : ByteArray, es = bytesD b ∧ K (.v (.string b))) (fun _ _ ⟨b, h4, h5⟩ => ⟨_, ⟨b, h4, rfl⟩, h5⟩) hk
    · exact hk.elim
  · exact convA_det hk

theorem and_det {A : Prop} {F : (D → Prop) → Prop} {K : D → Prop} (hF : F K → ∃ d, F (· = d) ∧ K d) (hk : A ∧ F K) : ∃ d, (A ∧ F (· = d)) ∧ K d := by
  obtain ⟨h1, h2⟩ := hk
  obtain ⟨d, h3, h4⟩ := hF h2
  exact ⟨d, ⟨h1, h3⟩, h4⟩
theorem k_det {K : D → Prop} {x : D} (hk : K x) : ∃ d, x = d ∧ K d := ⟨x, rfl, hk⟩

theorem sliceC_det {t : Nat} {x : D} {l h m : Option Nat} {K : D → Prop} (hk : sliceC T t x l h m K) : ∃ d, sliceC T t x l h m (· = d) ∧ K d := by
  unfold sliceC at hk ⊢
  split at hk
  · rename_i h1; (try simp only [h1])
    split at hk
    · obtain ⟨h2, h3, h4⟩ := hk; exact ⟨_, ⟨h2, h3, rfl⟩, h4⟩
    · exact hk.elim
  · rename_i h1; (try simp only [h1])
    split at hk
    · exact hk.elim
    · rename_i h2; (try simp only [h2])
      split at hk
      · split at hk
        · obtain ⟨h2, h3, h4, h5⟩ := hk; exact ⟨_, ⟨h2, h3, h4, rfl⟩, h5⟩
        · obtain ⟨h2, h3, h4, h5, h6⟩ := hk; exact ⟨_, ⟨h2, h3, h4, h5, rfl⟩, h6⟩
      · split at hk
        · obtain ⟨h2, h3, h4, h5⟩ := hk; exact ⟨_, ⟨h2, h3, h4, rfl⟩, h5⟩
        · exact hk.elim
      · split at hk
        · obtain ⟨h2, h3, h4⟩ := hk; exact ⟨_, ⟨h2, h3, rfl⟩, h4⟩
        · exact hk.elim
      · exact hk.elim
  · exact hk.elim

theorem sliceA_det {t : Nat} {x : D} {lo hi mx : Option D} {K : D → Prop} (hk : sliceA T t x lo hi mx K) : ∃ d, sliceA T t x lo hi mx (· = d) ∧ K d :=
  optNat_det (F := fun l K => optNat hi fun h => optNat mx fun m => sliceC T t x l h m K) (fun _ _ hk => optNat_det (F := fun h K => optNat mx fun m => sliceC T t x _ h m K) (fun _ _ hk => optNat_det (F := fun m K => sliceC T t x _ _ m K) (fun _ _ hk => sliceC_det hk) hk) hk) hk

theorem binA_det {op : BinOp} {t : Nat} {x y : D} {K : D → Prop} (h1 : ∀ k es, x ≠ .sl k es) (h2 : ∀ i k l c, x ≠ .msl i k l c) (hk : binA T op t x y K) : ∃ d, binA T op t x y (· = d) ∧ K d := by
  unfold binA at hk
  simp only [splitB_eq] at hk
  split at hk
  · rename_i k a l b
    split at hk
    · exact hk.elim
    · rename_i hkl
      have hkl := of_decide_eq_true hkl
      subst hkl
      unfold binA
      simp only [decide_true, splitB_eq]
      cases op <;> first | exact ⟨_, rfl, hk⟩ | exact hk.elim | (obtain ⟨h2, h3, h4⟩ := hk; exact ⟨_, ⟨h2, h3, rfl⟩, h4⟩)
  · unfold binA
    simp only [splitB_eq]
    cases op <;> first | exact ⟨_, rfl, hk⟩ | exact hk.elim | (obtain ⟨h2, h3⟩ := hk; exact ⟨_, ⟨h2, rfl⟩, h3⟩)
  · unfold binA
    simp only [splitB_eq]
    split at hk
    · rename_i h3; (try simp only [h3])
      cases op <;> first | exact ⟨_, rfl, hk⟩ | exact hk.elim
    · exact hk.elim
  · unfold binA
    simp only [splitB_eq]
    split at hk
    · rename_i h3; (try simp only [h3])
      split at hk
      · rename_i h4; (try simp only [h4])
        cases op <;> first | exact ⟨_, rfl, hk⟩ | exact hk.elim
      · exact hk.elim
    · exact hk.elim
  · exact absurd rfl (h1 _ _)
  · exact absurd rfl (h2 _ _ _ _)
  · unfold binA
    simp only [splitB_eq]
    split at hk
    · rename_i h3; (try simp only [h3])
      cases op <;> first | exact ⟨_, rfl, hk⟩ | exact hk.elim
    · exact hk.elim
  · unfold binA
    simp only [splitB_eq]
    split at hk
    · rename_i h3; (try simp only [h3])
      cases op <;> first | exact ⟨_, rfl, hk⟩ | exact hk.elim
    · exact hk.elim
  · unfold binA
    simp only [splitB_eq]
    split at hk
    · rename_i h3; (try simp only [h3])
      cases op <;> first | exact ⟨_, rfl, hk⟩ | exact hk.elim
    · exact hk.elim
  · exact hk.elim

end
end Bk
