/- Newest. -/
import Derived.Test.YtobfdenalhmecaaDoorSg
set_option linter.unusedSimpArgs false
set_option linter.unusedSectionVars false
set_option linter.unusedVariables false
namespace Bk
open Go Go.Proofs

theorem frzA_mono {H : Hp} {d : D} {K K' : D → Prop} (h : ∀ d, K d → K' d) (hk : frzA H d K) : frzA H d K' := by
  unfold frzA at hk ⊢
  split at hk
  · obtain ⟨O, h1, h2, h3, h4, h5⟩ := hk; exact ⟨O, h1, h2, h3, h4, h _ h5⟩
  · obtain ⟨O, c, h1, h2, h3, h5⟩ := hk; exact ⟨O, c, h1, h2, h3, h _ h5⟩
  · split at hk
    · rename_i h1; (try simp only [h1]); exact h _ hk
    · exact hk.elim
theorem frzL_mono {H : Hp} : ∀ {l : List D} {K K' : List D → Prop}, (∀ d, K d → K' d) → frzL H l K → frzL H l K'
  | [], _, _, h, hk => h _ hk
  | _ :: _, _, _, h, hk => frzA_mono (fun _ hk => frzL_mono (fun _ => h _) hk) hk
theorem frzT_mono {H : Hp} {d : D} {K K' : D → Prop} (h : ∀ d, K d → K' d) (hk : frzT H d K) : frzT H d K' := by
  unfold frzT at hk ⊢
  split at hk
  · exact frzL_mono (fun _ => h _) hk
  · exact frzL_mono (fun _ => h _) hk
  · exact frzA_mono h hk

theorem pc28nil : PC Tryd.prog 28 [nilS, eqF] nilS := by
  refine pc_callA rfl (callA_body hT1 hmix Tryd.func28 rfl rfl (by kernel_rfl) Tryd.ntmps28 (Nat.le_of_ble_eq_true rfl) rfl ?_)
  conv => whnf
  refine splitB_intro (fun h => ?_) (fun h => ?_) <;> (conv => whnf) <;> simp only [ltI_t, ltI_f] at h
  · rfl
  · omega

/-- what Newest gives, its list once sorted being one of R -/
def NewR (R : List Ent → Prop) (l : List Ent) (d : D) : Prop :=
  (5000 < l.length ∧ d = pairT nilS 3) ∨ (l.length ≤ 5000 ∧ chkAll l ≠ 0 ∧ d = pairT nilS (chkAll l)) ∨ (l = [] ∧ d = pairT nilS 0) ∨ (l.length ≤ 5000 ∧ chkAll l = 0 ∧ ∃ l', R l' ∧ d = pairT (ents (dedup l')) 0)

theorem newest15 (l : List Ent) (hl : l.length < 1000000) {R : List Ent → Prop} (h39 : Turns 39 [.msl 0 4 0 l.length, wi l.length, cmpF] l R) (hRnil : l = [] → R []) (hRl : ∀ l', R l' → l'.length = l.length) :
    CallA Tryd.prog 15 [ents l] 0 H0 fun d' _ H' => frzT H' d' (NewR R l) := by
  refine callA_body hT1 hmix Tryd.func15 rfl rfl (by kernel_rfl) Tryd.ntmps15 (Nat.le_of_ble_eq_true rfl) rfl ?_
  conv => whnf
  refine callA_made (R := fun d0 O => l.length ≤ 5000 ∧ chkAll l = 0 ∧ ∃ l', R l' ∧ d0 = pairT (.msl 0 4 0 l.length) 0 ∧ O = entO l') (R' := fun d => (5000 < l.length ∧ d = pairT nilS 3) ∨ (l.length ≤ 5000 ∧ chkAll l ≠ 0 ∧ d = pairT nilS (chkAll l)) ∨ (l = [] ∧ d = pairT nilS 0)) rfl (sort14 l hl h39 hRnil hRl) ?_ ?_
  · rintro d0 O ⟨h1, h2, l', hR, rfl, rfl⟩
    conv => whnf
    have hll := hRl l' hR
    refine callA_obj2 (args0 := [.msl 0 4 0 l'.length, eqF]) (tc28 l' (by omega)) _ (by rw [hll]; rfl) rfl (entO_imm l') (by rintro d0 O ⟨_, rfl⟩; exact entO_imm _) ?_
    rintro d0 O ⟨rfl, rfl⟩
    conv => whnf
    refine ⟨_, rfl, rfl, ?_, entO_imm _, ?_⟩
    · show 0 + (dedup l').length ≤ ((dedup l').map Ent.c).length
      rw [List.length_map]; omega
    conv => whnf
    refine .inr (.inr (.inr ⟨h1, h2, l', hR, ?_⟩))
    show D.tuple [.sl 4 ((((dedup l').map Ent.c).drop 0).take (dedup l').length), _] = _
    rw [List.drop_zero, List.take_of_length_le (by rw [List.length_map]; omega)]; rfl
  · rintro d (⟨h1, rfl⟩ | ⟨h1, h2, rfl⟩ | ⟨rfl, rfl⟩)
    · conv => whnf
      refine callA_pc pc28nil ?_
      conv => whnf
      exact .inl ⟨h1, rfl⟩
    · conv => whnf
      refine callA_pc pc28nil ?_
      conv => whnf
      exact .inr (.inl ⟨h1, h2, rfl⟩)
    · conv => whnf
      refine callA_pc pc28nil ?_
      conv => whnf
      exact .inr (.inr (.inl ⟨rfl, rfl⟩))

def eA : Ent := ⟨⟨#[97]⟩, ⟨#[49]⟩, false, 5⟩
def eB : Ent := ⟨⟨#[97]⟩, ⟨#[]⟩, true, 7⟩
def eC : Ent := ⟨⟨#[98]⟩, ⟨#[50]⟩, false, 6⟩
theorem new3 : dedup (insL 0 1 2 [eA, eB, eC]) = [eB, eC] := by decide
theorem chk3 : chkAll [eA, eB, eC] = 0 := by decide
theorem pc15abc : PC Tryd.prog 15 [ents [eA, eB, eC]] (pairT (ents [eB, eC]) 0) := by
  refine pc_callA rfl ((newest15 [eA, eB, eC] (by decide) (tc39s [eA, eB, eC] (by decide)) (by intro h; cases h) (by rintro l' rfl; decide)).mono fun d n H h => frzT_mono (fun d hd => ?_) h)
  rcases hd with ⟨h, _⟩ | ⟨_, h, _⟩ | ⟨h, _⟩ | ⟨_, _, l', hl', rfl⟩
  · exact absurd h (by decide)
  · exact absurd chk3 h
  · cases h
  · subst hl'
    rw [show ([eA, eB, eC] : List Ent).length - 1 = 2 from rfl, new3]
end Bk
