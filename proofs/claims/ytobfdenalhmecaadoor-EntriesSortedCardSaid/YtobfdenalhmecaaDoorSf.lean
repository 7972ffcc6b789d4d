/- Sorting: up to the merges. -/
import Derived.Test.YtobfdenalhmecaaDoorSe
import Derived.Test.YtobfdenalhmecaaDoorKB
set_option linter.unusedSimpArgs false
set_option linter.unusedSectionVars false
set_option linter.unusedVariables false
namespace Bk
open Go Go.Proofs

def nilS : D := .v (.slice none 0 0)

theorem pc47nil : PC Tryd.prog 47 [nilS, wi 0, wi 0, cmpF] (.tuple []) := by
  refine pc_callA rfl (callA_body hT1 hmix Tryd.func47 rfl rfl (by kernel_rfl) Tryd.ntmps47 (Nat.le_of_ble_eq_true rfl) rfl ?_)
  conv => whnf
  refine loop_rule hT1 hmix (ι := Unit) (fun _ => [(2, wi 0), (8, wi 1)]) 5 (fun _ => []) (fun _ => 0) (by kernel_rfl) ?_ () ⟨[], rfl, ⟨rfl, ?_, trivial⟩, trivial⟩
  · intro _
    conv => whnf
    refine splitB_intro (fun h => ?_) (fun h => ?_) <;> (conv => whnf) <;> simp only [ltI_t, ltI_f] at h
    · omega
  · show D.v (Value.int .i64 (wr .i64 ((0 : Int) + 1))) = _
    rw [wr64 _ (by omega) (by omega)]; rfl

theorem pc39nil : PC Tryd.prog 39 [nilS, wi 0, cmpF] (.tuple []) := by
  refine pc_callA rfl (callA_body hT1 hmix Tryd.func39 rfl rfl (by kernel_rfl) Tryd.ntmps39 (Nat.le_of_ble_eq_true rfl) rfl ?_)
  conv => whnf
  refine loop_rule hT1 hmix (ι := Unit) (fun _ => [(0, nilS), (1, wi 0), (2, cmpF), (6, wi 20), (7, wi 0), (8, wi 20)]) 9 (fun _ => []) (fun _ => 0) (by kernel_rfl) ?_ () ⟨[], rfl, ⟨rfl, rfl, rfl, rfl, rfl, rfl, trivial⟩, trivial⟩
  intro _
  conv => whnf
  refine splitB_intro (fun h => ?_) (fun h => ?_) <;> (conv => whnf) <;> simp only [leI_t, leI_f] at h
  · omega
  · refine callA_pc pc47nil ?_
    conv => whnf
    refine loop_rule hT1 hmix (ι := Unit) (fun _ => [(1, wi 0), (6, wi 20)]) 5 (fun _ => []) (fun _ => 0) (by kernel_rfl) ?_ () ⟨[], rfl, ⟨rfl, rfl, trivial⟩, trivial⟩
    intro _
    conv => whnf
    refine splitB_intro (fun h => ?_) (fun h => ?_) <;> (conv => whnf) <;> simp only [ltI_t, ltI_f] at h
    · omega

theorem pc27nil : PC Tryd.prog 27 [nilS, cmpF] (.tuple []) := by
  refine pc_callA rfl (callA_body hT1 hmix Tryd.func27 rfl rfl (by kernel_rfl) Tryd.ntmps27 (Nat.le_of_ble_eq_true rfl) rfl ?_)
  conv => whnf
  refine callA_pc pc39nil ?_
  conv => whnf

theorem tc39s (l : List Ent) (hl : l.length < 20) : Turns 39 [.msl 0 4 0 l.length, wi l.length, cmpF] l (· = insL 0 1 (l.length - 1) l) := by
  refine callA_body hT1 hmix Tryd.func39 rfl rfl (by kernel_rfl) Tryd.ntmps39 (Nat.le_of_ble_eq_true rfl) rfl ?_
  conv => whnf
  refine loop_rule hT1 hmix (ι := Unit) (fun _ => [(0, .msl 0 4 0 l.length), (1, wi l.length), (2, cmpF), (6, wi 20), (7, wi 0), (8, wi 20)]) 9 (fun _ => [(0, entO l)]) (fun _ => 0) (by kernel_rfl) ?_ () ⟨[], rfl, ⟨rfl, rfl, rfl, rfl, rfl, rfl, trivial⟩, ⟨_, rfl, .inr ⟨rfl, entO_imm _⟩⟩, trivial⟩
  intro _
  conv => whnf
  refine splitB_intro (fun h => ?_) (fun h => ?_) <;> (conv => whnf) <;> simp only [leI_t, leI_f] at h
  · omega
  · refine (tc47 l 0 l.length (Nat.le_refl _) (by omega) (by omega)).use 0 rfl rfl ?_
    rintro l' rfl
    conv => whnf
    refine loop_rule hT1 hmix (ι := Unit) (fun _ => [(1, wi l.length), (6, wi 20)]) 9 (fun _ => [(0, entO (insL 0 1 (l.length - 1) l))]) (fun _ => 0) (by kernel_rfl) ?_ () ⟨[], rfl, ⟨rfl, rfl, trivial⟩, ⟨_, rfl, .inr ⟨rfl, entO_imm _⟩⟩, trivial⟩
    intro _
    conv => whnf
    refine splitB_intro (fun h => ?_) (fun h => ?_) <;> (conv => whnf) <;> simp only [ltI_t, ltI_f] at h
    · omega
    · exact ⟨rfl, _, ⟨_, rfl, rfl⟩, rfl⟩

theorem tc27 (l : List Ent) {R : List Ent → Prop} (h : Turns 39 [.msl 0 4 0 l.length, wi l.length, cmpF] l R) : Turns 27 [.msl 0 4 0 l.length, cmpF] l R := by
  refine callA_body hT1 hmix Tryd.func27 rfl rfl (by kernel_rfl) Tryd.ntmps27 (Nat.le_of_ble_eq_true rfl) rfl ?_
  conv => whnf
  refine h.use 0 rfl rfl ?_
  intro l' hR
  conv => whnf
  exact ⟨rfl, _, ⟨_, hR, rfl⟩, rfl⟩

theorem mk26 (l : List Ent) (hl : l.length < 1000000) {n : Nat} {H : Hp} {K : D → Nat → Hp → Prop} (hK : K (.msl n 4 0 l.length) (n + 1) (updH H n (some (entO l)))) (hK' : l = [] → K nilS n H) : CallA Tryd.prog 26 [ents l] n H K := by
  refine callA_made (R := fun d O => d = .msl 0 4 0 l.length ∧ O = entO l) (R' := fun d => l = [] ∧ d = nilS) rfl ?_ (by rintro d0 O ⟨rfl, rfl⟩; exact hK) (by rintro d ⟨h1, rfl⟩; exact hK' h1)
  refine callA_body hT1 hmix Tryd.func26 rfl rfl (by kernel_rfl) Tryd.ntmps26 (Nat.le_of_ble_eq_true rfl) rfl ?_
  conv => whnf
  intro b hb
  cases b
  · conv => whnf
    refine ⟨_, rfl, rfl, rfl, rfl, rfl, rfl, by decide, ?_, ?_, ?_⟩
    · rw [List.length_map]; show (0 + l.length) * 48 ≤ _; omega
    · rw [List.length_map]; show 0 + l.length ≤ _; omega
    · conv => whnf
      refine .inl ⟨.msl 0 4 0 l.length, 5, entO l, ?_, rfl, entO_imm l, rfl, rfl⟩
      show D.msl _ _ _ (0 + (l.map Ent.c).length) = _
      rw [List.length_map, Nat.zero_add]; rfl
  · conv => whnf
    refine .inr ⟨rfl, ?_, rfl⟩
    have := hb rfl
    simpa using this

/-- what Sort does: an error, or a list -/
theorem sort14 (l : List Ent) (hl : l.length < 1000000) {R : List Ent → Prop} (h39 : Turns 39 [.msl 0 4 0 l.length, wi l.length, cmpF] l R) (hRnil : l = [] → R []) (hRl : ∀ l', R l' → l'.length = l.length) :
    CallA Tryd.prog 14 [ents l] 0 H0 fun d _ H' => (∃ d0 id O, d = ren (fun _ => id) d0 ∧ H' id = some O ∧ (∀ c ∈ O.es, isIL c = true) ∧ l.length ≤ 5000 ∧ chkAll l = 0 ∧ ∃ l', R l' ∧ d0 = pairT (.msl 0 4 0 l.length) 0 ∧ O = entO l') ∨
      (isI d = true ∧ ((5000 < l.length ∧ d = pairT nilS 3) ∨ (l.length ≤ 5000 ∧ chkAll l ≠ 0 ∧ d = pairT nilS (chkAll l)) ∨ (l = [] ∧ d = pairT nilS 0))) := by
  refine callA_body hT1 hmix Tryd.func14 rfl rfl (by kernel_rfl) Tryd.ntmps14 (Nat.le_of_ble_eq_true rfl) rfl ?_
  conv => whnf
  refine splitB_intro (fun h => ?_) (fun h => ?_) <;> (conv => whnf) <;> simp only [ltI_t, ltI_f, List.length_map] at h
  · exact .inr ⟨rfl, .inl ⟨by omega, rfl⟩⟩
  · refine callA_pc (pc21 l hl) ?_
    conv => whnf
    refine splitB_intro (fun h2 => ?_) (fun h2 => ?_) <;> (conv => whnf) <;> simp only [eqI_t, eqI_f] at h2
    · refine mk26 l hl ?_ ?_
      · conv => whnf
        refine (tc27 l h39).use _ rfl rfl ?_
        intro l' hR
        conv => whnf
        exact .inl ⟨pairT (.msl 0 4 0 l.length) 0, _, entO l', rfl, rfl, entO_imm l', by omega, h2, l', hR, rfl, rfl⟩
      · rintro rfl
        conv => whnf
        refine callA_pc pc27nil ?_
        conv => whnf
        exact .inr ⟨rfl, .inr (.inr ⟨rfl, rfl⟩)⟩
    · exact .inr ⟨rfl, .inr (.inl ⟨by omega, h2, rfl⟩)⟩

end Bk
