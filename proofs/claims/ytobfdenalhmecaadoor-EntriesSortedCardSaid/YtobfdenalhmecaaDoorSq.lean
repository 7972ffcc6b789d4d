/- EntriesPairs. -/
import Derived.Test.YtobfdenalhmecaaDoorSp
set_option linter.unusedSimpArgs false
set_option linter.unusedSectionVars false
set_option linter.unusedVariables false
namespace Bk
open Go Go.Proofs

def errE (x y : Ent) : Int := if chk x = 0 then chk y else chk x
def cmpV (x y : Ent) : Int := if errE x y ≠ 0 then 0 else ord x y
def winV (x y : Ent) : Ent := if errE x y ≠ 0 then noEnt else if x.k ≠ y.k then noEnt else if x.seq < y.seq then y else x
def winI (x y : Ent) : Int := if errE x y ≠ 0 then errE x y else if x.k ≠ y.k then 6 else 0
theorem cmpE_eq (x y : Ent) : cmpE x y = pairT (wi (cmpV x y)) (errE x y) := by
  show (if errE x y ≠ 0 then pairT (wi 0) (errE x y) else pairT (wi (ord x y)) 0) = pairT (wi (if errE x y ≠ 0 then 0 else ord x y)) (errE x y)
  by_cases h : errE x y = 0
  · rw [if_neg (by simpa using h), if_neg (by simpa using h), h]
  · rw [if_pos h, if_pos h]
theorem winE_eq (x y : Ent) : winE x y = pairT (.agg (winV x y).c) (winI x y) := by
  unfold winE winV winI
  show (if errE x y ≠ 0 then pairT (.agg noEnt.c) (errE x y) else _) = _
  by_cases h : errE x y = 0
  · have h' : ¬ errE x y ≠ 0 := by simpa using h
    simp only [if_neg h']
    by_cases h2 : x.k = y.k
    · have h2' : ¬ x.k ≠ y.k := by simpa using h2
      simp only [if_neg h2']
      split <;> rfl
    · simp only [if_pos h2]
  · simp only [if_pos h]

theorem pc3 (x y : Ent) : PC Tryd.prog 3 [.agg x.c, .agg y.c] (wb true) := by
  refine pc_callA rfl (callA_body hT1 hmix Tryd.func3 rfl rfl (by kernel_rfl) Tryd.ntmps3 (Nat.le_of_ble_eq_true rfl) rfl ?_)
  have hx := pc5 x
  have hy := pc5 y
  obtain ⟨bx, hbx⟩ : ∃ b, b = decide (100 < (x.k.size : Int) ∨ 100 < (x.v.size : Int)) := ⟨_, rfl⟩
  obtain ⟨by_, hby⟩ : ∃ b, b = decide (100 < (y.k.size : Int) ∨ 100 < (y.v.size : Int)) := ⟨_, rfl⟩
  rw [← hbx] at hx
  rw [← hby] at hy
  conv => whnf
  refine callA_pc hx ?_
  cases bx
  rotate_left
  · conv => whnf
    refine callA_pc pc6 ?_
    conv => whnf
    rfl
  conv => whnf
  refine callA_pc hy ?_
  cases by_
  rotate_left
  · conv => whnf
    refine callA_pc pc6 ?_
    conv => whnf
    rfl
  have hx' := of_decide_eq_false hbx.symm
  have hy' := of_decide_eq_false hby.symm
  conv => whnf
  refine callA_pc (pc7 x y) ?_
  rw [cmpE_eq]
  conv => whnf
  refine callA_pc (pc8 x y (by omega) (by omega)) ?_
  rw [cmpE_eq]
  conv => whnf
  refine callA_pc (pc9 x y) ?_
  rw [winE_eq]
  conv => whnf
  refine callA_pc (pc10 x y) ?_
  rw [winE_eq]
  conv => whnf
  refine cut_rule hT1 hmix [(2, .ptr 0 0), (3, .ptr 1 0), (5, wi (cmpV x y)), (6, wi (errE x y)), (7, wi (cmpV x y)), (8, wi (errE x y)), (9, .ptr 2 0), (10, wi (winI x y)), (11, .ptr 3 0), (12, wi (winI x y))] 4
    [(0, ⟨23, 4, [x.c]⟩), (1, ⟨23, 4, [y.c]⟩), (2, ⟨23, 4, [(winV x y).c]⟩), (3, ⟨23, 4, [(winV x y).c]⟩)] (by kernel_rfl) ⟨[(0, 0), (1, 1), (2, 31), (3, 40)], rfl, ⟨rfl, rfl, rfl, rfl, rfl, rfl, rfl, rfl, rfl, rfl, trivial⟩, ⟨_, rfl, .inl rfl⟩, ⟨_, rfl, .inl rfl⟩, ⟨_, rfl, .inl rfl⟩, ⟨_, rfl, .inl rfl⟩, trivial⟩ ?_
  conv => whnf
  refine ⟨_, pc11 x, ?_⟩
  conv => whnf
  refine ⟨_, pc12 x, ?_⟩
  conv => whnf
  refine splitB_pos (by rw [eqI_t]) ?_
  conv => whnf
  refine splitB_pos (by rw [eqI_t]) ?_
  conv => whnf
  refine splitB_pos (by rw [eqI_t]) ?_
  conv => whnf
  refine splitB_pos (by simp only [andB_t, eqS_t, eqB_t, eqI_t, and_self]) ?_
  conv => whnf
  refine splitB_pos (by rw [eqI_t]) ?_
  conv => whnf
  refine ⟨_, pc6, ?_⟩
  conv => whnf
  rfl
end Bk
