/- awake. -/
import Derived.Test.YtobfdenalhmecaaDoorSo
import Derived.Test.YtobfdenalhmecaaDoorKD
set_option linter.unusedSimpArgs false
set_option linter.unusedSectionVars false
set_option linter.unusedVariables false
namespace Bk
open Go Go.Proofs

theorem cmpAB : cmpE eA eB = pairT (wi 1) 0 := by
  unfold cmpE; rw [if_neg (by decide), show ord eA eB = 1 by decide]
theorem winAB : winE eA eB = pairT (.agg eB.c) 0 := by
  unfold winE; rw [if_neg (by decide), if_neg (by decide), if_pos (by decide)]

theorem pc6 : PC Tryd.prog 6 [] (wb true) := by
  refine pc_callA rfl (callA_body hT1 hmix Tryd.func6 rfl rfl (by kernel_rfl) Tryd.ntmps6 (Nat.le_of_ble_eq_true rfl) rfl ?_)
  conv => whnf
  refine callA_pc pc17 ?_
  conv => whnf
  refine callA_pc pc18 ?_
  conv => whnf
  refine callA_pc (pc7 eA eB) ?_
  rw [cmpAB]
  conv => whnf
  refine callA_pc pc17 ?_
  conv => whnf
  refine callA_pc pc18 ?_
  conv => whnf
  refine callA_pc (pc9 eA eB) ?_
  rw [winAB]
  conv => whnf
  refine callA_pc pc17 ?_
  conv => whnf
  refine callA_pc pc18 ?_
  conv => whnf
  refine callA_pc pc19 ?_
  conv => whnf
  refine callA_frz [21] ?_ pc15abc.body (d := pairT (ents [eB, eC]) 0) ?_
  · conv => whnf
    refine ⟨entO [eA, eB, eC], rfl, rfl, Nat.le_refl 3, entO_imm _, ?_⟩
    exact pc15abc
  conv => whnf
  refine callA_pc pc18 ?_
  conv => whnf
  refine callA_pc pc19 ?_
  conv => whnf
  refine callA_frz [30] ?_ pc20.body (d := .tuple [.v (.string tx2), wi 0]) ?_
  · conv => whnf
    refine ⟨entO [eB, eC], rfl, rfl, Nat.le_refl 2, entO_imm _, ?_⟩
    exact pc20
  conv => whnf
  refine cut_rule hT1 hmix [(1, wi 1), (2, wi 0), (3, .ptr 0 0), (4, wi 0), (5, ents [eB, eC]), (6, wi 0), (7, .v (.string tx2)), (8, wi 0)] 1 [(0, ⟨23, 4, [eB.c]⟩)] (by kernel_rfl) ⟨[(0, 15)], rfl, ⟨rfl, rfl, rfl, rfl, rfl, rfl, rfl, rfl, trivial⟩, ⟨_, rfl, .inl rfl⟩, trivial⟩ ?_
  conv => whnf
  refine splitB_pos (by rw [eqI_t]) ?_
  conv => whnf
  refine splitB_pos (by rw [eqI_t]) ?_
  conv => whnf
  refine splitB_pos (by rw [eqI_t]) ?_
  conv => whnf
  refine splitB_pos (by rw [eqI_t]) ?_
  conv => whnf
  refine splitB_pos (by rw [eqI_t]) ?_
  conv => whnf
  refine ⟨_, pc18, ?_⟩
  conv => whnf
  refine splitB_pos (by simp only [andB_t, eqS_t, eqB_t, eqI_t]; decide) ?_
  conv => whnf
  refine ⟨_, pc18, ?_⟩
  conv => whnf
  refine ⟨_, pc19, ?_⟩
  conv => whnf
  refine ⟨_, pc16 [eB, eC] [eB, eC] (by decide) (by decide), ?_⟩
  conv => whnf
  refine splitB_pos (by rw [eqS_t]; decide) ?_
  conv => whnf
  rfl
end Bk
