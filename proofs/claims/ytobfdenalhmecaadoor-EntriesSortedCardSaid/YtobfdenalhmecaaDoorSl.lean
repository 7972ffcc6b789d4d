/- Digits of one digit. -/
import Derived.Test.YtobfdenalhmecaaDoorSk
set_option linter.unusedSimpArgs false
set_option linter.unusedSectionVars false
set_option linter.unusedVariables false
namespace Bk
open Go Go.Proofs

def dig (n : Nat) : ByteArray := ⟨#[UInt8.ofNat (48 + n)]⟩

theorem pc53 (n : Nat) (hn : n < 10) : PC Tryd.prog 53 [wi n] (.v (.string (dig n))) := by
  refine pc_callA rfl (callA_body hT1 hmix Tryd.func53 rfl rfl (by kernel_rfl) Tryd.ntmps53 (Nat.le_of_ble_eq_true rfl) rfl ?_)
  conv => whnf
  refine splitB_pos (by rw [ltI_t]; show (n : Int) < 10; omega) ?_
  conv => whnf
  refine ⟨n, rfl, ?_⟩
  conv => whnf
  refine ⟨n + 1, wrSucc n (by omega), ?_⟩
  conv => whnf
  refine ⟨by show n ≤ n + 1; omega, by show n + 1 ≤ 36; omega, ?_⟩
  conv => whnf
  show D.v (.string _) = D.v (.string _)
  congr 2
  rw [cutS_eq]
  match n, hn with
  | 0, _ => decide
  | 1, _ => decide
  | 2, _ => decide
  | 3, _ => decide
  | 4, _ => decide
  | 5, _ => decide
  | 6, _ => decide
  | 7, _ => decide
  | 8, _ => decide
  | 9, _ => decide
  | n + 10, h => omega

theorem pc50s (n : Nat) (hn : n < 10) : PC Tryd.prog 50 [wi n, wi 10] (.v (.string (dig n))) := by
  refine pc_callA rfl (callA_body hT1 hmix Tryd.func50 rfl rfl (by kernel_rfl) Tryd.ntmps50 (Nat.le_of_ble_eq_true rfl) rfl ?_)
  conv => whnf
  refine splitB_pos (by rw [eqI_t]) ?_
  conv => whnf
  refine splitB_pos (by rw [leI_t]; show (0 : Int) ≤ n; omega) ?_
  conv => whnf
  refine splitB_pos (by rw [ltI_t]; show (n : Int) < 100; omega) ?_
  conv => whnf
  refine callA_pc (pc53 n hn) ?_
  conv => whnf
  rfl
theorem pc43s (n : Nat) (hn : n < 10) : PC Tryd.prog 43 [wi n, wi 10] (.v (.string (dig n))) := by
  refine pc_callA rfl (callA_body hT1 hmix Tryd.func43 rfl rfl (by kernel_rfl) Tryd.ntmps43 (Nat.le_of_ble_eq_true rfl) rfl ?_)
  conv => whnf
  refine callA_pc (pc50s n hn) ?_
  conv => whnf
  rfl
theorem pc32s (n : Nat) (hn : n < 10) : PC Tryd.prog 32 [wi n] (.v (.string (dig n))) := by
  refine pc_callA rfl (callA_body hT1 hmix Tryd.func32 rfl rfl (by kernel_rfl) Tryd.ntmps32 (Nat.le_of_ble_eq_true rfl) rfl ?_)
  conv => whnf
  refine callA_pc (pc43s n hn) ?_
  conv => whnf
  rfl
end Bk
