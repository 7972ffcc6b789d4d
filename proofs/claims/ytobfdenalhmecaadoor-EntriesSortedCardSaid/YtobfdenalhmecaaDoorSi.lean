/- Words. -/
import Derived.Test.YtobfdenalhmecaaDoorSh
set_option linter.unusedSimpArgs false
set_option linter.unusedSectionVars false
set_option linter.unusedVariables false
namespace Bk
open Go Go.Proofs

def w8 (a : Int) : D := .v (.int .u8 a)

def plain (c : Int) : Bool := decide (32 ≤ c ∧ c ≤ 126 ∧ c ≠ 34 ∧ c ≠ 92)
theorem pc42 (c : Int) : PC Tryd.prog 42 [w8 c] (wb (plain c)) := by
  refine pc_callA rfl (callA_body hT1 hmix Tryd.func42 rfl rfl (by kernel_rfl) Tryd.ntmps42 (Nat.le_of_ble_eq_true rfl) rfl ?_)
  conv => whnf
  all_goals repeat' (refine splitB_intro (fun _ => ?_) (fun _ => ?_) <;> (conv => whnf))
  all_goals (simp only [leI_t, leI_f, eqI_t, eqI_f] at *; show wb _ = wb _; congr 1; simp only [plain, notB_eq]; grind)

def letter (c : Int) : Int := if c = 34 then 34 else if c = 92 then 92 else if c = 10 then 110 else if c = 13 then 114 else if c = 9 then 116 else 0
theorem pc41 (c : Int) : PC Tryd.prog 41 [w8 c] (w8 (letter c)) := by
  refine pc_callA rfl (callA_body hT1 hmix Tryd.func41 rfl rfl (by kernel_rfl) Tryd.ntmps41 (Nat.le_of_ble_eq_true rfl) rfl ?_)
  conv => whnf
  refine loop_rule hT1 hmix (ι := {i : Nat // i ≤ 5 ∧ (1 ≤ i → c ≠ 34) ∧ (2 ≤ i → c ≠ 92) ∧ (3 ≤ i → c ≠ 10) ∧ (4 ≤ i → c ≠ 13) ∧ (5 ≤ i → c ≠ 9)}) (fun i => [(0, w8 c), (5, .agg (escL.map .v)), (6, wi i.1)]) 5 (fun _ => []) (fun i => 5 - i.1) (by kernel_rfl) ?_ ⟨0, by omega, by omega, by omega, by omega, by omega, by omega⟩ ⟨[], rfl, ⟨rfl, rfl, rfl, trivial⟩, trivial⟩
  intro ⟨i, h0, h1, h2, h3, h4, h5⟩
  have out : ∀ j : Nat, j < 5 → ∀ a : Int, wr .i64 ((j : Int) + 1) = ((j + 1 : Nat) : Int) := fun j hj a => wrSucc j (by omega)
  match i, h0, h1, h2, h3, h4, h5 with
  | 0, _, h1, h2, h3, h4, h5 =>
    conv => whnf
    refine splitB_pos (by rw [ltI_t]; show ((0 : Nat) : Int) < 5; omega) ?_
    conv => whnf
    refine ⟨0, rfl, by decide, ?_⟩
    conv => whnf
    refine splitB_intro (fun h => ?_) (fun h => ?_) <;> (conv => whnf) <;> simp only [eqI_t, eqI_f] at h
    · subst h; rfl
    · exact ⟨⟨1, by omega, by omega, by omega, by omega, by omega, by omega⟩, by show 5 - 1 < 5 - 0; omega, [], rfl, ⟨rfl, rfl, by show D.v (.int .i64 (wr .i64 (((0 : Nat) : Int) + 1))) = _; rw [wrSucc 0 (by omega)]; rfl, trivial⟩, trivial⟩
  | 1, _, h1, h2, h3, h4, h5 =>
    conv => whnf
    refine splitB_pos (by rw [ltI_t]; show ((1 : Nat) : Int) < 5; omega) ?_
    conv => whnf
    refine ⟨1, rfl, by decide, ?_⟩
    conv => whnf
    refine splitB_intro (fun h => ?_) (fun h => ?_) <;> (conv => whnf) <;> simp only [eqI_t, eqI_f] at h
    · subst h; rfl
    · exact ⟨⟨2, by omega, by omega, by omega, by omega, by omega, by omega⟩, by show 5 - 2 < 5 - 1; omega, [], rfl, ⟨rfl, rfl, by show D.v (.int .i64 (wr .i64 (((1 : Nat) : Int) + 1))) = _; rw [wrSucc 1 (by omega)]; rfl, trivial⟩, trivial⟩
  | 2, _, h1, h2, h3, h4, h5 =>
    conv => whnf
    refine splitB_pos (by rw [ltI_t]; show ((2 : Nat) : Int) < 5; omega) ?_
    conv => whnf
    refine ⟨2, rfl, by decide, ?_⟩
    conv => whnf
    refine splitB_intro (fun h => ?_) (fun h => ?_) <;> (conv => whnf) <;> simp only [eqI_t, eqI_f] at h
    · subst h; rfl
    · exact ⟨⟨3, by omega, by omega, by omega, by omega, by omega, by omega⟩, by show 5 - 3 < 5 - 2; omega, [], rfl, ⟨rfl, rfl, by show D.v (.int .i64 (wr .i64 (((2 : Nat) : Int) + 1))) = _; rw [wrSucc 2 (by omega)]; rfl, trivial⟩, trivial⟩
  | 3, _, h1, h2, h3, h4, h5 =>
    conv => whnf
    refine splitB_pos (by rw [ltI_t]; show ((3 : Nat) : Int) < 5; omega) ?_
    conv => whnf
    refine ⟨3, rfl, by decide, ?_⟩
    conv => whnf
    refine splitB_intro (fun h => ?_) (fun h => ?_) <;> (conv => whnf) <;> simp only [eqI_t, eqI_f] at h
    · subst h; rfl
    · exact ⟨⟨4, by omega, by omega, by omega, by omega, by omega, by omega⟩, by show 5 - 4 < 5 - 3; omega, [], rfl, ⟨rfl, rfl, by show D.v (.int .i64 (wr .i64 (((3 : Nat) : Int) + 1))) = _; rw [wrSucc 3 (by omega)]; rfl, trivial⟩, trivial⟩
  | 4, _, h1, h2, h3, h4, h5 =>
    conv => whnf
    refine splitB_pos (by rw [ltI_t]; show ((4 : Nat) : Int) < 5; omega) ?_
    conv => whnf
    refine ⟨4, rfl, by decide, ?_⟩
    conv => whnf
    refine splitB_intro (fun h => ?_) (fun h => ?_) <;> (conv => whnf) <;> simp only [eqI_t, eqI_f] at h
    · subst h; rfl
    · exact ⟨⟨5, by omega, by omega, by omega, by omega, by omega, by omega⟩, by show 5 - 5 < 5 - 4; omega, [], rfl, ⟨rfl, rfl, by show D.v (.int .i64 (wr .i64 (((4 : Nat) : Int) + 1))) = _; rw [wrSucc 4 (by omega)]; rfl, trivial⟩, trivial⟩
  | 5, _, h1, h2, h3, h4, h5 =>
    conv => whnf
    refine splitB_neg (by rw [ltI_f]; show (5 : Int) ≤ ((5 : Nat) : Int); omega) ?_
    conv => whnf
    have : letter c = 0 := by unfold letter; rw [if_neg (h1 (by omega)), if_neg (h2 (by omega)), if_neg (h3 (by omega)), if_neg (h4 (by omega)), if_neg (h5 (by omega))]
    rw [this]; rfl
  | i + 6, h0, _, _, _, _, _ => omega
end Bk
