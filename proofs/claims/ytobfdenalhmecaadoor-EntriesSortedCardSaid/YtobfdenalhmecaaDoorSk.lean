/- Quote of plain text. -/
import Derived.Test.YtobfdenalhmecaaDoorSi
set_option linter.unusedSimpArgs false
set_option linter.unusedSectionVars false
set_option linter.unusedVariables false
namespace Bk
open Go Go.Proofs

def bytesL (l : List UInt8) : List (List D) := l.map fun b => [.v (.int .u8 b.toNat)]
theorem bytesL_imm (l : List UInt8) : ∀ c ∈ bytesL l, isIL c = true := by
  intro c hc
  obtain ⟨x, _, rfl⟩ := List.mem_map.1 hc
  rfl
theorem bytesL_len (l : List UInt8) : (bytesL l).length = l.length := by simp [bytesL]
theorem bytesL_app (l r : List UInt8) : bytesL l ++ bytesL r = bytesL (l ++ r) := by simp [bytesL]

def quoteP (s : ByteArray) : ByteArray := ⟨((34 : UInt8) :: (s.data.toList ++ [34])).toArray⟩

theorem pc31p (s : ByteArray) (hs : s.size < 1000000) (hp : ∀ b ∈ s.data.toList, plain b.toNat = true) : PC Tryd.prog 31 [.v (.string s)] (.v (.string (quoteP s))) := by
  refine pc_callA rfl (callA_body hT1 hmix Tryd.func31 rfl rfl (by kernel_rfl) Tryd.ntmps31 (Nat.le_of_ble_eq_true rfl) rfl ?_)
  conv => whnf
  refine ⟨0, rfl, ?_⟩
  conv => whnf
  refine ⟨s.size + 2, wrA s.size 2 (by omega) (by omega), Nat.zero_le _, by show (s.size + 2) * 1 ≤ _; omega, by omega, ?_⟩
  conv => whnf
  refine ⟨_, rfl, rfl, rfl, Nat.le_refl _, _, rfl, rfl, rfl, rfl, rfl, rfl, by decide, by decide, by decide, ?_⟩
  conv => whnf
  refine loop_rule hT1 hmix (ι := {i : Nat // i ≤ s.size}) (fun i => [(0, .v (.string s)), (3, .msl 0 1 0 (i.1 + 1)), (15, wi s.size), (16, wi i.1)]) 30 (fun i => [(0, ⟨5, 1, bytesL (34 :: s.data.toList.take i.1)⟩)]) (fun i => s.size - i.1) (by kernel_rfl) ?_
    ⟨0, Nat.zero_le _⟩ ⟨[(0, 8)], rfl, ⟨rfl, rfl, rfl, rfl, trivial⟩, ⟨_, rfl, .inr ⟨rfl, bytesL_imm _⟩⟩, trivial⟩
  intro ⟨i, hi⟩
  conv => whnf
  refine splitB_intro (fun h => ?_) (fun h => ?_) <;> (conv => whnf) <;> simp only [ltI_t, ltI_f] at h
  · have g1 : i < s.data.toList.length := by rw [bsize]; omega
    refine ⟨i, rfl, s.data.toList[i], by rw [bget]; exact List.getElem?_eq_getElem g1, ?_⟩
    conv => whnf
    refine callA_pc (pc41 _) ?_
    conv => whnf
    refine callA_pc (pc42 _) ?_
    conv => whnf
    refine iteP_pos (hp _ (List.getElem_mem g1)) ?_
    conv => whnf
    refine ⟨_, rfl, rfl, rfl, Nat.le_refl _, _, rfl, rfl, rfl, rfl, rfl, ?_, by decide, ?_, ?_, ?_⟩
    · show i + 1 = (bytesL (34 :: s.data.toList.take i)).length
      rw [bytesL_len, List.length_cons, List.length_take]; omega
    · show (i + 1 + 1) * 1 ≤ _; omega
    · show i + 1 + 1 ≤ _; omega
    conv => whnf
    refine ⟨⟨i + 1, by omega⟩, by show s.size - (i + 1) < s.size - i; omega, [(0, 46)], rfl, ⟨rfl, rfl, rfl, ?_, trivial⟩, ⟨_, rfl, .inr ⟨?_, bytesL_imm _⟩⟩, trivial⟩
    · show D.v (Value.int .i64 (wr .i64 ((i : Int) + 1))) = _
      rw [wrSucc _ (by omega)]; rfl
    · show (⟨5, 1, bytesL (34 :: s.data.toList.take i) ++ bytesL [s.data.toList[i]]⟩ : AObj) = ⟨5, 1, bytesL (34 :: s.data.toList.take (i + 1))⟩
      rw [bytesL_app, List.take_succ_eq_append_getElem g1]; rfl
  · have e : i = s.size := by omega
    subst e
    refine ⟨_, rfl, rfl, rfl, Nat.le_refl _, _, rfl, rfl, rfl, rfl, rfl, ?_, by decide, ?_, ?_, ?_⟩
    · show s.size + 1 = (bytesL (34 :: s.data.toList.take s.size)).length
      rw [bytesL_len, List.length_cons, List.length_take, bsize]; omega
    · show (s.size + 1 + 1) * 1 ≤ _; omega
    · show s.size + 1 + 1 ≤ _; omega
    conv => whnf
    refine ⟨_, rfl, rfl, rfl, ?_, quoteP s, ?_, ?_⟩
    · show 0 + (s.size + 1 + 1) ≤ (bytesL (34 :: s.data.toList.take s.size) ++ bytesL [34]).length
      rw [bytesL_app, bytesL_len, List.length_append, List.length_cons, List.length_take, bsize, List.length_singleton]; omega
    · show ((bytesL (34 :: s.data.toList.take s.size) ++ bytesL [34]).drop 0).take (s.size + 1 + 1) = bytesD (quoteP s)
      rw [List.drop_zero, bytesL_app, List.take_of_length_le (by rw [bytesL_len, List.length_append, List.length_cons, List.length_take, bsize, List.length_singleton]; omega)]
      have e2 : s.data.toList.take s.size = s.data.toList := List.take_of_length_le (by rw [bsize]; omega)
      rw [e2]; rfl
    conv => whnf
    rfl
end Bk
