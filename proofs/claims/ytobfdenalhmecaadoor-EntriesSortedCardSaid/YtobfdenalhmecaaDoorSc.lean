/- The document's order. -/
import Derived.Test.YtobfdenalhmecaaDoorSb
set_option linter.unusedSimpArgs false
set_option linter.unusedSectionVars false
set_option linter.unusedVariables false
namespace Bk
open Go Go.Proofs

theorem bget (s : ByteArray) (i : Nat) : s[i]? = s.data.toList[i]? := by
  rw [Array.getElem?_toList]
  by_cases h : i < s.size
  · rw [getElem?_pos s i h, getElem?_pos s.data i h]; rfl
  · rw [getElem?_neg s i h, getElem?_neg s.data i h]
theorem bsize (s : ByteArray) : s.data.toList.length = s.size := rfl

/-- how many bytes two strings have in common at their begin -/
def com : List UInt8 → List UInt8 → Nat
  | a :: aa, b :: bs => if a = b then com aa bs + 1 else 0
  | _, _ => 0
theorem com_le : ∀ (a b : List UInt8), com a b ≤ a.length ∧ com a b ≤ b.length
  | [], _ => by simp [com]
  | _ :: _, [] => by simp [com]
  | a :: aa, b :: bs => by
    have := com_le aa bs
    simp only [com]
    split <;> simp <;> omega
theorem com_of : ∀ (i : Nat) (a b : List UInt8), i ≤ a.length → i ≤ b.length → (∀ j, j < i → a[j]? = b[j]?) → (i = a.length ∨ i = b.length ∨ a[i]? ≠ b[i]?) → com a b = i
  | 0, [], _, _, _, _, _ => by simp [com]
  | 0, _ :: _, [], _, _, _, _ => by simp [com]
  | 0, a :: aa, b :: bs, _, _, _, h => by
    simp at h; simp [com, h]
  | i + 1, [], _, h, _, _, _ => by simp at h
  | i + 1, _ :: _, [], _, h, _, _ => by simp at h
  | i + 1, a :: aa, b :: bs, h1, h2, h3, h4 => by
    have e := h3 0 (by omega)
    simp at e
    have := com_of i aa bs (by simpa using h1) (by simpa using h2) (fun j hj => by have := h3 (j + 1) (by omega); simpa using this) (by simpa using h4)
    simp [com, e, this]

open Classical in
theorem cmp_com : ∀ (a b : List UInt8), Lib.compareBytes a b = if com a b = a.length ∧ com a b = b.length then 0 else if com a b = a.length ∨ (∃ x y, a[com a b]? = some x ∧ b[com a b]? = some y ∧ (x.toNat : Int) < y.toNat) then -1 else 1
  | [], [] => by simp [Lib.compareBytes, com]
  | [], b :: bs => by simp [Lib.compareBytes, com]
  | a :: aa, [] => by simp [Lib.compareBytes, com]
  | a :: aa, b :: bs => by
    have ih := cmp_com aa bs
    simp only [Lib.compareBytes, com]
    by_cases h : a = b
    · subst h
      have hl : ¬ a < a := UInt8.lt_irrefl a
      simp only [hl, if_false, if_true, List.length_cons, Nat.add_right_cancel_iff, List.getElem?_cons_succ]
      exact ih
    · simp only [h, if_false, List.length_cons, List.getElem?_cons_zero]
      have h1 : ¬ (0 = aa.length + 1) := by omega
      have h2 : ¬ (0 = bs.length + 1) := by omega
      simp only [h1, h2, false_and, if_false, false_or]
      have h3 : (∃ x y, some a = some x ∧ some b = some y ∧ (x.toNat : Int) < y.toNat) ↔ a < b := by
        constructor
        · rintro ⟨x, y, hx, hy, hxy⟩
          cases hx; cases hy
          rw [UInt8.lt_iff_toNat_lt]; omega
        · intro hab
          refine ⟨a, b, rfl, rfl, ?_⟩
          rw [UInt8.lt_iff_toNat_lt] at hab; omega
      by_cases h4 : a < b
      · rw [if_pos h4, if_pos (h3.2 h4)]
      · rw [if_neg h4, if_neg (fun h => h4 (h3.1 h))]
        have : b < a := by
          rw [UInt8.lt_iff_toNat_lt] at h4 ⊢
          have : a.toNat ≠ b.toNat := fun he => h (UInt8.toNat_inj.1 he)
          omega
        rw [if_pos this]

def comS (a b : ByteArray) : Nat := com a.data.toList b.data.toList

theorem pc46 (a b : ByteArray) (ha : a.size < 1000000) (hb : b.size < 1000000) : PC Tryd.prog 46 [.v (.string a), .v (.string b)] (wi (comS a b)) := by
  refine pc_callA rfl (callA_body hT1 hmix Tryd.func46 rfl rfl (by kernel_rfl) Tryd.ntmps46 (Nat.le_of_ble_eq_true rfl) rfl ?_)
  conv => whnf
  refine loop_rule hT1 hmix (ι := {i : Nat // i ≤ a.size ∧ i ≤ b.size ∧ ∀ j, j < i → a.data.toList[j]? = b.data.toList[j]?}) (fun i => [(0, .v (.string a)), (1, .v (.string b)), (5, wi i.1)]) 2 (fun _ => []) (fun i => a.size - i.1) (by kernel_rfl) ?_ ⟨0, by omega, by omega, by omega⟩ ⟨[], rfl, ⟨rfl, rfl, rfl, trivial⟩, trivial⟩
  intro ⟨i, h1, h2, h3⟩
  conv => whnf
  refine splitB_intro (fun h => ?_) (fun h => ?_) <;> (conv => whnf)
  · refine splitB_intro (fun h' => ?_) (fun h' => ?_) <;> (conv => whnf)
    · simp only [ltI_t, ltI_f] at h h'
      have g1 : i < a.size := by omega
      have g2 : i < b.size := by omega
      refine ⟨i, rfl, a.data.toList[i]'(by rw [bsize]; exact g1), by rw [bget]; exact List.getElem?_eq_getElem _, ?_⟩
      conv => whnf
      refine ⟨i, rfl, b.data.toList[i]'(by rw [bsize]; exact g2), by rw [bget]; exact List.getElem?_eq_getElem _, ?_⟩
      conv => whnf
      refine splitB_intro (fun h4 => ?_) (fun h4 => ?_) <;> (conv => whnf)
      · simp only [eqI_t, eqI_f] at h4
        have h5 : a.data.toList[i]? = b.data.toList[i]? := by
          rw [List.getElem?_eq_getElem (by rw [bsize]; exact g1), List.getElem?_eq_getElem (by rw [bsize]; exact g2)]
          congr 1
          exact UInt8.toNat_inj.1 (by omega)
        refine ⟨⟨i + 1, by omega, by omega, fun j hj => ?_⟩, ?_, [], rfl, ⟨rfl, rfl, ?_, trivial⟩, trivial⟩
        · rcases Nat.lt_succ_iff_lt_or_eq.1 hj with h6 | h6
          · exact h3 j h6
          · rw [h6]; exact h5
        · show a.size - (i + 1) < a.size - i; omega
        · show D.v (Value.int .i64 (wr .i64 ((i : Int) + 1))) = _
          rw [wr64 _ (by omega) (by omega)]; rfl
      · simp only [eqI_t, eqI_f] at h4
        have : comS a b = i := com_of i _ _ (by rw [bsize]; exact h1) (by rw [bsize]; exact h2) h3 (Or.inr (Or.inr (by
          rw [List.getElem?_eq_getElem (by rw [bsize]; exact g1), List.getElem?_eq_getElem (by rw [bsize]; exact g2)]
          intro he
          exact h4 (by rw [Option.some.inj he]))))
        rw [this]; rfl
    · simp only [ltI_t, ltI_f] at h h'
      have : comS a b = i := com_of i _ _ (by rw [bsize]; exact h1) (by rw [bsize]; exact h2) h3 (.inr (.inl (by rw [bsize]; omega)))
      rw [this]; rfl
  · simp only [ltI_t, ltI_f] at h
    have : comS a b = i := com_of i _ _ (by rw [bsize]; exact h1) (by rw [bsize]; exact h2) h3 (.inl (by rw [bsize]; omega))
    rw [this]; rfl

theorem pc38 (a b : ByteArray) (ha : a.size < 1000000) (hb : b.size < 1000000) : PC Tryd.prog 38 [.v (.string a), .v (.string b)] (wi (cmpS a b)) := by
  refine pc_callA rfl (callA_body hT1 hmix Tryd.func38 rfl rfl (by kernel_rfl) Tryd.ntmps38 (Nat.le_of_ble_eq_true rfl) rfl ?_)
  conv => whnf
  refine callA_pc (pc46 a b ha hb) ?_
  conv => whnf
  have hc := cmp_com a.data.toList b.data.toList
  have hl := com_le a.data.toList b.data.toList
  simp only [bsize] at hc hl
  have e : com a.data.toList b.data.toList = comS a b := rfl
  rw [e] at hc hl
  have fin : ∀ z, z = cmpS a b → wi z = wi (cmpS a b) := fun z hz => by rw [hz]
  refine splitB_intro (fun h1 => ?_) (fun h1 => ?_) <;> (conv => whnf) <;> simp only [eqI_t, eqI_f] at h1
  · refine splitB_intro (fun h2 => ?_) (fun h2 => ?_) <;> (conv => whnf) <;> simp only [eqI_t, eqI_f] at h2
    · refine fin 0 ?_
      unfold cmpS; rw [hc, if_pos ⟨by omega, by omega⟩]
    · refine splitB_pos (by simp only [eqI_t]; exact h1) ?_
      conv => whnf
      refine fin (-1) ?_
      unfold cmpS; rw [hc, if_neg (by omega), if_pos (Or.inl (by omega))]
  · refine splitB_neg (by simp only [eqI_f]; exact h1) ?_
    conv => whnf
    refine splitB_intro (fun h2 => ?_) (fun h2 => ?_) <;> (conv => whnf) <;> simp only [ltI_t, ltI_f] at h2
    · have g1 : comS a b < a.size := by omega
      have g2 : comS a b < b.size := by omega
      have ga := List.getElem?_eq_getElem (l := a.data.toList) (i := comS a b) (by rw [bsize]; exact g1)
      have gb := List.getElem?_eq_getElem (l := b.data.toList) (i := comS a b) (by rw [bsize]; exact g2)
      refine ⟨comS a b, rfl, _, by rw [bget]; exact ga, ?_⟩
      conv => whnf
      refine ⟨comS a b, rfl, _, by rw [bget]; exact gb, ?_⟩
      conv => whnf
      refine splitB_intro (fun h4 => ?_) (fun h4 => ?_) <;> (conv => whnf) <;> simp only [ltI_t, ltI_f] at h4
      · refine fin (-1) ?_
        unfold cmpS; rw [hc, if_neg (by omega), if_pos (Or.inr ⟨_, _, ga, gb, h4⟩)]
      · refine fin 1 ?_
        unfold cmpS; rw [hc, if_neg (by omega), if_neg]
        rintro (h5 | ⟨x, y, hx, hy, hxy⟩)
        · omega
        · rw [ga] at hx; rw [gb] at hy
          cases hx; cases hy
          exact absurd hxy (by omega)
    · refine fin 1 ?_
      unfold cmpS; rw [hc, if_neg (by omega), if_neg]
      rintro (h5 | ⟨x, y, hx, hy, hxy⟩)
      · omega
      · have : ¬ comS a b < b.size := by omega
        rw [List.getElem?_eq_none (by rw [bsize]; omega)] at hy; cases hy

end Bk
