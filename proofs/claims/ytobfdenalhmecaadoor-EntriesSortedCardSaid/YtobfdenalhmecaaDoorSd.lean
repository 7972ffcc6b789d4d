/- Pairs of entries; lists of entries. -/
import Derived.Test.YtobfdenalhmecaaDoorSc
set_option linter.unusedSimpArgs false
set_option linter.unusedSectionVars false
set_option linter.unusedVariables false
namespace Bk
open Go Go.Proofs

theorem pc24 (x y : Ent) (hx : x.k.size < 1000000) (hy : y.k.size < 1000000) : PC Tryd.prog 24 [.agg x.c, .agg y.c] (wi (ord x y)) := by
  refine pc_callA rfl (callA_body hT1 hmix Tryd.func24 rfl rfl (by kernel_rfl) Tryd.ntmps24 (Nat.le_of_ble_eq_true rfl) rfl ?_)
  conv => whnf
  refine callA_pc (pc38 x.k y.k hx hy) ?_
  conv => whnf
  all_goals repeat' (refine splitB_intro (fun _ => ?_) (fun _ => ?_) <;> (conv => whnf))
  all_goals (simp only [ltI_t, ltI_f, eqI_t, eqI_f] at *; show wi _ = wi _; congr 1; simp only [ord, sgn]; grind)

def pairT (a : D) (e : Int) : D := .tuple [a, wi e]

/-- what two entries compare as -/
def cmpE (x y : Ent) : D := if (if chk x = 0 then chk y else chk x) ≠ 0 then pairT (wi 0) (if chk x = 0 then chk y else chk x) else pairT (wi (ord x y)) 0

theorem pc8 (x y : Ent) (hx : x.k.size < 1000000) (hy : y.k.size < 1000000) : PC Tryd.prog 8 [.agg x.c, .agg y.c] (cmpE x y) := by
  refine pc_callA rfl (callA_body hT1 hmix Tryd.func8 rfl rfl (by kernel_rfl) Tryd.ntmps8 (Nat.le_of_ble_eq_true rfl) rfl ?_)
  conv => whnf
  refine callA_pc (pc23 x y) ?_
  conv => whnf
  refine splitB_intro (fun h => ?_) (fun h => ?_) <;> (conv => whnf) <;> simp only [eqI_t, eqI_f] at h
  · refine callA_pc (pc24 x y hx hy) ?_
    conv => whnf
    unfold cmpE; rw [if_neg (by rw [h]; decide)]; rfl
  · unfold cmpE; rw [if_pos h]; rfl

def ents (l : List Ent) : D := .sl 4 (l.map Ent.c)
def chkAll (l : List Ent) : Int := orI (l.map chk)

theorem ents_get {l : List Ent} {i : Nat} (h : i < l.length) : (l.map Ent.c)[i]? = some l[i].c := by simp [h]

theorem pc21 (l : List Ent) (hl : l.length < 1000000) : PC Tryd.prog 21 [ents l] (wi (chkAll l)) := by
  refine pc_callA rfl (callA_body hT1 hmix Tryd.func21 rfl rfl (by kernel_rfl) Tryd.ntmps21 (Nat.le_of_ble_eq_true rfl) rfl ?_)
  conv => whnf
  have step : ∀ i (h : i < l.length), orI ((l.map chk).drop i) = if chk l[i] ≠ 0 then chk l[i] else orI ((l.map chk).drop (i + 1)) := by
    intro i h
    rw [orI_drop (by simp [h])]; simp
  refine loop_rule hT1 hmix (ι := {i : Nat // i ≤ l.length ∧ chkAll l = orI ((l.map chk).drop i)}) (fun i => [(6, ents l), (7, wi l.length), (8, wi i.1)]) 5 (fun _ => []) (fun i => l.length - i.1) (by kernel_rfl) ?_ ⟨0, Nat.zero_le _, rfl⟩ ⟨[], rfl, ⟨rfl, ?_, rfl, trivial⟩, trivial⟩
  · intro ⟨i, hi, ho⟩
    conv => whnf
    refine splitB_intro (fun h => ?_) (fun h => ?_) <;> (conv => whnf)
    · simp only [ltI_t] at h
      have hi' : i < l.length := by omega
      refine ⟨i, l[i].c, rfl, ents_get hi', rfl, ?_⟩
      conv => whnf
      refine callA_pc (pc11 l[i]) ?_
      conv => whnf
      have ho' := step i hi'
      refine splitB_intro (fun h => ?_) (fun h => ?_) <;> (conv => whnf) <;> simp only [eqI_t, eqI_f] at h
      · refine ⟨⟨i + 1, by omega, by rw [ho, ho', if_neg (by simpa using h)]⟩, ?_, [], rfl, ⟨rfl, rfl, ?_, trivial⟩, trivial⟩
        · show l.length - (i + 1) < l.length - i; omega
        · show D.v (Value.int .i64 (wr .i64 ((i : Int) + 1))) = _
          rw [wr64 _ (by omega) (by omega)]; rfl
      · rw [ho, ho', if_pos h]; rfl
    · simp only [ltI_f] at h
      have hi' : l.length ≤ i := by omega
      rw [ho, List.drop_eq_nil_of_le (by simpa using hi')]; rfl
  · show D.v (Value.int .i64 ((l.map Ent.c).length : Nat)) = _
    rw [List.length_map]; rfl

theorem chkAll2 (x y : Ent) : chkAll [x, y] = if chk x = 0 then chk y else chk x := by
  simp only [chkAll, List.map, orI]; grind

theorem pc7 (x y : Ent) : PC Tryd.prog 7 [.agg x.c, .agg y.c] (cmpE x y) := by
  refine pc_callA rfl (callA_body hT1 hmix Tryd.func7 rfl rfl (by kernel_rfl) Tryd.ntmps7 (Nat.le_of_ble_eq_true rfl) rfl ?_)
  conv => whnf
  refine callA_thaw (d := wi (chkAll [x, y])) ?_ rfl (pc21 [x, y] (by simp)).body ?_
  · conv => whnf
    refine ⟨_, rfl, rfl, Nat.le_refl _, by simp [isIL, isI], ?_⟩
    exact pc21 [x, y] (by simp)
  · conv => whnf
    rw [chkAll2]
    refine splitB_intro (fun h => ?_) (fun h => ?_) <;> (conv => whnf) <;> simp only [eqI_t, eqI_f] at h
    · refine callA_pc (pc22 x y) ?_
      conv => whnf
      unfold cmpE; rw [if_neg (by rw [h]; decide)]; rfl
    · unfold cmpE; rw [if_pos h]; rfl

def noEnt : Ent := ⟨⟨#[]⟩, ⟨#[]⟩, false, 0⟩
/-- which of two entries wins -/
def winE (x y : Ent) : D := if (if chk x = 0 then chk y else chk x) ≠ 0 then pairT (.agg noEnt.c) (if chk x = 0 then chk y else chk x) else if x.k ≠ y.k then pairT (.agg noEnt.c) 6 else if x.seq < y.seq then pairT (.agg y.c) 0 else pairT (.agg x.c) 0

theorem pc9 (x y : Ent) : PC Tryd.prog 9 [.agg x.c, .agg y.c] (winE x y) := by
  refine pc_callA rfl (callA_body hT1 hmix Tryd.func9 rfl rfl (by kernel_rfl) Tryd.ntmps9 (Nat.le_of_ble_eq_true rfl) rfl ?_)
  conv => whnf
  refine callA_thaw (d := wi (chkAll [x, y])) ?_ rfl (pc21 [x, y] (by simp)).body ?_
  · conv => whnf
    refine ⟨_, rfl, rfl, Nat.le_refl _, by simp [isIL, isI], ?_⟩
    exact pc21 [x, y] (by simp)
  · conv => whnf
    rw [chkAll2]
    all_goals repeat' (refine splitB_intro (fun _ => ?_) (fun _ => ?_) <;> (conv => whnf))
    all_goals (simp only [ltI_t, ltI_f, eqI_t, eqI_f, eqS_t, eqS_f] at *; simp only [winE])
    · rename_i h1 h2 h3
      rw [if_neg (by simpa using h1), if_neg (by simpa using h2), if_pos h3]; rfl
    · rename_i h1 h2 h3
      rw [if_neg (by simpa using h1), if_neg (by simpa using h2), if_neg (by omega)]; rfl
    · rename_i h1 h2
      rw [if_neg (by simpa using h1), if_pos h2]; rfl
    · rename_i h1
      rw [if_pos h1]; rfl

theorem pc10 (x y : Ent) : PC Tryd.prog 10 [.agg x.c, .agg y.c] (winE x y) := by
  refine pc_callA rfl (callA_body hT1 hmix Tryd.func10 rfl rfl (by kernel_rfl) Tryd.ntmps10 (Nat.le_of_ble_eq_true rfl) rfl ?_)
  conv => whnf
  refine callA_pc (pc23 x y) ?_
  conv => whnf
  all_goals repeat' (refine splitB_intro (fun _ => ?_) (fun _ => ?_) <;> (conv => whnf))
  all_goals (simp only [ltI_t, ltI_f, eqI_t, eqI_f, eqS_t, eqS_f] at *; simp only [winE])
  all_goals first | (exfalso; omega) | (exfalso; contradiction) | (show pairT (.agg y.c) 0 = _; grind) | (show pairT (.agg x.c) 0 = _; grind) | (show pairT (.agg noEnt.c) _ = _; grind)

theorem Ent.ext' {x y : Ent} (h : x.c = y.c) : x = y := by
  obtain ⟨a, b, c, d⟩ := x
  obtain ⟨a', b', c', d'⟩ := y
  simp only [Ent.c, List.cons.injEq, D.v.injEq, Value.string.injEq, Value.bool.injEq, Value.int.injEq, and_true, true_and] at h
  obtain ⟨rfl, rfl, rfl, rfl⟩ := h
  rfl

def eqE (x y : Ent) : Bool := andB (eqS x.k y.k) (andB (eqS x.v y.v) (andB (eqB x.dead y.dead) (andB (eqI x.seq y.seq) true)))
theorem eqE_t {x y : Ent} : (eqE x y = true) = (x = y) := by
  obtain ⟨a, b, c, d⟩ := x
  obtain ⟨a', b', c', d'⟩ := y
  simp only [eqE, andB_t, eqS_t, eqB_t, eqI_t, Ent.mk.injEq, and_true]
theorem eqE_f {x y : Ent} : (eqE x y = false) = (x ≠ y) := by
  have := @eqE_t x y
  cases h : eqE x y <;> simp [h] at this ⊢ <;> exact this

theorem pc16 (l r : List Ent) (hl : l.length < 1000000) (hr : r.length < 1000000) : PC Tryd.prog 16 [ents l, ents r] (wb (decide (l = r))) := by
  refine pc_callA rfl (callA_body hT1 hmix Tryd.func16 rfl rfl (by kernel_rfl) Tryd.ntmps16 (Nat.le_of_ble_eq_true rfl) rfl ?_)
  conv => whnf
  refine splitB_intro (fun h => ?_) (fun h => ?_) <;> (conv => whnf) <;> simp only [eqI_t, eqI_f, List.length_map] at h
  · have hlr : l.length = r.length := by omega
    refine loop_rule hT1 hmix (ι := {i : Nat // i ≤ l.length ∧ ∀ j, j < i → l[j]? = r[j]?}) (fun i => [(0, ents l), (1, ents r), (5, wi i.1)]) 5 (fun _ => []) (fun i => l.length - i.1) (by kernel_rfl) ?_ ⟨0, Nat.zero_le _, by omega⟩ ⟨[], rfl, ⟨rfl, rfl, rfl, trivial⟩, trivial⟩
    intro ⟨i, hi, ho⟩
    conv => whnf
    refine splitB_intro (fun h => ?_) (fun h => ?_) <;> (conv => whnf) <;> simp only [ltI_t, ltI_f, List.length_map] at h
    · have g1 : i < l.length := by omega
      have g2 : i < r.length := by omega
      refine ⟨i, l[i].c, rfl, ents_get g1, rfl, ?_⟩
      conv => whnf
      refine ⟨i, r[i].c, rfl, ents_get g2, rfl, ?_⟩
      conv => whnf
      refine (show splitB (eqE l[i] r[i]) _ → splitB (eqE l[i] r[i]) _ from fun h => h) ?_
      refine splitB_intro (fun h => ?_) (fun h => ?_) <;> (conv => whnf) <;> simp only [eqE_t, eqE_f] at h
      · refine ⟨⟨i + 1, by omega, fun j hj => ?_⟩, ?_, [], rfl, ⟨rfl, rfl, ?_, trivial⟩, trivial⟩
        · rcases Nat.lt_succ_iff_lt_or_eq.1 hj with h6 | h6
          · exact ho j h6
          · rw [h6, List.getElem?_eq_getElem g1, List.getElem?_eq_getElem g2, h]
        · show l.length - (i + 1) < l.length - i; omega
        · show D.v (Value.int .i64 (wr .i64 ((i : Int) + 1))) = _
          rw [wr64 _ (by omega) (by omega)]; rfl
      · rw [decide_eq_false]; rfl
        intro he; subst he; exact h rfl
    · rw [decide_eq_true]; rfl
      apply List.ext_getElem?
      intro j
      by_cases hj : j < i
      · exact ho j hj
      · rw [List.getElem?_eq_none (by omega), List.getElem?_eq_none (by omega)]
  · rw [decide_eq_false]; rfl
    intro he; subst he; exact h rfl

theorem pc13 (l : List Ent) : PC Tryd.prog 13 [ents l] (wb (if 60 < l.length then decide (l.length ≤ 5000 ∨ 5010 < l.length) else l.any fun x => decide (100 < (x.k.size : Int) ∨ 100 < (x.v.size : Int)))) := by
  refine pc_callA rfl (callA_body hT1 hmix Tryd.func13 rfl rfl (by kernel_rfl) Tryd.ntmps13 (Nat.le_of_ble_eq_true rfl) rfl ?_)
  conv => whnf
  refine splitB_intro (fun h => ?_) (fun h => ?_) <;> (conv => whnf) <;> simp only [ltI_t, ltI_f, List.length_map] at h
  · rw [if_pos (by omega)]
    refine splitB_intro (fun h => ?_) (fun h => ?_) <;> (conv => whnf) <;> simp only [leI_t, leI_f, List.length_map] at h
    · rw [decide_eq_true (Or.inl (by omega))]; rfl
    · refine splitB_intro (fun h => ?_) (fun h => ?_) <;> (conv => whnf) <;> simp only [ltI_t, ltI_f, List.length_map] at h
      · rw [decide_eq_true (Or.inr (by omega))]; rfl
      · rw [decide_eq_false (by omega)]; rfl
  · have h60 : l.length ≤ 60 := by omega
    rw [if_neg (by omega)]
    refine loop_rule hT1 hmix (ι := {i : Nat // i ≤ l.length ∧ (l.any fun x => decide (100 < (x.k.size : Int) ∨ 100 < (x.v.size : Int))) = ((l.drop i).any fun x => decide (100 < (x.k.size : Int) ∨ 100 < (x.v.size : Int)))}) (fun i => [(0, ents l), (3, wi i.1)]) 5 (fun _ => []) (fun i => l.length - i.1) (by kernel_rfl) ?_ ⟨0, Nat.zero_le _, rfl⟩ ⟨[], rfl, ⟨rfl, rfl, trivial⟩, trivial⟩
    intro ⟨i, hi, ho⟩
    conv => whnf
    refine splitB_intro (fun h => ?_) (fun h => ?_) <;> (conv => whnf) <;> simp only [ltI_t, ltI_f, List.length_map] at h
    · have g1 : i < l.length := by omega
      rw [List.drop_eq_getElem_cons g1, List.any_cons] at ho
      refine ⟨i, l[i].c, rfl, ents_get g1, rfl, ?_⟩
      conv => whnf
      refine callA_pc (pc5 l[i]) ?_
      conv => whnf
      refine iteP_intro (fun h => ?_) (fun h => ?_) <;> (conv => whnf)
      · rw [ho, h]; rfl
      · refine ⟨⟨i + 1, by omega, by rw [ho, h]; rfl⟩, ?_, [], rfl, ⟨rfl, ?_, trivial⟩, trivial⟩
        · show l.length - (i + 1) < l.length - i; omega
        · show D.v (Value.int .i64 (wr .i64 ((i : Int) + 1))) = _
          rw [wr64 _ (by omega) (by omega)]; rfl
    · rw [ho, List.drop_eq_nil_of_le (by omega)]; rfl
end Bk
