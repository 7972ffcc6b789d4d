/- The newest of each key. -/
import Derived.Test.YtobfdenalhmecaaDoorSf
set_option linter.unusedSimpArgs false
set_option linter.unusedSectionVars false
set_option linter.unusedVariables false
namespace Bk
open Go Go.Proofs

def dd : Ent → List Ent → List Ent
  | _, [] => []
  | p, y :: r => if y.k = p.k then dd y r else y :: dd y r
/-- the first of each run of entries of one key -/
def dedup : List Ent → List Ent
  | [] => []
  | x :: r => x :: dd x r

def lastK : Ent → List Ent → ByteArray
  | p, [] => p.k
  | _, y :: r => lastK y r
theorem lastK_eq : ∀ (p : Ent) (r : List Ent), lastK p r = ((p :: r).getLast (by simp)).k
  | p, [] => rfl
  | p, y :: r => by rw [lastK, lastK_eq y r]; rfl
theorem dd_snoc : ∀ (r : List Ent) (p y : Ent), dd p (r ++ [y]) = dd p r ++ (if y.k = lastK p r then [] else [y])
  | [], p, y => by simp only [List.nil_append, dd, lastK]; rfl
  | x :: r, p, y => by
    simp only [List.cons_append, dd, lastK]
    rw [dd_snoc r x y]
    by_cases h : x.k = p.k
    · rw [if_pos h, if_pos h]; rfl
    · rw [if_neg h, if_neg h]; rfl
theorem dedup_take (l : List Ent) (p : Nat) (h1 : 1 ≤ p) (h2 : p < l.length) (h3 : p - 1 < l.length) : dedup (l.take (p + 1)) = dedup (l.take p) ++ (if l[p].k = l[p - 1].k then [] else [l[p]]) := by
  have e : l.take (p + 1) = l.take p ++ [l[p]] := List.take_succ_eq_append_getElem h2
  rw [e]
  cases hr : l.take p with
  | nil =>
    have := congrArg List.length hr
    rw [List.length_take, List.length_nil] at this; omega
  | cons x r =>
    have e2 : lastK x r = l[p - 1].k := by
      rw [lastK_eq]
      congr 1
      have h5 : (x :: r).length = p := by rw [← hr, List.length_take]; omega
      have h4 : ((x :: r).getLast (by simp)) = (x :: r)[p - 1]'(by omega) := by
        rw [List.getLast_eq_getElem]; congr 1; omega
      rw [h4]
      have h6 : (l.take p)[p - 1]'(by rw [List.length_take]; omega) = l[p - 1] := List.getElem_take ..
      rw [← h6]
      simp only [hr]
    simp only [List.cons_append, dedup, dd_snoc, e2]

def eqF : D := .fn (.func 29) [] []

theorem tc28 (l : List Ent) (hl : l.length < 1000000) : CallA Tryd.prog 28 [.msl 0 4 0 l.length, eqF] 1 (hpL [(0, entO l)]) fun d _ H' => ∃ d0 O', d = ren (fun _ => 0) d0 ∧ (d0 = .msl 0 4 0 (dedup l).length ∧ O' = entO (dedup l)) ∧ H' 0 = some O' := by
  refine callA_body hT1 hmix Tryd.func28 rfl rfl (by kernel_rfl) Tryd.ntmps28 (Nat.le_of_ble_eq_true rfl) rfl ?_
  conv => whnf
  refine splitB_intro (fun h => ?_) (fun h => ?_) <;> (conv => whnf) <;> simp only [ltI_t, ltI_f] at h
  · have : dedup l = l := by
      match l, h with
      | [], _ => rfl
      | [x], _ => rfl
      | x :: y :: r, h => exfalso; simp only [List.length_cons] at h; omega
    exact ⟨.msl 0 4 0 l.length, entO l, rfl, ⟨by rw [this], by rw [this]⟩, rfl⟩
  · refine loop_rule hT1 hmix (ι := {k : Nat // 1 ≤ k ∧ k ≤ l.length ∧ dedup (l.take k) = l.take k}) (fun k => [(0, .msl 0 4 0 l.length), (1, eqF), (5, wi k.1)]) 20 (fun _ => [(0, entO l)]) (fun k => l.length - k.1) (by kernel_rfl) ?_
      ⟨1, Nat.le_refl _, by omega, by cases l with | nil => rfl | cons x r => simp [dedup, dd]⟩ ⟨[], rfl, ⟨rfl, rfl, rfl, trivial⟩, ⟨_, rfl, .inr ⟨rfl, entO_imm _⟩⟩, trivial⟩
    intro ⟨k, k1, k2, k3⟩
    conv => whnf
    refine splitB_intro (fun h => ?_) (fun h => ?_) <;> (conv => whnf) <;> simp only [ltI_t, ltI_f] at h
    · obtain ⟨k, rfl⟩ : ∃ k', k = k' + 1 := ⟨k - 1, by omega⟩
      have g1 : k + 1 < l.length := by omega
      have g2 : k < l.length := by omega
      refine ⟨k + 1, rfl, g1, rfl, ?_⟩
      conv => whnf
      refine ⟨entO l, l[k + 1].c, rfl, rfl, by rw [Nat.zero_add]; exact ents_get g1, ?_⟩
      conv => whnf
      refine ⟨k, wrPred k (by omega), g2, rfl, ?_⟩
      conv => whnf
      refine ⟨entO l, l[k].c, rfl, rfl, by rw [Nat.zero_add]; exact ents_get g2, ?_⟩
      conv => whnf
      refine ⟨_, pc29 l[k + 1] l[k], ?_⟩
      conv => whnf
      have hdt := dedup_take l (k + 1) (by omega) g1 (by omega)
      simp only [Nat.add_sub_cancel] at hdt
      refine iteP_intro (fun h => ?_) (fun h => ?_) <;> (conv => whnf)
      · have hk := of_decide_eq_true h
        rw [if_pos hk, List.append_nil, k3] at hdt
        refine ⟨k + 1, rfl, ?_⟩
        conv => whnf
        refine ⟨rfl, by show k + 1 ≤ l.length; omega, Nat.le_refl _, ?_⟩
        conv => whnf
        refine loop_rule hT1 hmix (ι := {q : Nat × Nat × List Ent // 1 ≤ q.1 ∧ k + 1 + q.1 ≤ l.length ∧ q.2.1 ≤ k + q.1 ∧ q.2.2.length = l.length ∧ dedup (l.take (k + 1 + q.1)) = q.2.2.take q.2.1 ∧ ∀ p, k + q.1 ≤ p → q.2.2[p]? = l[p]?})
          (fun q => [(0, .msl 0 4 0 l.length), (1, eqF), (5, wi q.1.2.1), (6, .msl 0 4 (0 + (k + 1)) (l.length - (k + 1))), (7, wi q.1.1)]) 40 (fun q => [(0, entO q.1.2.2)]) (fun q => l.length - q.1.1) (by kernel_rfl) ?_
          ⟨(1, k + 1, l), Nat.le_refl _, by show k + 1 + 1 ≤ _; omega, Nat.le_refl _, rfl, hdt, fun _ _ => rfl⟩ ⟨[], rfl, ⟨rfl, rfl, rfl, rfl, rfl, trivial⟩, ⟨_, rfl, .inr ⟨rfl, entO_imm _⟩⟩, trivial⟩
        intro ⟨(k2, kk, m), q1, q2, q3, q4, q5, q6⟩
        simp only at q1 q2 q3 q4 q5 q6
        conv => whnf
        refine splitB_intro (fun h => ?_) (fun h => ?_) <;> (conv => whnf) <;> simp only [ltI_t, ltI_f] at h
        · have r0 : k + 1 + k2 < l.length := by omega
          obtain ⟨k2, rfl⟩ : ∃ k', k2 = k' + 1 := ⟨k2 - 1, by omega⟩
          have m1 : m[k + 1 + (k2 + 1)]? = some l[k + 1 + (k2 + 1)] := by rw [q6 _ (by omega)]; exact List.getElem?_eq_getElem r0
          have m2 : m[k + 1 + k2]? = some (l[k + 1 + k2]'(by omega)) := by rw [q6 _ (by omega)]; exact List.getElem?_eq_getElem _
          have c1 : (m.map Ent.c)[k + 1 + (k2 + 1)]? = some (l[k + 1 + (k2 + 1)]).c := by rw [List.getElem?_map, m1]; rfl
          have c2 : (m.map Ent.c)[k + 1 + k2]? = some (l[k + 1 + k2]'(by omega)).c := by rw [List.getElem?_map, m2]; rfl
          refine ⟨k2 + 1, rfl, by omega, rfl, ?_⟩
          conv => whnf
          refine ⟨entO m, l[k + 1 + (k2 + 1)].c, rfl, rfl, by rw [Nat.zero_add]; exact c1, ?_⟩
          conv => whnf
          refine ⟨k2, wrPred k2 (by omega), by omega, rfl, ?_⟩
          conv => whnf
          refine ⟨entO m, (l[k + 1 + k2]'(by omega)).c, rfl, rfl, by rw [Nat.zero_add]; exact c2, ?_⟩
          conv => whnf
          refine ⟨_, pc29 l[k + 1 + (k2 + 1)] (l[k + 1 + k2]'(by omega)), ?_⟩
          conv => whnf
          have hdt2 := dedup_take l (k + 1 + (k2 + 1)) (by omega) r0 (by omega)
          have e9 : k + 1 + (k2 + 1) - 1 = k + 1 + k2 := by omega
          simp only [e9] at hdt2
          rw [q5] at hdt2
          have e10 : k + 1 + (k2 + 1) + 1 = k + 1 + (k2 + 1 + 1) := by omega
          rw [e10] at hdt2
          have fin7 : D.v (Value.int .i64 (wr .i64 (((k2 + 1 : Nat) : Int) + 1))) = wi ((k2 + 1 + 1 : Nat) : Int) := by rw [wrSucc _ (by omega)]; rfl
          refine iteP_intro (fun h => ?_) (fun h => ?_) <;> (conv => whnf)
          · have hk := of_decide_eq_false (show decide (l[k + 1 + (k2 + 1)].k = (l[k + 1 + k2]'(by omega)).k) = false by rw [notB_eq] at h; simpa using h)
            rw [if_neg hk] at hdt2
            have kkl : kk < m.length := by omega
            refine ⟨k2 + 1, rfl, by omega, rfl, ?_⟩
            conv => whnf
            refine ⟨entO m, l[k + 1 + (k2 + 1)].c, rfl, rfl, by rw [Nat.zero_add]; exact c1, ?_⟩
            conv => whnf
            refine ⟨kk, rfl, by omega, rfl, ?_⟩
            conv => whnf
            refine ⟨entO m, m[kk].c, rfl, rfl, by rw [Nat.zero_add]; exact ents_get kkl, Nat.le_refl _, ?_⟩
            conv => whnf
            refine ⟨⟨(k2 + 1 + 1, kk + 1, m.set kk l[k + 1 + (k2 + 1)]), by omega, by omega, by show kk + 1 ≤ k + (k2 + 1 + 1); omega, by simp [q4], ?_, fun p hp => ?_⟩, ?_, [], rfl, ⟨rfl, rfl, ?_, rfl, fin7, trivial⟩, ⟨_, rfl, .inr ⟨?_, entO_imm _⟩⟩, trivial⟩
            · simp only
              rw [hdt2, List.take_succ_eq_append_getElem (by simpa using kkl), List.getElem_set_self, List.take_set_of_le (Nat.le_refl _)]
            · simp only at hp ⊢
              rw [List.getElem?_set_ne (by omega)]; exact q6 p (by omega)
            · show l.length - (k2 + 1 + 1) < l.length - (k2 + 1); omega
            · show D.v (Value.int .i64 (wr .i64 ((kk : Int) + 1))) = _
              rw [wrSucc _ (by omega)]; rfl
            · show (⟨23, 4, (m.map Ent.c).set (0 + kk) l[k + 1 + (k2 + 1)].c⟩ : AObj) = entO (m.set kk l[k + 1 + (k2 + 1)])
              rw [Nat.zero_add, map_set]; rfl
          · have hk := of_decide_eq_true (show decide (l[k + 1 + (k2 + 1)].k = (l[k + 1 + k2]'(by omega)).k) = true by rw [notB_eq] at h; simpa using h)
            rw [if_pos hk, List.append_nil] at hdt2
            refine ⟨⟨(k2 + 1 + 1, kk, m), by omega, by omega, by show kk ≤ k + (k2 + 1 + 1); omega, q4, hdt2, fun p hp => q6 p (by simp only at hp; omega)⟩, ?_, [], rfl, ⟨rfl, rfl, rfl, rfl, fin7, trivial⟩, ⟨_, rfl, .inr ⟨rfl, entO_imm _⟩⟩, trivial⟩
            show l.length - (k2 + 1 + 1) < l.length - (k2 + 1); omega
        · have e7 : k + 1 + k2 = l.length := by omega
          rw [e7, List.take_length] at q5
          have e8 : (dedup l).length = kk := by rw [q5, List.length_take]; omega
          refine ⟨kk, rfl, ?_⟩
          conv => whnf
          refine ⟨rfl, by show kk ≤ l.length; omega, Nat.le_refl _, ?_⟩
          conv => whnf
          refine ⟨entO m, rfl, rfl, rfl, ?_, ?_⟩
          · show 0 + kk + (l.length - kk) = (m.map Ent.c).length
            rw [List.length_map]; omega
          conv => whnf
          refine ⟨kk, rfl, ?_⟩
          conv => whnf
          refine ⟨rfl, Nat.zero_le _, by show kk ≤ l.length; omega, ?_⟩
          conv => whnf
          refine ⟨.msl 0 4 0 (dedup l).length, entO (dedup l), ?_, ⟨rfl, rfl⟩, ?_⟩
          · show D.msl 0 4 (0 + 0) (kk - 0) = _
            rw [e8]; rfl
          · show some (⟨23, 4, (m.map Ent.c).take (0 + kk)⟩ : AObj) = some (entO (dedup l))
            rw [Nat.zero_add, q5, entO, List.map_take]
      · have hk := of_decide_eq_false h
        rw [if_neg hk, k3] at hdt
        refine ⟨⟨k + 1 + 1, by omega, by omega, ?_⟩, ?_, [], rfl, ⟨rfl, rfl, ?_, trivial⟩, ⟨_, rfl, .inr ⟨rfl, entO_imm _⟩⟩, trivial⟩
        · rw [hdt]; exact (List.take_succ_eq_append_getElem g1).symm
        · show l.length - (k + 1 + 1) < l.length - (k + 1); omega
        · show D.v (Value.int .i64 (wr .i64 (((k + 1 : Nat) : Int) + 1))) = _
          rw [wrSucc _ (by omega)]; rfl
    · have e : k = l.length := by omega
      subst e
      rw [List.take_length] at k3
      exact ⟨.msl 0 4 0 l.length, entO l, rfl, ⟨by rw [k3], by rw [k3]⟩, rfl⟩

end Bk
