/- Insertion sort. -/
import Derived.Test.YtobfdenalhmecaaDoorSd
set_option linter.unusedSimpArgs false
set_option linter.unusedSectionVars false
set_option linter.unusedVariables false
namespace Bk
open Go Go.Proofs

def entO (l : List Ent) : AObj := ⟨23, 4, l.map Ent.c⟩
def cmpF : D := .fn (.func 22) [.agg []] []
theorem entO_imm (l : List Ent) : ∀ c ∈ (entO l).es, isIL c = true := by
  intro c hc
  obtain ⟨x, _, rfl⟩ := List.mem_map.1 hc
  rfl
theorem map_set (l : List Ent) (i : Nat) (x : Ent) : (l.map Ent.c).set i x.c = (l.set i x).map Ent.c := by rw [List.map_set]

/-- a function that turns a list in place: it becomes one of these -/
def Turns (f : Nat) (args : List D) (l : List Ent) (R : List Ent → Prop) : Prop :=
  CallA Tryd.prog f args 1 (hpL [(0, entO l)]) fun d _ H' => d = .tuple [] ∧ ∃ O', (∃ l', R l' ∧ O' = entO l') ∧ H' 0 = some O'

theorem Turns.use {f : Nat} {args0 args : List D} {l : List Ent} {R : List Ent → Prop} (hc : Turns f args0 l R) {n : Nat} {H : Hp} (id : Nat) (hargs : args = args0.map (ren (nameAt id n))) (hO : H id = some (entO l))
    {K : D → Nat → Hp → Prop} (hK : ∀ l', R l' → K (.tuple []) n (updH H id (some (entO l')))) : CallA Tryd.prog f args n H K :=
  callA_obj hc id hargs hO (entO_imm l) (by rintro O' ⟨l', _, rfl⟩; exact entO_imm l') (by rintro O' ⟨l', h, rfl⟩; exact hK l' h)

def swp (l : List Ent) (i j : Nat) : List Ent := (l.set i (l.getD j noEnt)).set j (l.getD i noEnt)
theorem swp_length (l : List Ent) (i j : Nat) : (swp l i j).length = l.length := by simp [swp]

def sinkL (a : Nat) : Nat → List Ent → List Ent
  | 0, l => l
  | j + 1, l => if a < j + 1 ∧ ord (l.getD (j + 1) noEnt) (l.getD j noEnt) < 0 then sinkL a j (swp l (j + 1) j) else l
theorem sinkL_length (a : Nat) : ∀ (j : Nat) (l : List Ent), (sinkL a j l).length = l.length
  | 0, l => rfl
  | j + 1, l => by
    simp only [sinkL]
    split
    · rw [sinkL_length a j, swp_length]
    · rfl
def insL (a : Nat) : Nat → Nat → List Ent → List Ent
  | _, 0, l => l
  | i, k + 1, l => insL a (i + 1) k (sinkL a i l)

theorem wrS (a b : Nat) (h : b ≤ a) (ha : a < 1000000000) : wr .i64 ((a : Int) - (b : Int)) = ((a - b : Nat) : Int) := by rw [wr64 _ (by omega) (by omega)]; omega
theorem wrA (a b : Nat) (ha : a < 1000000000) (hb : b < 1000000000) : wr .i64 ((a : Int) + (b : Int)) = ((a + b : Nat) : Int) := by rw [wr64 _ (by omega) (by omega)]; omega

theorem wrPred (j : Nat) (h : j < 1000000000) : wr .i64 (((j + 1 : Nat) : Int) - 1) = (j : Int) := by rw [wr64 _ (by omega) (by omega)]; omega
theorem wrSucc (j : Nat) (h : j < 1000000000) : wr .i64 ((j : Int) + 1) = ((j + 1 : Nat) : Int) := by rw [wr64 _ (by omega) (by omega)]; omega

theorem tc47 (l : List Ent) (a b : Nat) (hb : b ≤ l.length) (hl : l.length < 1000000) (ha : a < 1000000) : Turns 47 [.msl 0 4 0 l.length, wi a, wi b, cmpF] l (· = insL a (a + 1) (b - (a + 1)) l) := by
  refine callA_body hT1 hmix Tryd.func47 rfl rfl (by kernel_rfl) Tryd.ntmps47 (Nat.le_of_ble_eq_true rfl) rfl ?_
  conv => whnf
  refine loop_rule hT1 hmix (ι := {p : Nat × List Ent // a < p.1 ∧ p.1 ≤ max b (a + 1) ∧ p.2.length = l.length ∧ insL a (a + 1) (b - (a + 1)) l = insL a p.1 (b - p.1) p.2})
    (fun p => [(0, .msl 0 4 0 l.length), (1, wi a), (2, wi b), (3, cmpF), (8, wi p.1.1)]) 20 (fun p => [(0, entO p.1.2)]) (fun p => b - p.1.1) (by kernel_rfl) ?_
    ⟨(a + 1, l), by omega, by omega, rfl, rfl⟩ ⟨[], rfl, ⟨rfl, rfl, rfl, rfl, ?_, trivial⟩, ⟨_, rfl, .inr ⟨rfl, entO_imm _⟩⟩, trivial⟩
  · intro ⟨(i, m), h1, h2, h3, h4⟩
    simp only at h1 h2 h3 h4
    conv => whnf
    refine splitB_intro (fun h => ?_) (fun h => ?_) <;> (conv => whnf) <;> simp only [ltI_t, ltI_f] at h
    · have hib : i < b := by omega
      refine loop_rule hT1 hmix (ι := {q : Nat × List Ent // q.1 ≤ i ∧ q.2.length = l.length ∧ sinkL a i m = sinkL a q.1 q.2})
        (fun q => [(0, .msl 0 4 0 l.length), (1, wi a), (2, wi b), (3, cmpF), (8, wi i), (9, wi q.1.1)]) 40 (fun q => [(0, entO q.1.2)]) (fun q => q.1.1) (by kernel_rfl) ?_
        ⟨(i, m), Nat.le_refl _, h3, rfl⟩ ⟨[], rfl, ⟨rfl, rfl, rfl, rfl, rfl, rfl, trivial⟩, ⟨_, rfl, .inr ⟨rfl, entO_imm _⟩⟩, trivial⟩
      intro ⟨(j, m2), g1, g2, g3⟩
      simp only at g1 g2 g3
      have next : sinkL a i m = m2 → ∃ p : {p : Nat × List Ent // a < p.1 ∧ p.1 ≤ max b (a + 1) ∧ p.2.length = l.length ∧ insL a (a + 1) (b - (a + 1)) l = insL a p.1 (b - p.1) p.2}, p.1 = (i + 1, m2) := by
        intro he
        refine ⟨⟨(i + 1, m2), by omega, by omega, g2, ?_⟩, rfl⟩
        rw [h4, show b - i = (b - (i + 1)) + 1 by omega, ← he]; rfl
      have fin : sinkL a i m = m2 → ∀ {e : Env} {n : Nat} {H : Hp}, LeA 1 e n H [(0, .msl 0 4 0 l.length), (1, wi a), (2, wi b), (3, cmpF), (8, wi (i + 1 : Nat))] 20 [(0, entO m2)] →
          ∃ p : {p : Nat × List Ent // a < p.1 ∧ p.1 ≤ max b (a + 1) ∧ p.2.length = l.length ∧ insL a (a + 1) (b - (a + 1)) l = insL a p.1 (b - p.1) p.2}, b - p.1.1 < b - i ∧ LeA 1 e n H [(0, .msl 0 4 0 l.length), (1, wi a), (2, wi b), (3, cmpF), (8, wi p.1.1)] 20 [(0, entO p.1.2)] := by
        intro he e n H hle
        obtain ⟨p, hp⟩ := next he
        exact ⟨p, by rw [hp]; show b - (i + 1) < b - i; omega, by rw [hp]; exact hle⟩
      conv => whnf
      refine splitB_intro (fun h => ?_) (fun h => ?_) <;> (conv => whnf) <;> simp only [ltI_t, ltI_f] at h
      · obtain ⟨j, rfl⟩ : ∃ j', j = j' + 1 := ⟨j - 1, by omega⟩
        have k1 : j + 1 < m2.length := by omega
        have k2 : j < m2.length := by omega
        have d1 : m2.getD (j + 1) noEnt = m2[j + 1] := by simp [k1]
        have d2 : m2.getD j noEnt = m2[j] := by simp [k2]
        refine ⟨j + 1, rfl, by omega, rfl, ?_⟩
        conv => whnf
        refine ⟨entO m2, m2[j + 1].c, rfl, rfl, by rw [Nat.zero_add]; exact ents_get k1, ?_⟩
        conv => whnf
        refine ⟨j, wrPred j (by omega), by omega, rfl, ?_⟩
        conv => whnf
        refine ⟨entO m2, m2[j].c, rfl, rfl, by rw [Nat.zero_add]; exact ents_get k2, ?_⟩
        conv => whnf
        refine ⟨_, pc22 m2[j + 1] m2[j], ?_⟩
        conv => whnf
        refine splitB_intro (fun h' => ?_) (fun h' => ?_) <;> (conv => whnf) <;> simp only [ltI_t, ltI_f] at h'
        · refine ⟨j, wrPred j (by omega), by omega, rfl, ?_⟩
          conv => whnf
          refine ⟨entO m2, m2[j].c, rfl, rfl, by rw [Nat.zero_add]; exact ents_get k2, ?_⟩
          conv => whnf
          refine ⟨j + 1, rfl, by omega, rfl, ?_⟩
          conv => whnf
          refine ⟨entO m2, m2[j + 1].c, rfl, rfl, by rw [Nat.zero_add]; exact ents_get k1, ?_⟩
          conv => whnf
          refine ⟨j + 1, rfl, by omega, rfl, ?_⟩
          conv => whnf
          refine ⟨entO m2, m2[j + 1].c, rfl, rfl, by rw [Nat.zero_add]; exact ents_get k1, Nat.le_refl _, ?_⟩
          conv => whnf
          refine ⟨j, wrPred j (by omega), by omega, rfl, ?_⟩
          conv => whnf
          refine ⟨_, m2[j].c, rfl, rfl, ?_, Nat.le_refl _, ?_⟩
          · rw [Nat.zero_add, Nat.zero_add, List.getElem?_set_ne (by omega)]; exact ents_get k2
          conv => whnf
          refine ⟨⟨(j, swp m2 (j + 1) j), by omega, by rw [swp_length]; exact g2, ?_⟩, ?_, [], rfl, ⟨rfl, rfl, rfl, rfl, rfl, ?_, trivial⟩, ⟨_, rfl, .inr ⟨?_, entO_imm _⟩⟩, trivial⟩
          · rw [g3]; simp only [sinkL]; rw [if_pos]; rw [d1, d2]; omega
          · show j < j + 1; omega
          · show D.v (Value.int .i64 (wr .i64 (((j + 1 : Nat) : Int) - 1))) = _
            rw [wrPred j (by omega)]; rfl
          · show (⟨23, 4, ((m2.map Ent.c).set (0 + (j + 1)) m2[j].c).set (0 + j) m2[j + 1].c⟩ : AObj) = entO (swp m2 (j + 1) j)
            rw [Nat.zero_add, Nat.zero_add, map_set, map_set]
            simp only [swp, d1, d2, entO]
        · refine fin (by rw [g3]; simp only [sinkL]; rw [if_neg]; rw [d1, d2]; omega) ⟨[], rfl, ⟨rfl, rfl, rfl, rfl, ?_, trivial⟩, ⟨_, rfl, .inr ⟨rfl, entO_imm _⟩⟩, trivial⟩
          show D.v (Value.int .i64 (wr .i64 ((i : Int) + 1))) = _
          rw [show (1 : Int) = ((1 : Nat) : Int) from rfl, wrA i 1 (by omega) (by omega)]; rfl
      · refine fin (by rw [g3]; cases j with | zero => rfl | succ j => simp only [sinkL]; rw [if_neg]; omega) ⟨[], rfl, ⟨rfl, rfl, rfl, rfl, ?_, trivial⟩, ⟨_, rfl, .inr ⟨rfl, entO_imm _⟩⟩, trivial⟩
        show D.v (Value.int .i64 (wr .i64 ((i : Int) + 1))) = _
        rw [show (1 : Int) = ((1 : Nat) : Int) from rfl, wrA i 1 (by omega) (by omega)]; rfl
    · refine ⟨rfl, _, ⟨_, rfl, ?_⟩, rfl⟩
      show entO m = _
      have h5 : b - i = 0 := by omega
      rw [h5] at h4
      exact congrArg entO h4.symm
  · show D.v (Value.int .i64 (wr .i64 ((a : Int) + 1))) = _
    rw [show (1 : Int) = ((1 : Nat) : Int) from rfl, wrA a 1 (by omega) (by omega)]; rfl
end Bk
