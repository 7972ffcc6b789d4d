/- Swapping two ranges of a list; turning two ranges. -/
import Derived.Test.YtobfdenalhmecaaDoorSh
import Derived.Test.YtobfdenalhmecaaDoorKD
set_option linter.unusedSimpArgs false
set_option linter.unusedSectionVars false
set_option linter.unusedVariables false
namespace Bk
open Go Go.Proofs

section lists
variable {α : Type}
theorem get_mid (A B : List α) (x : α) {i : Nat} (h : i = A.length) : (A ++ x :: B)[i]? = some x := by subst h; simp
theorem set_mid (A B : List α) (x y : α) {i : Nat} (h : i = A.length) : (A ++ x :: B).set i y = A ++ y :: B := by subst h; simp
end lists

/-- two ranges, the first i elements of each swapped -/
def swR (P X M Y S : List Ent) (i : Nat) : List Ent := P ++ (Y.take i ++ X.drop i) ++ M ++ (X.take i ++ Y.drop i) ++ S
theorem swR_length (P X M Y S : List Ent) (i : Nat) (h : X.length = Y.length) : (swR P X M Y S i).length = P.length + X.length + M.length + Y.length + S.length := by
  simp only [swR, List.length_append, List.length_take, List.length_drop]; omega
theorem swR_zero (P X M Y S : List Ent) : swR P X M Y S 0 = P ++ X ++ M ++ Y ++ S := by simp [swR]
theorem swR_all (P X M Y S : List Ent) (n : Nat) (hX : X.length = n) (hY : Y.length = n) : swR P X M Y S n = P ++ Y ++ M ++ X ++ S := by
  simp only [swR]
  rw [List.take_of_length_le (by omega), List.drop_of_length_le (by omega), List.take_of_length_le (by omega), List.drop_of_length_le (by omega)]; simp

section
variable {P X M Y S : List Ent} {i : Nat}
theorem swR_split (hX : i < X.length) (hY : i < Y.length) : swR P X M Y S i = (P ++ Y.take i) ++ X[i] :: (X.drop (i + 1) ++ M ++ X.take i ++ Y[i] :: (Y.drop (i + 1) ++ S)) := by
  unfold swR
  rw [List.drop_eq_getElem_cons hX, List.drop_eq_getElem_cons hY]
  generalize X.drop (i + 1) = X'
  generalize Y.drop (i + 1) = Y'
  simp
theorem swR_split2 (hY : i < Y.length) : swR P X M Y S i = (P ++ Y.take i ++ X.drop i ++ M ++ X.take i) ++ Y[i] :: (Y.drop (i + 1) ++ S) := by
  unfold swR
  rw [List.drop_eq_getElem_cons hY]
  generalize Y.drop (i + 1) = Y'
  simp
theorem swR_get1 (hX : i < X.length) (hY : i < Y.length) : (swR P X M Y S i)[P.length + i]? = some X[i] := by
  rw [swR_split hX hY]; exact get_mid _ _ _ (by simp; omega)
theorem swR_get2 (hX : i < X.length) (hY : i < Y.length) : (swR P X M Y S i)[P.length + X.length + M.length + i]? = some Y[i] := by
  rw [swR_split2 hY]; exact get_mid _ _ _ (by simp; omega)
theorem swR_step (hX : i < X.length) (hY : i < Y.length) : ((swR P X M Y S i).set (P.length + i) Y[i]).set (P.length + X.length + M.length + i) X[i] = swR P X M Y S (i + 1) := by
  rw [swR_split hX hY, set_mid _ _ _ _ (by simp; omega)]
  have e : (P ++ Y.take i) ++ Y[i] :: (X.drop (i + 1) ++ M ++ X.take i ++ Y[i] :: (Y.drop (i + 1) ++ S)) = ((P ++ Y.take i) ++ Y[i] :: (X.drop (i + 1) ++ M ++ X.take i)) ++ Y[i] :: (Y.drop (i + 1) ++ S) := by simp
  rw [e, set_mid _ _ _ _ (by simp; omega)]
  unfold swR
  rw [List.take_succ_eq_append_getElem hX, List.take_succ_eq_append_getElem hY]
  generalize X.drop (i + 1) = X'
  generalize Y.drop (i + 1) = Y'
  generalize X.take i = X1
  generalize Y.take i = Y1
  generalize X[i] = x
  generalize Y[i] = y
  simp
theorem swR_get2' (hX : i < X.length) (hY : i < Y.length) (y : Ent) : ((swR P X M Y S i).set (P.length + i) y)[P.length + X.length + M.length + i]? = some Y[i] := by
  rw [List.getElem?_set_ne (by omega)]; exact swR_get2 hX hY
end

theorem map_get {l : List Ent} {i : Nat} {x : Ent} (h : l[i]? = some x) : (l.map Ent.c)[0 + i]? = some x.c := by
  rw [Nat.zero_add, List.getElem?_map, h]; rfl

theorem tc57 (P X M Y S : List Ent) (n : Nat) (hX : X.length = n) (hY : Y.length = n) (L : Nat) (hL : L = P.length + n + M.length + n + S.length) (hs : L < 1000000) {l : List Ent} (hl : l = P ++ X ++ M ++ Y ++ S) :
    Turns 57 [.msl 0 4 0 L, wi P.length, wi (P.length + n + M.length : Nat), wi n, cmpF] l (· = P ++ Y ++ M ++ X ++ S) := by
  subst hl
  refine callA_body hT1 hmix Tryd.func57 rfl rfl (by kernel_rfl) Tryd.ntmps57 (Nat.le_of_ble_eq_true rfl) rfl ?_
  conv => whnf
  refine loop_rule hT1 hmix (ι := {i : Nat // i ≤ n}) (fun i => [(0, .msl 0 4 0 L), (1, wi P.length), (2, wi (P.length + n + M.length : Nat)), (3, wi n), (4, cmpF), (10, wi i.1)]) 5 (fun i => [(0, entO (swR P X M Y S i.1))]) (fun i => n - i.1) (by kernel_rfl) ?_
    ⟨0, Nat.zero_le _⟩ ⟨[], rfl, ⟨rfl, rfl, rfl, rfl, rfl, rfl, trivial⟩, ⟨_, rfl, .inr ⟨?_, entO_imm _⟩⟩, trivial⟩
  · intro ⟨i, hi⟩
    conv => whnf
    refine splitB_intro (fun h => ?_) (fun h => ?_) <;> (conv => whnf) <;> simp only [ltI_t, ltI_f] at h
    · have hiX : i < X.length := by omega
      have hiY : i < Y.length := by omega
      have g1 := swR_get1 (P := P) (M := M) (S := S) hiX hiY
      have g2 := swR_get2 (P := P) (M := M) (S := S) hiX hiY
      have g3 := swR_get2' (P := P) (M := M) (S := S) hiX hiY Y[i]
      have g4 := swR_step (P := P) (M := M) (S := S) hiX hiY
      rw [hX] at g2 g3 g4
      refine ⟨P.length + n + M.length + i, wrA _ i (by omega) (by omega), by omega, rfl, ?_⟩
      conv => whnf
      refine ⟨entO (swR P X M Y S i), Y[i].c, rfl, rfl, map_get g2, ?_⟩
      conv => whnf
      refine ⟨P.length + i, wrA _ i (by omega) (by omega), by omega, rfl, ?_⟩
      conv => whnf
      refine ⟨entO (swR P X M Y S i), X[i].c, rfl, rfl, map_get g1, ?_⟩
      conv => whnf
      refine ⟨P.length + i, wrA _ i (by omega) (by omega), by omega, rfl, ?_⟩
      conv => whnf
      refine ⟨entO (swR P X M Y S i), X[i].c, rfl, rfl, map_get g1, Nat.le_refl _, ?_⟩
      conv => whnf
      refine ⟨P.length + n + M.length + i, wrA _ i (by omega) (by omega), by omega, rfl, ?_⟩
      conv => whnf
      refine ⟨_, Y[i].c, rfl, rfl, ?_, Nat.le_refl _, ?_⟩
      · show (((swR P X M Y S i).map Ent.c).set (0 + (P.length + i)) Y[i].c)[0 + (P.length + n + M.length + i)]? = _
        rw [Nat.zero_add (P.length + i), map_set]; exact map_get g3
      conv => whnf
      refine ⟨⟨i + 1, by omega⟩, by show n - (i + 1) < n - i; omega, [], rfl, ⟨rfl, rfl, rfl, rfl, rfl, ?_, trivial⟩, ⟨_, rfl, .inr ⟨?_, entO_imm _⟩⟩, trivial⟩
      · show D.v (Value.int .i64 (wr .i64 ((i : Int) + 1))) = _
        rw [wrSucc _ (by omega)]; rfl
      · show (⟨23, 4, (((swR P X M Y S i).map Ent.c).set (0 + (P.length + i)) Y[i].c).set (0 + (P.length + n + M.length + i)) X[i].c⟩ : AObj) = entO (swR P X M Y S (i + 1))
        rw [Nat.zero_add, Nat.zero_add, map_set, map_set, g4]; rfl
    · have e : i = n := by omega
      subst e
      exact ⟨rfl, _, ⟨_, rfl, by show entO _ = _; rw [swR_all P X M Y S i hX hY]⟩, rfl⟩
  · rw [swR_zero]

/-- two ranges change places -/
theorem tc52 (P A B S : List Ent) (hA : A ≠ []) (hB : B ≠ []) (L : Nat) (hL : L = P.length + A.length + B.length + S.length) (hs : L < 1000000) {l : List Ent} (hl : l = P ++ A ++ B ++ S) :
    Turns 52 [.msl 0 4 0 L, wi P.length, wi (P.length + A.length : Nat), wi (P.length + A.length + B.length : Nat), cmpF] l (· = P ++ B ++ A ++ S) := by
  subst hl
  refine callA_body hT1 hmix Tryd.func52 rfl rfl (by kernel_rfl) Tryd.ntmps52 (Nat.le_of_ble_eq_true rfl) rfl ?_
  conv => whnf
  have hA0 : 0 < A.length := List.length_pos_iff.2 hA
  have hB0 : 0 < B.length := List.length_pos_iff.2 hB
  have w1 : wr .i64 (((P.length + A.length : Nat) : Int) - ((P.length : Nat) : Int)) = ((A.length : Nat) : Int) := by rw [wrS _ _ (by omega) (by omega)]; congr 1; omega
  have w2 : wr .i64 (((P.length + A.length + B.length : Nat) : Int) - ((P.length + A.length : Nat) : Int)) = ((B.length : Nat) : Int) := by rw [wrS _ _ (by omega) (by omega)]; congr 1; omega
  refine loop_rule hT1 hmix (ι := {q : List Ent × List Ent × List Ent × List Ent // q.2.1 ≠ [] ∧ q.2.2.1 ≠ [] ∧ q.1.length + q.2.1.length = A.length ∧ q.2.2.1.length + q.2.2.2.length = B.length ∧ q.1 ++ q.2.2.1 ++ q.2.1 ++ q.2.2.2 = B ++ A})
    (fun q => [(0, .msl 0 4 0 L), (2, wi (P.length + A.length : Nat)), (4, cmpF), (10, wi q.1.2.1.length), (11, wi q.1.2.2.1.length)]) 9 (fun q => [(0, entO (P ++ (q.1.1 ++ q.1.2.1 ++ q.1.2.2.1 ++ q.1.2.2.2) ++ S))]) (fun q => q.1.2.1.length + q.1.2.2.1.length) (by kernel_rfl) ?_
    ⟨([], A, B, []), hA, hB, by simp, by simp, by simp⟩ ⟨[], rfl, ⟨rfl, rfl, rfl, ?_, ?_, trivial⟩, ⟨_, rfl, .inr ⟨?_, entO_imm _⟩⟩, trivial⟩
  · intro ⟨(B1, A', B', A2), q1, q2, q3, q4, q5⟩
    simp only at q1 q2 q3 q4 q5
    have hA' : 0 < A'.length := List.length_pos_iff.2 q1
    have hB' : 0 < B'.length := List.length_pos_iff.2 q2
    have wm : wr .i64 (((P.length + A.length : Nat) : Int) - ((A'.length : Nat) : Int)) = (((P ++ B1).length : Nat) : Int) := by
      rw [wrS _ _ (by omega) (by omega)]; congr 1; simp; omega
    conv => whnf
    refine splitB_intro (fun h => ?_) (fun h => ?_) <;> (conv => whnf) <;> simp only [eqI_t, eqI_f] at h
    · have e : B'.length = A'.length := by omega
      refine (tc57 (P ++ B1) A' [] B' (A2 ++ S) A'.length rfl e L (by simp; omega) hs (l := P ++ (B1 ++ A' ++ B' ++ A2) ++ S) (by simp)).use 0 ?_ rfl ?_
      · show [D.msl 0 4 0 L, D.v (.int .i64 (wr .i64 (((P.length + A.length : Nat) : Int) - ((A'.length : Nat) : Int)))), wi (P.length + A.length : Nat), wi A'.length, cmpF] = [D.msl 0 4 0 L, wi (P ++ B1).length, wi ((P ++ B1).length + A'.length + ([] : List Ent).length : Nat), wi A'.length, cmpF]
        rw [wm]
        have : (P ++ B1).length + A'.length + ([] : List Ent).length = P.length + A.length := by simp; omega
        rw [this]; rfl
      · rintro l' rfl
        conv => whnf
        refine ⟨rfl, _, ⟨_, rfl, ?_⟩, rfl⟩
        show entO _ = entO _
        congr 1
        rw [show P ++ B ++ A ++ S = P ++ (B ++ A) ++ S by simp, ← q5]; simp
    · refine splitB_intro (fun h' => ?_) (fun h' => ?_) <;> (conv => whnf) <;> simp only [ltI_t, ltI_f] at h'
      · have e0 : B'.length < A'.length := by omega
        obtain ⟨A1, A3, eA, e1⟩ : ∃ A1 A3, A' = A1 ++ A3 ∧ A1.length = B'.length := ⟨A'.take B'.length, A'.drop B'.length, by simp, by simp; omega⟩
        subst eA
        have e2 : (A1 ++ A3).length = A1.length + A3.length := List.length_append
        refine (tc57 (P ++ B1) A1 A3 B' (A2 ++ S) B'.length e1 rfl L (by simp; omega) hs (l := P ++ (B1 ++ (A1 ++ A3) ++ B' ++ A2) ++ S) (by simp)).use 0 ?_ rfl ?_
        · show [D.msl 0 4 0 L, D.v (.int .i64 (wr .i64 (((P.length + A.length : Nat) : Int) - (((A1 ++ A3).length : Nat) : Int)))), wi (P.length + A.length : Nat), wi B'.length, cmpF] = [D.msl 0 4 0 L, wi (P ++ B1).length, wi ((P ++ B1).length + B'.length + A3.length : Nat), wi B'.length, cmpF]
          rw [wm]
          have : (P ++ B1).length + B'.length + A3.length = P.length + A.length := by simp; omega
          rw [this]; rfl
        · rintro l' rfl
          conv => whnf
          refine ⟨⟨(B1 ++ B', A3, A1, A2), List.ne_nil_of_length_pos (by show 0 < A3.length; omega), List.ne_nil_of_length_pos (by show 0 < A1.length; omega), by show (B1 ++ B').length + A3.length = A.length; rw [List.length_append]; omega, by show A1.length + A2.length = B.length; omega, by simp only; rw [← q5]; simp⟩, ?_, [], rfl, ⟨rfl, rfl, rfl, ?_, ?_, trivial⟩, ⟨_, rfl, .inr ⟨?_, entO_imm _⟩⟩, trivial⟩
          · show A3.length + A1.length < (A1 ++ A3).length + B'.length; omega
          · show D.v (Value.int .i64 (wr .i64 ((((A1 ++ A3).length : Nat) : Int) - ((B'.length : Nat) : Int)))) = wi A3.length
            rw [wrS _ _ (by omega) (by omega), show (A1 ++ A3).length - B'.length = A3.length by omega]; rfl
          · show wi B'.length = wi A1.length
            rw [e1]
          · show entO _ = entO _
            congr 1; simp
      · have e0 : A'.length < B'.length := by omega
        obtain ⟨C1, C2, eC, e1⟩ : ∃ C1 C2, B' = C1 ++ C2 ∧ C2.length = A'.length := ⟨B'.take (B'.length - A'.length), B'.drop (B'.length - A'.length), by simp, by simp; omega⟩
        subst eC
        have e2 : (C1 ++ C2).length = C1.length + C2.length := List.length_append
        refine (tc57 (P ++ B1) A' C1 C2 (A2 ++ S) A'.length rfl e1 L (by simp; omega) hs (l := P ++ (B1 ++ A' ++ (C1 ++ C2) ++ A2) ++ S) (by simp)).use 0 ?_ rfl ?_
        · show [D.msl 0 4 0 L, D.v (.int .i64 (wr .i64 (((P.length + A.length : Nat) : Int) - ((A'.length : Nat) : Int)))), D.v (.int .i64 (wr .i64 (wr .i64 (((P.length + A.length : Nat) : Int) + (((C1 ++ C2).length : Nat) : Int)) - ((A'.length : Nat) : Int)))), wi A'.length, cmpF] = [D.msl 0 4 0 L, wi (P ++ B1).length, wi ((P ++ B1).length + A'.length + C1.length : Nat), wi A'.length, cmpF]
          rw [wm, wrA _ _ (by omega) (by omega), wrS _ _ (by omega) (by omega)]
          have : P.length + A.length + (C1 ++ C2).length - A'.length = (P ++ B1).length + A'.length + C1.length := by simp; omega
          rw [this]; rfl
        · rintro l' rfl
          conv => whnf
          refine ⟨⟨(B1, C2, C1, A' ++ A2), List.ne_nil_of_length_pos (by show 0 < C2.length; omega), List.ne_nil_of_length_pos (by show 0 < C1.length; omega), by show B1.length + C2.length = A.length; omega, by show C1.length + (A' ++ A2).length = B.length; rw [List.length_append]; omega, by simp only; rw [← q5]; simp⟩, ?_, [], rfl, ⟨rfl, rfl, rfl, ?_, ?_, trivial⟩, ⟨_, rfl, .inr ⟨?_, entO_imm _⟩⟩, trivial⟩
          · show C2.length + C1.length < A'.length + (C1 ++ C2).length; omega
          · show wi A'.length = wi C2.length
            rw [e1]
          · show D.v (Value.int .i64 (wr .i64 ((((C1 ++ C2).length : Nat) : Int) - ((A'.length : Nat) : Int)))) = wi C1.length
            rw [wrS _ _ (by omega) (by omega), show (C1 ++ C2).length - A'.length = C1.length by omega]; rfl
          · show entO _ = entO _
            congr 1; simp
  · show D.v (Value.int .i64 (wr .i64 _)) = _
    rw [w1]; rfl
  · show D.v (Value.int .i64 (wr .i64 _)) = _
    rw [w2]; rfl
  · simp
end Bk
