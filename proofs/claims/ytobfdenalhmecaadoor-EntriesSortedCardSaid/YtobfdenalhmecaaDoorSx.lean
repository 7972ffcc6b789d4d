/- Merging two sorted ranges of a list. -/
import Derived.Test.YtobfdenalhmecaaDoorSw
import Derived.Laws.Bits64
set_option linter.unusedSimpArgs false
set_option linter.unusedSectionVars false
set_option linter.unusedVariables false
namespace Bk
open Go Go.Proofs

theorem halfE (i j : Nat) (h : i + j < 1000000000) : wr .i64 (wr .u64 (wr .i64 ((i : Int) + (j : Int))) / 2 ^ (1 : Int).toNat) = (((i + j) / 2 : Nat) : Int) := by
  rw [wrA i j (by omega) (by omega)]
  have e1 : wr .u64 ((i + j : Nat) : Int) = ((i + j : Nat) : Int) := by rw [wr_eq, IntKind.wrap_u64]; omega
  rw [e1, show (2 : Int) ^ (1 : Int).toNat = 2 from rfl, wr64 _ (by omega) (by omega)]; omega

section
variable {P A B S : List Ent} {i : Nat}
theorem getA (h : i < A.length) : (P ++ A ++ B ++ S)[P.length + i]? = some (A.getD i noEnt) := by
  have e : A.getD i noEnt = A[i] := by simp [h]
  rw [e, List.append_assoc, List.append_assoc, List.getElem?_append_right (by omega), List.getElem?_append_left (by rw [show P.length + i - P.length = i by omega]; exact h), show P.length + i - P.length = i by omega]
  exact List.getElem?_eq_getElem h
theorem getB (h : i < B.length) : (P ++ A ++ B ++ S)[P.length + A.length + i]? = some (B.getD i noEnt) := by
  have := getA (P := P ++ A) (A := B) (B := S) (S := []) (i := i) h
  simpa using this
end

/-- x put into a list at place t -/
def putI (P : List Ent) (x : Ent) (l S : List Ent) (t : Nat) : List Ent := P ++ (l.take t ++ x :: l.drop t) ++ S
section
variable {P l S : List Ent} {x : Ent} {t : Nat}
theorem putI_split (h : t < l.length) : putI P x l S t = (P ++ l.take t) ++ x :: (l.getD t noEnt) :: (l.drop (t + 1) ++ S) := by
  have e : l.getD t noEnt = l[t] := by simp [h]
  unfold putI
  rw [e, List.drop_eq_getElem_cons h]
  generalize l.drop (t + 1) = l'
  simp
theorem putI_split' (h : t < l.length) : putI P x l S (t + 1) = (P ++ l.take t) ++ (l.getD t noEnt) :: x :: (l.drop (t + 1) ++ S) := by
  have e : l.getD t noEnt = l[t] := by simp [h]
  unfold putI
  rw [e, List.take_succ_eq_append_getElem h]
  generalize l.drop (t + 1) = l'
  generalize l.take t = l1
  simp
theorem putI_len (h : t ≤ l.length) : (P ++ l.take t).length = P.length + t := by simp; omega
theorem putI_get0 (h : t < l.length) : (putI P x l S t)[P.length + t]? = some x := by
  rw [putI_split h]; exact get_mid _ _ _ (putI_len (by omega)).symm
theorem putI_get1 (h : t < l.length) : (putI P x l S t)[P.length + t + 1]? = some (l.getD t noEnt) := by
  rw [putI_split h, show (P ++ l.take t) ++ x :: (l.getD t noEnt) :: (l.drop (t + 1) ++ S) = ((P ++ l.take t) ++ [x]) ++ (l.getD t noEnt) :: (l.drop (t + 1) ++ S) by simp]
  exact get_mid _ _ _ (by rw [List.length_append, putI_len (by omega)]; rfl)
theorem putI_get1' (h : t < l.length) (y : Ent) : ((putI P x l S t).set (P.length + t) y)[P.length + t + 1]? = some (l.getD t noEnt) := by
  rw [List.getElem?_set_ne (by omega)]; exact putI_get1 h
theorem putI_step (h : t < l.length) : ((putI P x l S t).set (P.length + t) (l.getD t noEnt)).set (P.length + t + 1) x = putI P x l S (t + 1) := by
  rw [putI_split h, putI_split' h, set_mid _ _ _ _ (putI_len (by omega)).symm]
  rw [show (P ++ l.take t) ++ (l.getD t noEnt) :: (l.getD t noEnt) :: (l.drop (t + 1) ++ S) = ((P ++ l.take t) ++ [l.getD t noEnt]) ++ (l.getD t noEnt) :: (l.drop (t + 1) ++ S) by simp]
  rw [set_mid _ _ _ _ (by rw [List.length_append, putI_len (by omega)]; rfl)]
  simp
/-- the other way -/
theorem putI_get2 (h : t < l.length) : (putI P x l S (t + 1))[P.length + t]? = some (l.getD t noEnt) := by
  rw [putI_split' h]; exact get_mid _ _ _ (putI_len (by omega)).symm
theorem putI_get3 (h : t < l.length) : (putI P x l S (t + 1))[P.length + t + 1]? = some x := by
  rw [putI_split' h, show (P ++ l.take t) ++ (l.getD t noEnt) :: x :: (l.drop (t + 1) ++ S) = ((P ++ l.take t) ++ [l.getD t noEnt]) ++ x :: (l.drop (t + 1) ++ S) by simp]
  exact get_mid _ _ _ (by rw [List.length_append, putI_len (by omega)]; rfl)
theorem putI_get2' (h : t < l.length) (y : Ent) : ((putI P x l S (t + 1)).set (P.length + t + 1) y)[P.length + t]? = some (l.getD t noEnt) := by
  rw [List.getElem?_set_ne (by omega)]; exact putI_get2 h
theorem putI_back (h : t < l.length) : ((putI P x l S (t + 1)).set (P.length + t + 1) (l.getD t noEnt)).set (P.length + t) x = putI P x l S t := by
  rw [putI_split h, putI_split' h]
  rw [show (P ++ l.take t) ++ (l.getD t noEnt) :: x :: (l.drop (t + 1) ++ S) = ((P ++ l.take t) ++ [l.getD t noEnt]) ++ x :: (l.drop (t + 1) ++ S) by simp]
  rw [set_mid _ _ _ _ (by rw [List.length_append, putI_len (by omega)]; rfl)]
  rw [show ((P ++ l.take t) ++ [l.getD t noEnt]) ++ (l.getD t noEnt) :: (l.drop (t + 1) ++ S) = (P ++ l.take t) ++ (l.getD t noEnt) :: (l.getD t noEnt) :: (l.drop (t + 1) ++ S) by simp]
  rw [set_mid _ _ _ _ (putI_len (by omega)).symm]
end

/-- what a merge leaves -/
def MerR (P A B S : List Ent) (l' : List Ent) : Prop := ∃ C, l' = P ++ C ++ S ∧ C.Perm (A ++ B) ∧ Srt C

set_option maxHeartbeats 4000000 in
theorem tc48 : ∀ (k : Nat) (P A B S : List Ent) (L : Nat) (hk : A.length + B.length ≤ k) (hA : A ≠ []) (hB : B ≠ []) (sA : Srt A) (sB : Srt B) (hL : L = P.length + A.length + B.length + S.length) (hs : L < 1000000) {l : List Ent} (hl : l = P ++ A ++ B ++ S),
    Turns 48 [.msl 0 4 0 L, wi P.length, wi (P.length + A.length : Nat), wi (P.length + A.length + B.length : Nat), cmpF] l (MerR P A B S)
  | 0, P, A, B, S, L, hk, hA, hB, sA, sB, hL, hs, l, hl => by
    have := List.length_pos_iff.2 hA
    omega
  | k + 1, P, A, B, S, L, hk, hA, hB, sA, sB, hL, hs, l, hl => by
    subst hl
    have hA0 : 0 < A.length := List.length_pos_iff.2 hA
    have hB0 : 0 < B.length := List.length_pos_iff.2 hB
    have w1 : wr .i64 (((P.length + A.length : Nat) : Int) - ((P.length : Nat) : Int)) = ((A.length : Nat) : Int) := by rw [wrS _ _ (by omega) (by omega)]; congr 1; omega
    have w2 : wr .i64 (((P.length + A.length + B.length : Nat) : Int) - ((P.length + A.length : Nat) : Int)) = ((B.length : Nat) : Int) := by rw [wrS _ _ (by omega) (by omega)]; congr 1; omega
    refine callA_body hT1 hmix Tryd.func48 rfl rfl (by kernel_rfl) Tryd.ntmps48 (Nat.le_of_ble_eq_true rfl) rfl ?_
    conv => whnf
    refine splitB_intro (fun h => ?_) (fun h => ?_) <;> (conv => whnf) <;> simp only [eqI_t, eqI_f] at h
    · rw [w1] at h
      obtain ⟨x, rfl⟩ : ∃ x, A = [x] := List.length_eq_one_iff.1 (by omega)
      -- the place
      refine loop_rule hT1 hmix (ι := {q : Nat × Nat // q.1 ≤ q.2 ∧ q.2 ≤ B.length ∧ (q.1 = 0 ∨ ord (B.getD (q.1 - 1) noEnt) x < 0) ∧ (q.2 = B.length ∨ ¬ ord (B.getD q.2 noEnt) x < 0)})
        (fun q => [(0, .msl 0 4 0 L), (1, wi P.length), (4, cmpF), (10, wi (P.length + 1 + q.1.1 : Nat)), (11, wi (P.length + 1 + q.1.2 : Nat))]) 9 (fun q => [(0, entO (P ++ [x] ++ B ++ S))]) (fun q => q.1.2 - q.1.1) (by kernel_rfl) ?_
        ⟨(0, B.length), Nat.zero_le _, Nat.le_refl _, .inl rfl, .inl rfl⟩ ⟨[], rfl, ⟨rfl, rfl, rfl, rfl, rfl, trivial⟩, ⟨_, rfl, .inr ⟨rfl, entO_imm _⟩⟩, trivial⟩
      intro ⟨(i, j), q1, q2, q3, q4⟩
      simp only at q1 q2 q3 q4
      simp only [List.length_singleton] at hL
      conv => whnf
      refine splitB_intro (fun h => ?_) (fun h => ?_) <;> (conv => whnf) <;> simp only [ltI_t, ltI_f] at h
      · refine ⟨by decide, by decide, ?_⟩
        conv => whnf
        have hc : ((P.length + 1 + i) + (P.length + 1 + j)) / 2 = P.length + 1 + (i + j) / 2 := by omega
        have wh := halfE (P.length + 1 + i) (P.length + 1 + j) (by omega)
        rw [hc] at wh
        have hij : i < j := by omega
        have hm : (i + j) / 2 < B.length := by omega
        have gx := getA (P := P) (A := [x]) (B := B) (S := S) (i := 0) (by simp)
        have gh := getB (P := P) (A := [x]) (B := B) (S := S) hm
        simp only [List.length_singleton, Nat.add_zero] at gx gh
        refine ⟨P.length + 1 + (i + j) / 2, wh, by omega, rfl, ?_⟩
        conv => whnf
        refine ⟨entO (P ++ [x] ++ B ++ S), (B.getD ((i + j) / 2) noEnt).c, rfl, rfl, map_get gh, ?_⟩
        conv => whnf
        refine ⟨P.length, rfl, by omega, rfl, ?_⟩
        conv => whnf
        refine ⟨entO (P ++ [x] ++ B ++ S), x.c, rfl, rfl, map_get gx, ?_⟩
        conv => whnf
        refine ⟨_, pc22 (B.getD ((i + j) / 2) noEnt) x, ?_⟩
        conv => whnf
        refine splitB_intro (fun h' => ?_) (fun h' => ?_) <;> (conv => whnf) <;> simp only [ltI_t, ltI_f] at h'
        · refine ⟨⟨((i + j) / 2 + 1, j), by omega, q2, .inr (by simpa using h'), q4⟩, ?_, [], rfl, ⟨rfl, rfl, rfl, ?_, rfl, trivial⟩, ⟨_, rfl, .inr ⟨rfl, entO_imm _⟩⟩, trivial⟩
          · show j - ((i + j) / 2 + 1) < j - i; omega
          · show D.v (Value.int .i64 (wr .i64 (wr .i64 _ + 1))) = _
            rw [wh, wrSucc _ (by omega)]; rfl
        · refine ⟨⟨(i, (i + j) / 2), by omega, by omega, q3, .inr (by simpa using h')⟩, ?_, [], rfl, ⟨rfl, rfl, rfl, rfl, ?_, trivial⟩, ⟨_, rfl, .inr ⟨rfl, entO_imm _⟩⟩, trivial⟩
          · show (i + j) / 2 - i < j - i; omega
          · show D.v (Value.int .i64 (wr .i64 _)) = _
            rw [wh]; rfl
      · have hi : i = j := by omega
        subst hi
        refine loop_rule hT1 hmix (ι := {t : Nat // t ≤ i}) (fun t => [(0, .msl 0 4 0 L), (1, wi P.length), (10, wi (P.length + 1 + i : Nat)), (13, wi (P.length + t.1 : Nat))]) 9 (fun t => [(0, entO (putI P x B S t.1))]) (fun t => i - t.1) (by kernel_rfl) ?_
          ⟨0, Nat.zero_le _⟩ ⟨[], rfl, ⟨rfl, rfl, rfl, rfl, trivial⟩, ⟨_, rfl, .inr ⟨by rw [putI, List.take_zero, List.drop_zero, List.nil_append]; simp, entO_imm _⟩⟩, trivial⟩
        intro ⟨t, ht⟩
        have wk : wr .i64 (((P.length + 1 + i : Nat) : Int) - 1) = ((P.length + i : Nat) : Int) := by rw [wr64 _ (by omega) (by omega)]; omega
        conv => whnf
        refine splitB_intro (fun h' => ?_) (fun h' => ?_) <;> (conv => whnf) <;> simp only [ltI_t, ltI_f] at h' <;> rw [wk] at h'
        · have htl : t < B.length := by omega
          refine ⟨P.length + t + 1, wrSucc (P.length + t) (by omega), by omega, rfl, ?_⟩
          conv => whnf
          refine ⟨entO (putI P x B S t), (B.getD t noEnt).c, rfl, rfl, map_get (putI_get1 htl), ?_⟩
          conv => whnf
          refine ⟨P.length + t, rfl, by omega, rfl, ?_⟩
          conv => whnf
          refine ⟨entO (putI P x B S t), x.c, rfl, rfl, map_get (putI_get0 htl), ?_⟩
          conv => whnf
          refine ⟨P.length + t, rfl, by omega, rfl, ?_⟩
          conv => whnf
          refine ⟨entO (putI P x B S t), x.c, rfl, rfl, map_get (putI_get0 htl), Nat.le_refl _, ?_⟩
          conv => whnf
          refine ⟨P.length + t + 1, wrSucc (P.length + t) (by omega), by omega, rfl, ?_⟩
          conv => whnf
          refine ⟨_, (B.getD t noEnt).c, rfl, rfl, ?_, Nat.le_refl _, ?_⟩
          · show (((putI P x B S t).map Ent.c).set (0 + (P.length + t)) (B.getD t noEnt).c)[0 + (P.length + t + 1)]? = _
            rw [Nat.zero_add (P.length + t), map_set]; exact map_get (putI_get1' htl _)
          conv => whnf
          refine ⟨⟨t + 1, by omega⟩, by show i - (t + 1) < i - t; omega, [], rfl, ⟨rfl, rfl, rfl, ?_, trivial⟩, ⟨_, rfl, .inr ⟨?_, entO_imm _⟩⟩, trivial⟩
          · show D.v (Value.int .i64 (wr .i64 (((P.length + t : Nat) : Int) + 1))) = _
            rw [wrSucc _ (by omega)]; rfl
          · show (⟨23, 4, (((putI P x B S t).map Ent.c).set (0 + (P.length + t)) (B.getD t noEnt).c).set (0 + (P.length + t + 1)) x.c⟩ : AObj) = entO (putI P x B S (t + 1))
            rw [Nat.zero_add, Nat.zero_add, map_set, map_set, putI_step htl]; rfl
        · have ht' : t = i := by omega
          subst ht'
          refine ⟨rfl, _, ⟨_, ⟨B.take t ++ x :: B.drop t, rfl, ins_perm B x t, srt_ins sB q2 (q3.imp id le_of_lt) (q4.imp id le_of_not_lt)⟩, rfl⟩, rfl⟩
    · refine splitB_intro (fun h2 => ?_) (fun h2 => ?_) <;> (conv => whnf) <;> simp only [eqI_t, eqI_f] at h2
      · rw [w2] at h2
        obtain ⟨y, rfl⟩ : ∃ y, B = [y] := List.length_eq_one_iff.1 (by omega)
        refine loop_rule hT1 hmix (ι := {q : Nat × Nat // q.1 ≤ q.2 ∧ q.2 ≤ A.length ∧ (q.1 = 0 ∨ ¬ ord y (A.getD (q.1 - 1) noEnt) < 0) ∧ (q.2 = A.length ∨ ord y (A.getD q.2 noEnt) < 0)})
          (fun q => [(0, .msl 0 4 0 L), (2, wi (P.length + A.length : Nat)), (4, cmpF), (14, wi (P.length + q.1.1 : Nat)), (15, wi (P.length + q.1.2 : Nat))]) 9 (fun q => [(0, entO (P ++ A ++ [y] ++ S))]) (fun q => q.1.2 - q.1.1) (by kernel_rfl) ?_
          ⟨(0, A.length), Nat.zero_le _, Nat.le_refl _, .inl rfl, .inl rfl⟩ ⟨[], rfl, ⟨rfl, rfl, rfl, rfl, rfl, trivial⟩, ⟨_, rfl, .inr ⟨rfl, entO_imm _⟩⟩, trivial⟩
        intro ⟨(i, j), q1, q2, q3, q4⟩
        simp only at q1 q2 q3 q4
        simp only [List.length_singleton] at hL
        conv => whnf
        refine splitB_intro (fun h => ?_) (fun h => ?_) <;> (conv => whnf) <;> simp only [ltI_t, ltI_f] at h
        · refine ⟨by decide, by decide, ?_⟩
          conv => whnf
          have hc : ((P.length + i) + (P.length + j)) / 2 = P.length + (i + j) / 2 := by omega
          have wh := halfE (P.length + i) (P.length + j) (by omega)
          rw [hc] at wh
          have hij : i < j := by omega
          have hm : (i + j) / 2 < A.length := by omega
          have gy := getB (P := P) (A := A) (B := [y]) (S := S) (i := 0) (by simp)
          have gh := getA (P := P) (A := A) (B := [y]) (S := S) hm
          simp only [Nat.add_zero] at gy gh
          refine ⟨P.length + A.length, rfl, by omega, rfl, ?_⟩
          conv => whnf
          refine ⟨entO (P ++ A ++ [y] ++ S), y.c, rfl, rfl, map_get gy, ?_⟩
          conv => whnf
          refine ⟨P.length + (i + j) / 2, wh, by omega, rfl, ?_⟩
          conv => whnf
          refine ⟨entO (P ++ A ++ [y] ++ S), (A.getD ((i + j) / 2) noEnt).c, rfl, rfl, map_get gh, ?_⟩
          conv => whnf
          refine ⟨_, pc22 y (A.getD ((i + j) / 2) noEnt), ?_⟩
          conv => whnf
          refine splitB_intro (fun h' => ?_) (fun h' => ?_) <;> (conv => whnf) <;> simp only [ltI_t, ltI_f] at h'
          · refine ⟨⟨(i, (i + j) / 2), by omega, by omega, q3, .inr h'⟩, ?_, [], rfl, ⟨rfl, rfl, rfl, rfl, ?_, trivial⟩, ⟨_, rfl, .inr ⟨rfl, entO_imm _⟩⟩, trivial⟩
            · show (i + j) / 2 - i < j - i; omega
            · show D.v (Value.int .i64 (wr .i64 _)) = _
              rw [wh]; rfl
          · refine ⟨⟨((i + j) / 2 + 1, j), by omega, q2, .inr (by simp only [Nat.add_sub_cancel]; omega), q4⟩, ?_, [], rfl, ⟨rfl, rfl, rfl, ?_, rfl, trivial⟩, ⟨_, rfl, .inr ⟨rfl, entO_imm _⟩⟩, trivial⟩
            · show j - ((i + j) / 2 + 1) < j - i; omega
            · show D.v (Value.int .i64 (wr .i64 (wr .i64 _ + 1))) = _
              rw [wh, wrSucc _ (by omega)]; rfl
        · have hi : i = j := by omega
          subst hi
          refine loop_rule hT1 hmix (ι := {t : Nat // i ≤ t ∧ t ≤ A.length}) (fun t => [(0, .msl 0 4 0 L), (14, wi (P.length + i : Nat)), (17, wi (P.length + t.1 : Nat))]) 9 (fun t => [(0, entO (putI P y A S t.1))]) (fun t => t.1) (by kernel_rfl) ?_
            ⟨A.length, q2, Nat.le_refl _⟩ ⟨[], rfl, ⟨rfl, rfl, rfl, trivial⟩, ⟨_, rfl, .inr ⟨by rw [putI, List.take_length, List.drop_length]; simp, entO_imm _⟩⟩, trivial⟩
          intro ⟨t, ht1, ht⟩
          conv => whnf
          refine splitB_intro (fun h' => ?_) (fun h' => ?_) <;> (conv => whnf) <;> simp only [ltI_t, ltI_f] at h'
          · obtain ⟨t, rfl⟩ : ∃ t', t = t' + 1 := ⟨t - 1, by omega⟩
            have htl : t < A.length := by omega
            have wp : wr .i64 (((P.length + (t + 1) : Nat) : Int) - 1) = ((P.length + t : Nat) : Int) := by rw [wr64 _ (by omega) (by omega)]; omega
            refine ⟨P.length + t, wp, by omega, rfl, ?_⟩
            conv => whnf
            refine ⟨entO (putI P y A S (t + 1)), (A.getD t noEnt).c, rfl, rfl, map_get (putI_get2 htl), ?_⟩
            conv => whnf
            refine ⟨P.length + t + 1, rfl, by omega, rfl, ?_⟩
            conv => whnf
            refine ⟨entO (putI P y A S (t + 1)), y.c, rfl, rfl, map_get (putI_get3 htl), ?_⟩
            conv => whnf
            refine ⟨P.length + t + 1, rfl, by omega, rfl, ?_⟩
            conv => whnf
            refine ⟨entO (putI P y A S (t + 1)), y.c, rfl, rfl, map_get (putI_get3 htl), Nat.le_refl _, ?_⟩
            conv => whnf
            refine ⟨P.length + t, wp, by omega, rfl, ?_⟩
            conv => whnf
            refine ⟨_, (A.getD t noEnt).c, rfl, rfl, ?_, Nat.le_refl _, ?_⟩
            · show (((putI P y A S (t + 1)).map Ent.c).set (0 + (P.length + t + 1)) (A.getD t noEnt).c)[0 + (P.length + t)]? = _
              rw [Nat.zero_add (P.length + t + 1), map_set]; exact map_get (putI_get2' htl _)
            conv => whnf
            refine ⟨⟨t, by omega, by omega⟩, by show t < t + 1; omega, [], rfl, ⟨rfl, rfl, ?_, trivial⟩, ⟨_, rfl, .inr ⟨?_, entO_imm _⟩⟩, trivial⟩
            · show D.v (Value.int .i64 (wr .i64 (((P.length + (t + 1) : Nat) : Int) - 1))) = _
              rw [wp]; rfl
            · show (⟨23, 4, (((putI P y A S (t + 1)).map Ent.c).set (0 + (P.length + t + 1)) (A.getD t noEnt).c).set (0 + (P.length + t)) y.c⟩ : AObj) = entO (putI P y A S t)
              rw [Nat.zero_add, Nat.zero_add, map_set, map_set, putI_back htl]; rfl
          · have ht' : t = i := by omega
            subst ht'
            refine ⟨rfl, _, ⟨_, ⟨A.take t ++ y :: A.drop t, rfl, (ins_perm A y t).trans (List.perm_append_singleton y A).symm, srt_ins sA q2 (q3.imp id le_of_not_lt) (q4.imp id le_of_lt)⟩, rfl⟩, rfl⟩
      · have hA2 : 2 ≤ A.length := by rw [w1] at h; omega
        have hB2 : 2 ≤ B.length := by rw [w2] at h2; omega
        refine ⟨by decide, by decide, ?_⟩
        conv => whnf
        -- the middle
        obtain ⟨mid, hmid⟩ : ∃ mid, mid = P.length + (A.length + B.length) / 2 := ⟨_, rfl⟩
        have wmid : wr .i64 (wr .u64 (wr .i64 (((P.length : Nat) : Int) + ((P.length + A.length + B.length : Nat) : Int))) / 2 ^ (1 : Int).toNat) = ((mid : Nat) : Int) := by
          rw [halfE _ _ (by omega)]; congr 1; omega
        obtain ⟨nn, hnn⟩ : ∃ nn, nn = mid + (P.length + A.length) := ⟨_, rfl⟩
        have wn : wr .i64 (((mid : Nat) : Int) + ((P.length + A.length : Nat) : Int)) = ((nn : Nat) : Int) := by rw [wrA _ _ (by omega) (by omega), hnn]
        have wn' : wr .i64 (wr .i64 (wr .u64 (wr .i64 (((P.length : Nat) : Int) + ((P.length + A.length + B.length : Nat) : Int))) / 2 ^ (1 : Int).toNat) + ((P.length + A.length : Nat) : Int)) = ((nn : Nat) : Int) := by rw [wmid]; exact wn
        have wp' : wr .i64 (wr .i64 (wr .i64 (wr .u64 (wr .i64 (((P.length : Nat) : Int) + ((P.length + A.length + B.length : Nat) : Int))) / 2 ^ (1 : Int).toNat) + ((P.length + A.length : Nat) : Int)) - 1) = ((nn - 1 : Nat) : Int) := by
          rw [wn', wr64 _ (by omega) (by omega)]; omega
        apply splitB_loop (σ := Nat × Nat) (fun q => q.1 ≤ q.2 ∧ P.length ≤ q.1 ∧ q.2 ≤ P.length + A.length ∧ q.2 ≤ mid ∧ nn - q.1 ≤ P.length + A.length + B.length ∧ (q.1 = P.length ∨ nn - q.1 = P.length + A.length + B.length) ∧ (q.2 = P.length + A.length ∨ q.2 = mid))
          (fun q => [(0, .msl 0 4 0 L), (1, wi P.length), (2, wi (P.length + A.length : Nat)), (3, wi (P.length + A.length + B.length : Nat)), (4, cmpF), (18, wi mid), (19, wi nn), (20, wi q.1), (21, wi q.2), (22, wi (nn - 1 : Nat))]) 9 (fun q => [(0, entO (P ++ A ++ B ++ S))])
        case pos =>
          intro h3 key
          rw [ltI_t, wmid] at h3
          have ws' : wr .i64 (wr .i64 (wr .i64 (wr .u64 (wr .i64 (((P.length : Nat) : Int) + ((P.length + A.length + B.length : Nat) : Int))) / 2 ^ (1 : Int).toNat) + ((P.length + A.length : Nat) : Int)) - ((P.length + A.length + B.length : Nat) : Int)) = ((nn - (P.length + A.length + B.length) : Nat) : Int) := by
            rw [wn', wrS _ _ (by omega) (by omega)]
          conv => whnf
          refine (key (nn - (P.length + A.length + B.length), mid) ⟨by show nn - (P.length + A.length + B.length) ≤ mid; omega, by show P.length ≤ nn - (P.length + A.length + B.length); omega, by show mid ≤ P.length + A.length; omega, Nat.le_refl _, by show nn - (nn - (P.length + A.length + B.length)) ≤ _; omega, .inr (by show nn - (nn - (P.length + A.length + B.length)) = _; omega), .inr rfl⟩).weaken
            ⟨[], rfl, ⟨rfl, rfl, rfl, rfl, rfl, congrArg (fun z => D.v (Value.int .i64 z)) wmid, congrArg (fun z => D.v (Value.int .i64 z)) wn', congrArg (fun z => D.v (Value.int .i64 z)) ws', congrArg (fun z => D.v (Value.int .i64 z)) wmid, congrArg (fun z => D.v (Value.int .i64 z)) wp', trivial⟩, ⟨_, rfl, .inr ⟨rfl, entO_imm _⟩⟩, trivial⟩
        case neg =>
          intro h3 key
          rw [ltI_f, wmid] at h3
          conv => whnf
          refine (key (P.length, P.length + A.length) ⟨by show P.length ≤ P.length + A.length; omega, Nat.le_refl _, Nat.le_refl _, by show P.length + A.length ≤ mid; omega, by show nn - P.length ≤ _; omega, .inl rfl, .inl rfl⟩).weaken
            ⟨[], rfl, ⟨rfl, rfl, rfl, rfl, rfl, congrArg (fun z => D.v (Value.int .i64 z)) wmid, congrArg (fun z => D.v (Value.int .i64 z)) wn', rfl, rfl, congrArg (fun z => D.v (Value.int .i64 z)) wp', trivial⟩, ⟨_, rfl, .inr ⟨rfl, entO_imm _⟩⟩, trivial⟩
        case all =>
          rintro ⟨s0, r0⟩ ⟨f1, f2, f3, f4, f5, f6, f7⟩
          simp only at f1 f2 f3 f4 f5 f6 f7
          refine loop_rule hT1 hmix (ι := {q : Nat × Nat // s0 ≤ q.1 ∧ q.1 ≤ q.2 ∧ q.2 ≤ r0 ∧ (q.1 = s0 ∨ ¬ ord (B.getD (mid - q.1) noEnt) (A.getD (q.1 - 1 - P.length) noEnt) < 0) ∧ (q.2 = r0 ∨ ord (B.getD (mid - 1 - q.2) noEnt) (A.getD (q.2 - P.length) noEnt) < 0)})
            (fun q => [(0, .msl 0 4 0 L), (1, wi P.length), (2, wi (P.length + A.length : Nat)), (3, wi (P.length + A.length + B.length : Nat)), (4, cmpF), (18, wi mid), (19, wi nn), (20, wi q.1.1), (21, wi q.1.2), (22, wi (nn - 1 : Nat))]) 9 (fun q => [(0, entO (P ++ A ++ B ++ S))]) (fun q => q.1.2 - q.1.1) (by kernel_rfl) ?_
            ⟨(s0, r0), Nat.le_refl _, f1, Nat.le_refl _, .inl rfl, .inl rfl⟩ ⟨[], rfl, ⟨rfl, rfl, rfl, rfl, rfl, rfl, rfl, rfl, rfl, rfl, trivial⟩, ⟨_, rfl, .inr ⟨rfl, entO_imm _⟩⟩, trivial⟩
          rintro ⟨⟨s, r⟩, g1, g2, g3, g4, g5⟩
          simp only at g1 g2 g3 g4 g5
          conv => whnf
          refine splitB_intro (fun h5 => ?_) (fun h5 => ?_) <;> (conv => whnf) <;> simp only [ltI_t, ltI_f] at h5
          · refine ⟨by decide, by decide, ?_⟩
            conv => whnf
            have wh := halfE s r (by omega)
            obtain ⟨c, hc⟩ : ∃ c, c = (s + r) / 2 := ⟨_, rfl⟩
            rw [← hc] at wh
            have wpc : wr .i64 (((nn - 1 : Nat) : Int) - wr .i64 (wr .u64 (wr .i64 ((s : Int) + (r : Int))) / 2 ^ (1 : Int).toNat)) = ((P.length + A.length + (mid - 1 - c) : Nat) : Int) := by
              rw [wh, wrS _ _ (by omega) (by omega)]; congr 1; omega
            have wc : wr .i64 (wr .u64 (wr .i64 ((s : Int) + (r : Int))) / 2 ^ (1 : Int).toNat) = ((P.length + (c - P.length) : Nat) : Int) := by rw [wh]; congr 1; omega
            have hcA : c - P.length < A.length := by omega
            have hcB : mid - 1 - c < B.length := by omega
            have gB := getB (P := P) (A := A) (B := B) (S := S) hcB
            have gA := getA (P := P) (A := A) (B := B) (S := S) hcA
            refine ⟨P.length + A.length + (mid - 1 - c), wpc, by omega, rfl, ?_⟩
            conv => whnf
            refine ⟨entO (P ++ A ++ B ++ S), (B.getD (mid - 1 - c) noEnt).c, rfl, rfl, map_get gB, ?_⟩
            conv => whnf
            refine ⟨P.length + (c - P.length), wc, by omega, rfl, ?_⟩
            conv => whnf
            refine ⟨entO (P ++ A ++ B ++ S), (A.getD (c - P.length) noEnt).c, rfl, rfl, map_get gA, ?_⟩
            conv => whnf
            refine ⟨_, pc22 (B.getD (mid - 1 - c) noEnt) (A.getD (c - P.length) noEnt), ?_⟩
            conv => whnf
            refine splitB_intro (fun h' => ?_) (fun h' => ?_) <;> (conv => whnf) <;> simp only [ltI_t, ltI_f] at h'
            · refine ⟨⟨(s, c), g1, by omega, by omega, g4, .inr h'⟩, ?_, [], rfl, ⟨rfl, rfl, rfl, rfl, rfl, rfl, rfl, rfl, congrArg (fun z => D.v (Value.int .i64 z)) wh, rfl, trivial⟩, ⟨_, rfl, .inr ⟨rfl, entO_imm _⟩⟩, trivial⟩
              show c - s < r - s; omega
            · refine ⟨⟨(c + 1, r), by omega, by omega, g3, .inr ?_, g5⟩, ?_, [], rfl, ⟨rfl, rfl, rfl, rfl, rfl, rfl, rfl, ?_, rfl, rfl, trivial⟩, ⟨_, rfl, .inr ⟨rfl, entO_imm _⟩⟩, trivial⟩
              · show ¬ ord (B.getD (mid - (c + 1)) noEnt) (A.getD (c + 1 - 1 - P.length) noEnt) < 0
                rw [Nat.add_sub_cancel, show mid - (c + 1) = mid - 1 - c by omega]; omega
              · show r - (c + 1) < r - s; omega
              · show D.v (Value.int .i64 (wr .i64 (wr .i64 _ + 1))) = _
                rw [wh, wrSucc _ (by omega)]; rfl
          · have hsr : r = s := by omega
            subst hsr
            have wend : wr .i64 (((nn : Nat) : Int) - ((r : Nat) : Int)) = ((nn - r : Nat) : Int) := wrS _ _ (by omega) (by omega)
            obtain ⟨A1, A2, B1, B2, eA, eB, lA, lB, hcut⟩ : ∃ A1 A2 B1 B2, A = A1 ++ A2 ∧ B = B1 ++ B2 ∧ A1.length = r - P.length ∧ B1.length = mid - r ∧ ∀ x ∈ A1 ++ B1, ∀ y ∈ A2 ++ B2, le x y := by
              refine ⟨A.take (r - P.length), A.drop (r - P.length), B.take (mid - r), B.drop (mid - r), by simp, by simp, by simp; omega, by simp; omega, srt_cut sA sB (by omega) (by omega) ?_ ?_⟩
              · rcases g4 with g4 | g4
                · rcases f6 with f6 | f6
                  · exact .inl (by omega)
                  · exact .inr (.inl (by omega))
                · refine .inr (.inr ?_)
                  have := le_of_not_lt g4
                  rw [show r - 1 - P.length = r - P.length - 1 by omega] at this
                  exact this
              · rcases g5 with g5 | g5
                · rcases f7 with f7 | f7
                  · exact .inr (.inl (by omega))
                  · exact .inl (by omega)
                · refine .inr (.inr ?_)
                  have := le_of_lt g5
                  rw [show mid - 1 - r = mid - r - 1 by omega] at this
                  exact this
            clear wn' wp' w1 w2 h h2 wmid wn
            subst eA eB
            have lAA : (A1 ++ A2).length = A1.length + A2.length := List.length_append
            have lBB : (B1 ++ B2).length = B1.length + B2.length := List.length_append
            obtain ⟨sA1, sA2, _⟩ := List.pairwise_append.1 sA
            obtain ⟨sB1, sB2, _⟩ := List.pairwise_append.1 sB
            have fin : ∀ C1 C2 : List Ent, C1.Perm (A1 ++ B1) → C2.Perm (A2 ++ B2) → Srt C1 → Srt C2 → ∀ l', l' = P ++ (C1 ++ C2) ++ S → MerR P (A1 ++ A2) (B1 ++ B2) S l' := by
              intro C1 C2 p1 p2 s1 s2 l' hl'
              refine ⟨C1 ++ C2, hl', (p1.append p2).trans ?_, srt_app s1 s2 (fun x hx y hy => hcut x (p1.mem_iff.1 hx) y (p2.mem_iff.1 hy))⟩
              rw [List.append_assoc, List.append_assoc]
              refine List.Perm.append_left _ ?_
              rw [← List.append_assoc, ← List.append_assoc]
              exact List.Perm.append_right _ List.perm_append_comm
            have le1 : (P ++ A1).length = r := by rw [List.length_append]; omega
            have eend : nn - r = mid + A2.length := by omega
            rw [eend] at wend
            -- behind the turn
            apply splitB_cut (σ := Unit) (fun _ => True) (fun _ => [(0, .msl 0 4 0 L), (1, wi P.length), (3, wi (P.length + (A1 ++ A2).length + (B1 ++ B2).length : Nat)), (4, cmpF), (18, wi mid), (20, wi r), (24, wi (mid + A2.length : Nat))]) 9 (fun _ => [(0, entO (P ++ A1 ++ B1 ++ (A2 ++ B2 ++ S)))])
            case pos =>
              intro k1 key
              simp only [ltI_t] at k1
              conv => whnf
              refine splitB_intro (fun k2 => ?_) (fun k2 => ?_)
              · simp only [ltI_t] at k2
                rw [wend] at k2
                conv => whnf
                refine (tc52 (P ++ A1) A2 B1 (B2 ++ S) (List.ne_nil_of_length_pos (by omega)) (List.ne_nil_of_length_pos (by omega)) L (by simp; omega) hs (l := P ++ (A1 ++ A2) ++ (B1 ++ B2) ++ S) (by simp)).use 0
                  (by
                    show [D.msl 0 4 0 L, wi r, wi (P.length + (A1 ++ A2).length : Nat), D.v (.int .i64 (wr .i64 (((nn : Nat) : Int) - ((r : Nat) : Int)))), cmpF] = [D.msl 0 4 0 L, wi (P ++ A1).length, wi ((P ++ A1).length + A2.length : Nat), wi ((P ++ A1).length + A2.length + B1.length : Nat), cmpF]
                    rw [wend, le1, show P.length + (A1 ++ A2).length = r + A2.length by omega, show mid + A2.length = r + A2.length + B1.length by omega]; rfl) rfl ?_
                rintro l' rfl
                conv => whnf
                refine (key () trivial).weaken ⟨[], rfl, ⟨rfl, rfl, rfl, rfl, rfl, rfl, congrArg (fun z => D.v (Value.int .i64 z)) wend, trivial⟩, ⟨_, rfl, .inr ⟨?_, entO_imm _⟩⟩, trivial⟩
                rw [show P ++ A1 ++ B1 ++ A2 ++ (B2 ++ S) = P ++ A1 ++ B1 ++ (A2 ++ B2 ++ S) by simp]
              · simp only [ltI_f] at k2
                rw [wend] at k2
                conv => whnf
                refine (key () trivial).weaken ⟨[], rfl, ⟨rfl, rfl, rfl, rfl, rfl, rfl, congrArg (fun z => D.v (Value.int .i64 z)) wend, trivial⟩, ⟨_, rfl, .inr ⟨?_, entO_imm _⟩⟩, trivial⟩
                have : B1 = [] := List.eq_nil_of_length_eq_zero (by omega)
                subst this; simp
            case neg =>
              intro k1 key
              simp only [ltI_f] at k1
              conv => whnf
              refine (key () trivial).weaken ⟨[], rfl, ⟨rfl, rfl, rfl, rfl, rfl, rfl, congrArg (fun z => D.v (Value.int .i64 z)) wend, trivial⟩, ⟨_, rfl, .inr ⟨?_, entO_imm _⟩⟩, trivial⟩
              have : A2 = [] := List.eq_nil_of_length_eq_zero (by omega)
              subst this; simp
            case all =>
              rintro ⟨⟩ -
              refine cut_rule hT1 hmix [(0, .msl 0 4 0 L), (1, wi P.length), (3, wi (P.length + (A1 ++ A2).length + (B1 ++ B2).length : Nat)), (4, cmpF), (18, wi mid), (20, wi r), (24, wi (mid + A2.length : Nat))] 9 [(0, entO (P ++ A1 ++ B1 ++ (A2 ++ B2 ++ S)))] (by kernel_rfl)
                ⟨[], rfl, ⟨rfl, rfl, rfl, rfl, rfl, rfl, rfl, trivial⟩, ⟨_, rfl, .inr ⟨rfl, entO_imm _⟩⟩, trivial⟩ ?_
              conv => whnf
              -- behind the first half's merge
              apply splitB_cut (σ := List Ent) (fun C1 => C1.Perm (A1 ++ B1) ∧ Srt C1) (fun _ => [(0, .msl 0 4 0 L), (3, wi (P.length + (A1 ++ A2).length + (B1 ++ B2).length : Nat)), (4, cmpF), (18, wi mid), (24, wi (mid + A2.length : Nat))]) 9 (fun C1 => [(0, entO (P ++ C1 ++ (A2 ++ B2 ++ S)))])
              case pos =>
                intro k3 key
                simp only [ltI_t] at k3
                conv => whnf
                refine splitB_intro (fun k4 => ?_) (fun k4 => ?_)
                · simp only [ltI_t] at k4
                  conv => whnf
                  refine (tc48 k P A1 B1 (A2 ++ B2 ++ S) L (by omega) (List.ne_nil_of_length_pos (by omega)) (List.ne_nil_of_length_pos (by omega)) sA1 sB1 (by simp; omega) hs (l := P ++ A1 ++ B1 ++ (A2 ++ B2 ++ S)) rfl).use 0
                    (by
                      show [D.msl 0 4 0 L, wi P.length, wi r, wi mid, cmpF] = [D.msl 0 4 0 L, wi P.length, wi (P.length + A1.length : Nat), wi (P.length + A1.length + B1.length : Nat), cmpF]
                      rw [show P.length + A1.length = r by omega, show r + B1.length = mid by omega]) rfl ?_
                  rintro l' ⟨C1, rfl, p1, q1⟩
                  conv => whnf
                  exact (key C1 ⟨p1, q1⟩).weaken ⟨[], rfl, ⟨rfl, rfl, rfl, rfl, rfl, trivial⟩, ⟨_, rfl, .inr ⟨rfl, entO_imm _⟩⟩, trivial⟩
                · simp only [ltI_f] at k4
                  conv => whnf
                  have : B1 = [] := List.eq_nil_of_length_eq_zero (by omega)
                  refine (key A1 ⟨by subst this; simp, sA1⟩).weaken ⟨[], rfl, ⟨rfl, rfl, rfl, rfl, rfl, trivial⟩, ⟨_, rfl, .inr ⟨?_, entO_imm _⟩⟩, trivial⟩
                  subst this; simp
              case neg =>
                intro k3 key
                simp only [ltI_f] at k3
                conv => whnf
                have : A1 = [] := List.eq_nil_of_length_eq_zero (by omega)
                refine (key B1 ⟨by subst this; simp, sB1⟩).weaken ⟨[], rfl, ⟨rfl, rfl, rfl, rfl, rfl, trivial⟩, ⟨_, rfl, .inr ⟨?_, entO_imm _⟩⟩, trivial⟩
                subst this; simp
              case all =>
                rintro C1 ⟨p1, q1⟩
                have lC1 : C1.length = A1.length + B1.length := by rw [p1.length_eq, List.length_append]
                have lPC : (P ++ C1).length = mid := by rw [List.length_append]; omega
                refine cut_rule hT1 hmix [(0, .msl 0 4 0 L), (3, wi (P.length + (A1 ++ A2).length + (B1 ++ B2).length : Nat)), (4, cmpF), (18, wi mid), (24, wi (mid + A2.length : Nat))] 9 [(0, entO (P ++ C1 ++ (A2 ++ B2 ++ S)))] (by kernel_rfl)
                  ⟨[], rfl, ⟨rfl, rfl, rfl, rfl, rfl, trivial⟩, ⟨_, rfl, .inr ⟨rfl, entO_imm _⟩⟩, trivial⟩ ?_
                conv => whnf
                refine splitB_intro (fun k5 => ?_) (fun k5 => ?_) <;> simp only [ltI_t, ltI_f] at k5 <;> conv => whnf
                · refine splitB_intro (fun k6 => ?_) (fun k6 => ?_) <;> simp only [ltI_t, ltI_f] at k6 <;> conv => whnf
                  · refine (tc48 k (P ++ C1) A2 B2 S L (by omega) (List.ne_nil_of_length_pos (by omega)) (List.ne_nil_of_length_pos (by omega)) sA2 sB2 (by omega) hs (l := P ++ C1 ++ (A2 ++ B2 ++ S)) (by simp)).use 0
                      (by
                        show [D.msl 0 4 0 L, wi mid, wi (mid + A2.length : Nat), wi (P.length + (A1 ++ A2).length + (B1 ++ B2).length : Nat), cmpF] = [D.msl 0 4 0 L, wi (P ++ C1).length, wi ((P ++ C1).length + A2.length : Nat), wi ((P ++ C1).length + A2.length + B2.length : Nat), cmpF]
                        rw [lPC, show P.length + (A1 ++ A2).length + (B1 ++ B2).length = mid + A2.length + B2.length by omega]) rfl ?_
                    rintro l' ⟨C2, rfl, p2, q2⟩
                    conv => whnf
                    exact ⟨rfl, _, ⟨_, fin C1 C2 p1 p2 q1 q2 _ (by simp), rfl⟩, rfl⟩
                  · have : B2 = [] := List.eq_nil_of_length_eq_zero (by omega)
                    exact ⟨rfl, _, ⟨_, fin C1 A2 p1 (by subst this; simp) q1 sA2 _ (by subst this; simp), rfl⟩, rfl⟩
                · have : A2 = [] := List.eq_nil_of_length_eq_zero (by omega)
                  exact ⟨rfl, _, ⟨_, fin C1 B2 p1 (by subst this; simp) q1 sB2 _ (by subst this; simp), rfl⟩, rfl⟩
end Bk
