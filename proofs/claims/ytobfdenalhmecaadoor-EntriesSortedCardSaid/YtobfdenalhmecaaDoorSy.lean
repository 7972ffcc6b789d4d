/- Sorting. -/
import Derived.Test.YtobfdenalhmecaaDoorSx
set_option linter.unusedSimpArgs false
set_option linter.unusedSectionVars false
set_option linter.unusedVariables false
namespace Bk
open Go Go.Proofs

theorem Turns.mono {f : Nat} {args : List D} {l : List Ent} {R R' : List Ent → Prop} (h : Turns f args l R) (hR : ∀ l', R l' → R' l') : Turns f args l R' :=
  CallA.mono h fun d n H ⟨h1, O', ⟨l', h2, h3⟩, h4⟩ => ⟨h1, O', ⟨l', hR l' h2, h3⟩, h4⟩

/-! ### Insertion -/
theorem swp_mid (A B : List Ent) (y x : Ent) {j : Nat} (h : j = A.length) : swp (A ++ y :: x :: B) (j + 1) j = A ++ x :: y :: B := by
  have g1 : (A ++ y :: x :: B)[j]? = some y := get_mid A (x :: B) y h
  have g2 : (A ++ y :: x :: B)[j + 1]? = some x := by
    rw [show A ++ y :: x :: B = (A ++ [y]) ++ x :: B by simp]; exact get_mid _ _ _ (by simp; omega)
  have d1 : (A ++ y :: x :: B).getD j noEnt = y := by rw [List.getD_eq_getElem?_getD, g1]; rfl
  have d2 : (A ++ y :: x :: B).getD (j + 1) noEnt = x := by rw [List.getD_eq_getElem?_getD, g2]; rfl
  unfold swp
  rw [d1, d2, show A ++ y :: x :: B = (A ++ [y]) ++ x :: B by simp, set_mid _ _ _ _ (by simp; omega), show (A ++ [y]) ++ y :: B = A ++ y :: (y :: B) by simp, set_mid _ _ _ _ h]

theorem sink_srt (P : List Ent) (x : Ent) : ∀ (n : Nat) (Y R : List Ent), Y.length = n → Srt Y → ∃ Y', sinkL P.length (P.length + n) (P ++ Y ++ x :: R) = P ++ Y' ++ R ∧ Y'.Perm (Y ++ [x]) ∧ Srt Y'
  | 0, Y, R, hY, _ => by
    have : Y = [] := List.eq_nil_of_length_eq_zero hY
    subst this
    refine ⟨[x], ?_, List.Perm.refl _, List.pairwise_singleton _ _⟩
    cases hp : P.length with
    | zero => simp [sinkL]
    | succ p => simp only [Nat.add_zero, sinkL]; rw [if_neg (by omega)]; simp
  | n + 1, Y, R, hY, hs => by
    obtain ⟨Y0, y, rfl⟩ : ∃ Y0 y, Y = Y0 ++ [y] := by
      rcases List.eq_nil_or_concat Y with h | ⟨Y0, y, h⟩
      · subst h; simp at hY
      · exact ⟨Y0, y, by simpa using h⟩
    have hY0 : Y0.length = n := by simp at hY; exact hY
    obtain ⟨hs0, _, hs1⟩ := List.pairwise_append.1 hs
    have hs2 : ∀ z ∈ Y0, le z y := fun z hz => hs1 z hz y (by simp)
    have e0 : P ++ (Y0 ++ [y]) ++ x :: R = (P ++ Y0) ++ y :: x :: R := by simp
    have hj : P.length + n = (P ++ Y0).length := by simp; omega
    have g1 : (P ++ (Y0 ++ [y]) ++ x :: R).getD (P.length + n) noEnt = y := by rw [e0, List.getD_eq_getElem?_getD, get_mid _ _ _ hj]; rfl
    have g2 : (P ++ (Y0 ++ [y]) ++ x :: R).getD (P.length + n + 1) noEnt = x := by
      rw [show P ++ (Y0 ++ [y]) ++ x :: R = (P ++ Y0 ++ [y]) ++ x :: R by simp, List.getD_eq_getElem?_getD, get_mid _ _ _ (by simp; omega)]; rfl
    rw [show P.length + (n + 1) = P.length + n + 1 by omega]
    simp only [sinkL]
    rw [g1, g2]
    by_cases h : ord x y < 0
    · rw [if_pos ⟨by omega, h⟩, e0, swp_mid _ _ _ _ hj]
      obtain ⟨Y', h1, h2, h3⟩ := sink_srt P x n Y0 (y :: R) hY0 hs0
      refine ⟨Y' ++ [y], by rw [h1]; simp, (h2.append_right [y]).trans ?_, srt_app h3 (List.pairwise_singleton _ _) (fun a ha b hb => ?_)⟩
      · rw [List.append_assoc, List.append_assoc]; exact List.Perm.append_left _ (List.Perm.swap y x [])
      · rw [List.mem_singleton.1 hb]
        have := h2.mem_iff.1 ha
        rcases List.mem_append.1 this with h4 | h4
        · exact hs2 a h4
        · rw [List.mem_singleton.1 h4]; exact le_of_lt h
    · rw [if_neg (fun hh => h hh.2)]
      refine ⟨Y0 ++ [y] ++ [x], by simp, List.Perm.refl _, srt_app hs (List.pairwise_singleton _ _) (fun a ha b hb => ?_)⟩
      rw [List.mem_singleton.1 hb]
      have hyx := le_of_not_lt h
      rcases List.mem_append.1 ha with h4 | h4
      · exact le_trans' (hs2 a h4) hyx
      · rw [List.mem_singleton.1 h4]; exact hyx

theorem insL_srt (P : List Ent) : ∀ (k : Nat) (Y Z R : List Ent), Z.length = k → Srt Y → ∃ C, insL P.length (P.length + Y.length) k (P ++ Y ++ Z ++ R) = P ++ C ++ R ∧ C.Perm (Y ++ Z) ∧ Srt C
  | 0, Y, Z, R, hZ, hs => by
    have : Z = [] := List.eq_nil_of_length_eq_zero hZ
    subst this
    exact ⟨Y, by simp [insL], by simp, hs⟩
  | k + 1, Y, [], R, hZ, hs => by simp at hZ
  | k + 1, Y, z :: Z, R, hZ, hs => by
    simp only [insL]
    obtain ⟨Y', h1, h2, h3⟩ := sink_srt P z Y.length Y (Z ++ R) rfl hs
    rw [show P ++ Y ++ z :: Z ++ R = P ++ Y ++ z :: (Z ++ R) by simp, h1]
    obtain ⟨C, h4, h5, h6⟩ := insL_srt P k Y' Z R (by simpa using hZ) h3
    have hl : Y'.length = Y.length + 1 := by rw [h2.length_eq]; simp
    rw [hl] at h4
    refine ⟨C, by rw [← h4]; congr 1; simp, h5.trans ?_, h6⟩
    refine (h2.append_right Z).trans ?_
    rw [List.append_assoc]; exact List.Perm.refl _

/-- insertion sort, of a part -/
def InsR (P X S : List Ent) (l' : List Ent) : Prop := ∃ C, l' = P ++ C ++ S ∧ C.Perm X ∧ Srt C
theorem tc47s (P X S : List Ent) (L : Nat) (hL : L = P.length + X.length + S.length) (hs : L < 1000000) {l : List Ent} (hl : l = P ++ X ++ S) : Turns 47 [.msl 0 4 0 L, wi P.length, wi (P.length + X.length : Nat), cmpF] l (InsR P X S) := by
  subst hl
  have hlen : (P ++ X ++ S).length = L := by simp; omega
  have h := tc47 (P ++ X ++ S) P.length (P.length + X.length) (by omega) (by omega) (by omega)
  rw [hlen] at h
  refine h.mono ?_
  rintro l' rfl
  cases X with
  | nil =>
    refine ⟨[], ?_, List.Perm.refl _, List.Pairwise.nil⟩
    rw [show P.length + ([] : List Ent).length - (P.length + 1) = 0 by simp]; simp [insL]
  | cons x X =>
    obtain ⟨C, h1, h2, h3⟩ := insL_srt P X.length [x] X S rfl (List.pairwise_singleton _ _)
    refine ⟨C, ?_, by simpa using h2, h3⟩
    rw [← h1]
    congr 1
    · simp; omega
    · simp

/-! ### The whole -/
def Blk (w : Nat) (T : List (List Ent)) : Prop := ∀ t ∈ T, t.length = w ∧ Srt t
theorem Blk.len {w : Nat} : ∀ {T : List (List Ent)}, Blk w T → T.flatten.length = T.length * w
  | [], _ => by simp
  | t :: T, h => by
    have h1 := (h t (by simp)).1
    have h2 := Blk.len (T := T) (fun u hu => h u (by simp [hu]))
    rw [List.flatten_cons, List.length_append, h1, h2, List.length_cons, Nat.add_mul]; omega
theorem Blk.snoc {w : Nat} {T : List (List Ent)} {t : List Ent} (h : Blk w T) (h1 : t.length = w) (h2 : Srt t) : Blk w (T ++ [t]) := by
  intro u hu
  rcases List.mem_append.1 hu with hu | hu
  · exact h u hu
  · rw [List.mem_singleton.1 hu]; exact ⟨h1, h2⟩

def SortR (l : List Ent) (l' : List Ent) : Prop := l'.Perm l ∧ Srt l'

theorem tc39 (l : List Ent) (hl : l.length < 1000000) : Turns 39 [.msl 0 4 0 l.length, wi l.length, cmpF] l (SortR l) := by
  refine callA_body hT1 hmix Tryd.func39 rfl rfl (by kernel_rfl) Tryd.ntmps39 (Nat.le_of_ble_eq_true rfl) rfl ?_
  conv => whnf
  obtain ⟨n, hn⟩ : ∃ n, n = l.length := ⟨_, rfl⟩
  rw [← hn] at hl ⊢
  refine loop_rule hT1 hmix (ι := {q : List (List Ent) × List Ent // Blk 20 q.1 ∧ (q.1.flatten ++ q.2).Perm l}) (fun q => [(0, .msl 0 4 0 n), (1, wi n), (2, cmpF), (6, wi 20), (7, wi q.1.1.flatten.length), (8, wi (q.1.1.flatten.length + 20 : Nat))]) 9 (fun q => [(0, entO (q.1.1.flatten ++ q.1.2))]) (fun q => q.1.2.length) (by kernel_rfl) ?_
    ⟨([], l), fun t ht => (by simp at ht), List.Perm.refl _⟩ ⟨[], rfl, ⟨rfl, rfl, rfl, rfl, rfl, rfl, trivial⟩, ⟨_, rfl, .inr ⟨rfl, entO_imm _⟩⟩, trivial⟩
  rintro ⟨⟨Dn, X⟩, q1, q2⟩
  simp only at q1 q2
  have ql : Dn.flatten.length + X.length = n := by rw [hn, ← q2.length_eq, List.length_append]
  conv => whnf
  refine splitB_intro (fun h => ?_) (fun h => ?_) <;> (conv => whnf) <;> simp only [leI_t, leI_f] at h
  · obtain ⟨X1, X2, rfl, hX1⟩ : ∃ X1 X2, X = X1 ++ X2 ∧ X1.length = 20 := ⟨X.take 20, X.drop 20, by simp, by simp; omega⟩
    rw [List.length_append] at ql
    refine (tc47s Dn.flatten X1 X2 n (by omega) hl (l := Dn.flatten ++ (X1 ++ X2)) (by simp)).use 0 (by rw [hX1]; rfl) rfl ?_
    rintro l' ⟨C, rfl, p1, s1⟩
    conv => whnf
    have hC : C.length = 20 := by rw [p1.length_eq]; exact hX1
    have hfl : (Dn ++ [C]).flatten = Dn.flatten ++ C := by simp
    refine ⟨⟨(Dn ++ [C], X2), q1.snoc hC s1, ?_⟩, ?_, [], rfl, ⟨rfl, rfl, rfl, rfl, ?_, ?_, trivial⟩, ⟨_, rfl, .inr ⟨?_, entO_imm _⟩⟩, trivial⟩
    · simp only
      rw [hfl]
      refine List.Perm.trans ?_ q2
      rw [List.append_assoc]
      exact List.Perm.append_left _ (List.Perm.append_right _ p1)
    · show X2.length < (X1 ++ X2).length
      rw [List.length_append]; omega
    · show wi (Dn.flatten.length + 20 : Nat) = wi (Dn ++ [C]).flatten.length
      rw [hfl, List.length_append, hC]
    · show D.v (Value.int .i64 (wr .i64 (((Dn.flatten.length + 20 : Nat) : Int) + ((20 : Nat) : Int)))) = wi ((Dn ++ [C]).flatten.length + 20 : Nat)
      rw [wrA _ _ (by omega) (by omega), hfl, List.length_append, hC]; rfl
    · show entO (Dn.flatten ++ C ++ X2) = entO ((Dn ++ [C]).flatten ++ X2)
      rw [hfl]
  · have hX : X.length < 20 := by omega
    refine (tc47s Dn.flatten X [] n (by rw [List.length_nil]; omega) hl (l := Dn.flatten ++ X) (by simp)).use 0 (by rw [ql]; rfl) rfl ?_
    rintro l' ⟨r, rfl, p1, s1⟩
    conv => whnf
    have hr : r.length < 20 := by rw [p1.length_eq]; exact hX
    have hpm : (Dn.flatten ++ r).Perm l := (List.Perm.append_left _ p1).trans q2
    refine loop_rule hT1 hmix (ι := {q : Nat × List (List Ent) × List Ent // 0 < q.1 ∧ q.1 < 2000000 ∧ Blk q.1 q.2.1 ∧ q.2.2.length < q.1 ∧ Srt q.2.2 ∧ (q.2.1.flatten ++ q.2.2).Perm l}) (fun q => [(0, .msl 0 4 0 n), (1, wi n), (2, cmpF), (6, wi q.1.1)]) 9 (fun q => [(0, entO (q.1.2.1.flatten ++ q.1.2.2))]) (fun q => n - q.1.1) (by kernel_rfl) ?_
      ⟨(20, Dn, r), by show 0 < 20; decide, by show 20 < 2000000; decide, q1, hr, s1, hpm⟩ ⟨[], rfl, ⟨rfl, rfl, rfl, rfl, trivial⟩, ⟨_, rfl, .inr ⟨by rw [List.append_nil], entO_imm _⟩⟩, trivial⟩
    rintro ⟨⟨bs, T, r⟩, b1, b2, b3, b4, b5, b6⟩
    simp only at b1 b2 b3 b4 b5 b6
    have bl : T.flatten.length + r.length = n := by rw [hn, ← b6.length_eq, List.length_append]
    conv => whnf
    refine splitB_intro (fun h3 => ?_) (fun h3 => ?_) <;> (conv => whnf) <;> simp only [ltI_t, ltI_f] at h3
    · have w2 : wr .i64 (2 * ((bs : Nat) : Int)) = ((2 * bs : Nat) : Int) := by rw [wr64 _ (by omega) (by omega)]; omega
      have w2' : wr .i64 (((bs : Nat) : Int) * 2) = ((2 * bs : Nat) : Int) := by rw [wr64 _ (by omega) (by omega)]; omega
      refine loop_rule hT1 hmix (ι := {q : List (List Ent) × List (List Ent) // Blk (2 * bs) q.1 ∧ Blk bs q.2 ∧ (q.1.flatten ++ (q.2.flatten ++ r)).Perm l}) (fun q => [(0, .msl 0 4 0 n), (1, wi n), (2, cmpF), (6, wi bs), (7, wi q.1.1.flatten.length), (8, wi (q.1.1.flatten.length + 2 * bs : Nat))]) 9 (fun q => [(0, entO (q.1.1.flatten ++ (q.1.2.flatten ++ r)))]) (fun q => q.1.2.length) (by kernel_rfl) ?_
        ⟨([], T), fun t ht => (by simp at ht), b3, b6⟩ ⟨[], rfl, ⟨rfl, rfl, rfl, rfl, rfl, ?_, trivial⟩, ⟨_, rfl, .inr ⟨rfl, entO_imm _⟩⟩, trivial⟩
      rotate_left
      · show D.v (Value.int .i64 (wr .i64 (2 * ((bs : Nat) : Int)))) = wi (([] : List (List Ent)).flatten.length + 2 * bs : Nat)
        rw [w2]; simp [wi]
      rintro ⟨⟨Dn, T⟩, c1, c2, c3⟩
      simp only at c1 c2 c3
      have cl : Dn.flatten.length + (T.flatten.length + r.length) = n := by rw [hn, ← c3.length_eq, List.length_append, List.length_append]
      conv => whnf
      refine splitB_intro (fun h4 => ?_) (fun h4 => ?_) <;> (conv => whnf) <;> simp only [leI_t, leI_f] at h4
      · obtain ⟨A, B, T, rfl⟩ : ∃ A B T', T = A :: B :: T' := by
          match T, c2, cl with
          | [], _, cl => simp only [List.flatten_nil, List.flatten_cons, List.append_nil, List.length_append, List.length_nil] at cl; omega
          | [A], c2, cl => have := (c2 A (by simp)).1; simp only [List.flatten_nil, List.flatten_cons, List.append_nil, List.length_append, List.length_nil] at cl; omega
          | A :: B :: T, _, _ => exact ⟨A, B, T, rfl⟩
        obtain ⟨lA, sA⟩ := c2 A (by simp)
        obtain ⟨lB, sB⟩ := c2 B (by simp)
        have c2' : Blk bs T := fun t ht => c2 t (by simp [ht])
        have cl' : Dn.flatten.length + (A.length + (B.length + T.flatten.length) + r.length) = n := by rw [← cl]; simp
        have e1 : Dn.flatten ++ ((A :: B :: T).flatten ++ r) = Dn.flatten ++ A ++ B ++ (T.flatten ++ r) := by simp
        refine (tc48 _ Dn.flatten A B (T.flatten ++ r) n (Nat.le_refl _) (List.ne_nil_of_length_pos (by omega)) (List.ne_nil_of_length_pos (by omega)) sA sB (by rw [List.length_append]; omega) hl e1).use 0 ?_ rfl ?_
        · show [D.msl 0 4 0 n, wi Dn.flatten.length, D.v (.int .i64 (wr .i64 (((Dn.flatten.length : Nat) : Int) + ((bs : Nat) : Int)))), wi (Dn.flatten.length + 2 * bs : Nat), cmpF] = [D.msl 0 4 0 n, wi Dn.flatten.length, wi (Dn.flatten.length + A.length : Nat), wi (Dn.flatten.length + A.length + B.length : Nat), cmpF]
          rw [wrA _ _ (by omega) (by omega), lA, lB, show Dn.flatten.length + 2 * bs = Dn.flatten.length + bs + bs by omega]; rfl
        · rintro l' ⟨C, rfl, p1, s1⟩
          conv => whnf
          have hC : C.length = 2 * bs := by rw [p1.length_eq, List.length_append]; omega
          have hfl : (Dn ++ [C]).flatten = Dn.flatten ++ C := by simp
          refine ⟨⟨(Dn ++ [C], T), c1.snoc hC s1, c2', ?_⟩, ?_, [], rfl, ⟨rfl, rfl, rfl, rfl, ?_, ?_, trivial⟩, ⟨_, rfl, .inr ⟨?_, entO_imm _⟩⟩, trivial⟩
          · simp only
            have e2 : Dn.flatten ++ C ++ (T.flatten ++ r) = Dn.flatten ++ (C ++ (T.flatten ++ r)) := by simp
            have e3 : Dn.flatten ++ A ++ B ++ (T.flatten ++ r) = Dn.flatten ++ ((A ++ B) ++ (T.flatten ++ r)) := by simp
            rw [hfl, e2]
            refine List.Perm.trans ?_ c3
            rw [e1, e3]
            exact List.Perm.append_left _ (List.Perm.append_right _ p1)
          · show T.length < (A :: B :: T).length
            simp only [List.length_cons]; omega
          · show wi (Dn.flatten.length + 2 * bs : Nat) = wi (Dn ++ [C]).flatten.length
            rw [hfl, List.length_append, hC]
          · show D.v (Value.int .i64 (wr .i64 (((Dn.flatten.length + 2 * bs : Nat) : Int) + wr .i64 (2 * ((bs : Nat) : Int))))) = wi ((Dn ++ [C]).flatten.length + 2 * bs : Nat)
            rw [w2, wrA _ _ (by omega) (by omega), hfl, List.length_append, hC]; rfl
          · show entO (Dn.flatten ++ C ++ (T.flatten ++ r)) = entO ((Dn ++ [C]).flatten ++ (T.flatten ++ r))
            rw [hfl]
      · have wm : wr .i64 (((Dn.flatten.length : Nat) : Int) + ((bs : Nat) : Int)) = ((Dn.flatten.length + bs : Nat) : Int) := wrA _ _ (by omega) (by omega)
        refine splitB_intro (fun h5 => ?_) (fun h5 => ?_) <;> (conv => whnf) <;> simp only [ltI_t, ltI_f] at h5 <;> rw [wm] at h5
        · -- a block and a rest
          obtain ⟨A, rfl⟩ : ∃ A, T = [A] := by
            match T, c2, cl with
            | [], _, cl => simp only [List.flatten_nil, List.flatten_cons, List.append_nil, List.length_append, List.length_nil] at cl; omega
            | [A], _, _ => exact ⟨A, rfl⟩
            | A :: B :: T, c2, cl =>
              have h6 := (c2 A (by simp)).1
              have h7 := (c2 B (by simp)).1
              simp only [List.flatten_nil, List.flatten_cons, List.append_nil, List.length_append, List.length_nil] at cl; omega
          obtain ⟨lA, sA⟩ := c2 A (by simp)
          simp only [List.flatten_cons, List.flatten_nil, List.append_nil] at cl
          have e1 : Dn.flatten ++ ([A].flatten ++ r) = Dn.flatten ++ A ++ r ++ [] := by simp
          refine (tc48 _ Dn.flatten A r [] n (Nat.le_refl _) (List.ne_nil_of_length_pos (by omega)) (List.ne_nil_of_length_pos (by omega)) sA b5 (by rw [List.length_nil]; omega) hl e1).use 0 ?_ rfl ?_
          · show [D.msl 0 4 0 n, wi Dn.flatten.length, D.v (.int .i64 (wr .i64 (((Dn.flatten.length : Nat) : Int) + ((bs : Nat) : Int)))), wi n, cmpF] = [D.msl 0 4 0 n, wi Dn.flatten.length, wi (Dn.flatten.length + A.length : Nat), wi (Dn.flatten.length + A.length + r.length : Nat), cmpF]
            rw [wm, lA, show n = Dn.flatten.length + bs + r.length by omega]; rfl
          · rintro l' ⟨C, rfl, p1, s1⟩
            conv => whnf
            have hC : C.length = bs + r.length := by rw [p1.length_eq, List.length_append]; omega
            refine ⟨⟨(2 * bs, Dn, C), by show 0 < 2 * bs; omega, by show 2 * bs < 2000000; omega, c1, by show C.length < 2 * bs; omega, s1, ?_⟩, ?_, [], rfl, ⟨rfl, rfl, rfl, congrArg (fun z => D.v (Value.int .i64 z)) w2', trivial⟩, ⟨_, rfl, .inr ⟨?_, entO_imm _⟩⟩, trivial⟩
            · simp only
              refine List.Perm.trans (List.Perm.append_left _ p1) ?_
              rw [show [A].flatten ++ r = A ++ r by simp] at c3
              exact c3
            · show n - 2 * bs < n - bs; omega
            · show entO (Dn.flatten ++ C ++ []) = entO (Dn.flatten ++ C)
              rw [List.append_nil]
        · -- nothing to merge
          obtain ⟨r', hr', lr', sr'⟩ : ∃ r', T.flatten ++ r = r' ∧ r'.length < 2 * bs ∧ Srt r' := by
            match T, c2, cl with
            | [], _, cl => exact ⟨r, by simp, by omega, b5⟩
            | [A], c2, cl =>
              obtain ⟨lA, sA⟩ := c2 A (by simp)
              have h6 : r = [] := by
                simp only [List.flatten_nil, List.flatten_cons, List.append_nil, List.length_append, List.length_nil] at cl
                exact List.eq_nil_of_length_eq_zero (by omega)
              exact ⟨A, by subst h6; simp, by omega, sA⟩
            | A :: B :: T, c2, cl =>
              have h6 := (c2 A (by simp)).1
              have h7 := (c2 B (by simp)).1
              simp only [List.flatten_nil, List.flatten_cons, List.append_nil, List.length_append, List.length_nil] at cl; omega
          have c4 := c3
          rw [hr'] at c4
          refine ⟨⟨(2 * bs, Dn, r'), by show 0 < 2 * bs; omega, by show 2 * bs < 2000000; omega, c1, lr', sr', c4⟩, ?_, [], rfl, ⟨rfl, rfl, rfl, congrArg (fun z => D.v (Value.int .i64 z)) w2', trivial⟩, ⟨_, rfl, .inr ⟨?_, entO_imm _⟩⟩, trivial⟩
          · show n - 2 * bs < n - bs; omega
          · show entO (Dn.flatten ++ (T.flatten ++ r)) = entO (Dn.flatten ++ r')
            rw [hr']
    · -- sorted
      have hS : Srt (T.flatten ++ r) := by
        match T, b3, bl with
        | [], _, _ => simpa using b5
        | [A], b3, bl =>
          obtain ⟨lA, sA⟩ := b3 A (by simp)
          have h6 : r = [] := by
            simp only [List.flatten_nil, List.flatten_cons, List.append_nil, List.length_append, List.length_nil] at bl
            exact List.eq_nil_of_length_eq_zero (by omega)
          subst h6; simpa using sA
        | A :: B :: T, b3, bl =>
          have h6 := (b3 A (by simp)).1
          have h7 := (b3 B (by simp)).1
          simp only [List.flatten_nil, List.flatten_cons, List.append_nil, List.length_append, List.length_nil] at bl; omega
      exact ⟨rfl, _, ⟨_, ⟨b6, hS⟩, rfl⟩, rfl⟩
end Bk
