/- EntriesSorted. -/
import Derived.Test.YtobfdenalhmecaaDoorSz
set_option linter.unusedSimpArgs false
set_option linter.unusedSectionVars false
set_option linter.unusedVariables false
namespace Bk
open Go Go.Proofs

def usedO (u : List Bool) : AObj := ⟨4, 1, u.map fun b => [wb b]⟩
theorem usedO_imm (u : List Bool) : ∀ c ∈ (usedO u).es, isIL c = true := by
  intro c hc
  obtain ⟨x, _, rfl⟩ := List.mem_map.1 hc
  rfl
theorem used_get {u : List Bool} {k : Nat} {b : Bool} (h : u[k]? = some b) : (u.map fun b => [wb b])[0 + k]? = some [wb b] := by rw [Nat.zero_add, List.getElem?_map, h]; rfl

theorem chkAll_mem {l : List Ent} (h : chkAll l = 0) : ∀ x ∈ l, chk x = 0 := by
  induction l with
  | nil => intro x hx; cases hx
  | cons y l ih =>
    simp only [chkAll, List.map_cons, orI] at h
    split at h
    · rename_i h1; exact absurd h h1
    · rename_i h1
      intro x hx
      rcases List.mem_cons.1 hx with rfl | hx
      · simpa using h1
      · exact ih h x hx
theorem chkAll_of {l : List Ent} (h : ∀ x ∈ l, chk x = 0) : chkAll l = 0 := by
  induction l with
  | nil => rfl
  | cons y l ih =>
    simp only [chkAll, List.map_cons, orI]
    rw [if_neg (by simp [h y (by simp)])]
    exact ih fun x hx => h x (by simp [hx])

/-- the list in the other order, as far as it is made -/
def trD : Nat → D
  | 0 => nilS
  | j + 1 => .msl 0 4 0 (j + 1)
def trO (l : List Ent) : Nat → List (Nat × AObj)
  | 0 => []
  | j + 1 => [(0, entO (l.reverse.take (j + 1)))]
theorem rev_take {l : List Ent} {j : Nat} (h : j < l.length) : l.reverse.take (j + 1) = l.reverse.take j ++ [l[l.length - 1 - j]] := by
  rw [List.take_succ_eq_append_getElem (by simpa using h), List.getElem_reverse]

theorem pc4 (l : List Ent) : PC Tryd.prog 4 [ents l] (wb true) := by
  refine pc_callA rfl (callA_body hT1 hmix Tryd.func4 rfl rfl (by kernel_rfl) Tryd.ntmps4 (Nat.le_of_ble_eq_true rfl) rfl ?_)
  have hfar := pc13 l
  obtain ⟨bf, hbf⟩ : ∃ b, b = (if 60 < l.length then decide (l.length ≤ 5000 ∨ 5010 < l.length) else l.any fun x => decide (100 < (x.k.size : Int) ∨ 100 < (x.v.size : Int))) := ⟨_, rfl⟩
  rw [← hbf] at hfar
  conv => whnf
  refine callA_pc hfar ?_
  cases bf
  rotate_left
  · conv => whnf
    refine callA_pc pc6 ?_
    conv => whnf
    rfl
  have hlen : l.length ≤ 5010 := by
    split at hbf
    · have := of_decide_eq_false hbf.symm; omega
    · omega
  conv => whnf
  refine ca14 l (by omega) ?_
  rintro d (⟨h1, rfl⟩ | ⟨h1, h2, rfl⟩ | ⟨h1, h2, s, hR, rfl⟩)
  · conv => whnf
    refine splitB_neg (by rw [eqI_f]; decide) ?_
    conv => whnf
    refine splitB_pos (by rw [eqI_t]; rfl) ?_
    conv => whnf
    refine callA_pc pc6 ?_
    conv => whnf
    rfl
  · conv => whnf
    refine splitB_neg (by rw [eqI_f]; exact h2) ?_
    conv => whnf
    refine splitB_pos (by rw [eqI_t]; rfl) ?_
    conv => whnf
    refine callA_pc pc6 ?_
    conv => whnf
    rfl
  have hsl := sortR_len hR
  conv => whnf
  refine splitB_pos (by rw [eqI_t]) ?_
  conv => whnf
  refine splitB_pos (by rw [eqI_t, List.length_map, List.length_map, hsl]) ?_
  conv => whnf
  refine ⟨s.length, by rw [List.length_map], s.length, by rw [List.length_map], Nat.le_refl _, by show s.length * 1 ≤ _; omega, by omega, ?_⟩
  conv => whnf
  -- each entry of l once in s
  refine loop_rule hT1 hmix (ι := {q : Nat × List Bool // q.1 ≤ l.length ∧ q.2.length = s.length ∧ (uns q.2 s).Perm (l.drop q.1)}) (fun q => [(0, ents l), (3, ents s), (5, .msl 0 1 0 s.length), (6, wi q.1.1)]) 9 (fun q => [(0, usedO q.1.2)]) (fun q => l.length - q.1.1) (by kernel_rfl) ?_
    ⟨(0, List.replicate s.length false), Nat.zero_le _, List.length_replicate, by show (uns (List.replicate s.length false) s).Perm l; rw [uns_none]; exact hR.1⟩ ⟨[(0, 19)], rfl, ⟨rfl, rfl, rfl, rfl, trivial⟩, ⟨_, rfl, .inr ⟨?_, usedO_imm _⟩⟩, trivial⟩
  rotate_left
  · show (⟨4, 1, List.replicate s.length [D.v (.bool false)]⟩ : AObj) = ⟨4, 1, (List.replicate s.length false).map fun b => [wb b]⟩
    rw [List.map_replicate]; rfl
  rintro ⟨⟨i, u⟩, q1, q2, q3⟩
  simp only at q1 q2 q3
  conv => whnf
  refine splitB_intro (fun h => ?_) (fun h => ?_) <;> (conv => whnf) <;> simp only [ltI_t, ltI_f, List.length_map] at h
  · have hil : i < l.length := by omega
    rw [List.drop_eq_getElem_cons hil] at q3
    obtain ⟨k0, hk0, hk0'⟩ := uns_mem (q3.mem_iff.2 (List.mem_cons_self ..))
    refine loop_rule hT1 hmix (ι := {q : Nat × Bool × List Bool // q.1 ≤ s.length ∧ q.2.2.length = s.length ∧ (q.2.1 = false → q.2.2 = u ∧ ∀ j, j < q.1 → ¬ (u[j]? = some false ∧ s[j]? = some l[i])) ∧ (q.2.1 = true → (uns q.2.2 s).Perm (l.drop (i + 1)))})
      (fun q => [(0, ents l), (3, ents s), (5, .msl 0 1 0 s.length), (6, wi i), (7, wb q.1.2.1), (8, wi q.1.1)]) 9 (fun q => [(0, usedO q.1.2.2)]) (fun q => s.length - q.1.1) (by kernel_rfl) ?_
      ⟨(0, false, u), Nat.zero_le _, q2, fun _ => ⟨rfl, fun j hj => absurd hj (Nat.not_lt_zero _)⟩, fun h => by cases h⟩ ⟨[(0, 0)], rfl, ⟨rfl, rfl, rfl, rfl, rfl, rfl, trivial⟩, ⟨_, rfl, .inr ⟨rfl, usedO_imm _⟩⟩, trivial⟩
    rintro ⟨⟨k, fb, u'⟩, g1, g2, g3, g4⟩
    simp only at g1 g2 g3 g4
    conv => whnf
    have next : ∀ (u2 : List Bool) (e : Env) (n : Nat) (H : Hp), u2.length = s.length → (uns u2 s).Perm (l.drop (i + 1)) → LeA 0 e n H [(0, ents l), (3, ents s), (5, .msl 0 1 0 s.length), (6, wi (i + 1 : Nat))] 9 [(0, usedO u2)] →
        ∃ q : {q : Nat × List Bool // q.1 ≤ l.length ∧ q.2.length = s.length ∧ (uns q.2 s).Perm (l.drop q.1)}, l.length - q.1.1 < l.length - i ∧ LeA 0 e n H [(0, ents l), (3, ents s), (5, .msl 0 1 0 s.length), (6, wi q.1.1)] 9 [(0, usedO q.1.2)] :=
      fun u2 e n H h1 h2 h3 => ⟨⟨(i + 1, u2), hil, h1, h2⟩, by show l.length - (i + 1) < l.length - i; omega, h3⟩
    refine splitB_intro (fun h' => ?_) (fun h' => ?_) <;> (conv => whnf) <;> simp only [ltI_t, ltI_f, List.length_map] at h'
    · cases fb
      · obtain ⟨rfl, g5⟩ := g3 rfl
        have hks : k < s.length := by omega
        have hku : k < u'.length := by omega
        obtain ⟨bk, hbk⟩ : ∃ b, u'[k]? = some b := ⟨_, List.getElem?_eq_getElem hku⟩
        have stay : ¬ (u'[k]? = some false ∧ s[k]? = some l[i]) → ∀ (e : Env) (n : Nat) (H : Hp), LeA 0 e n H [(0, ents l), (3, ents s), (5, .msl 0 1 0 s.length), (6, wi i), (7, wb false), (8, wi (k + 1 : Nat))] 9 [(0, usedO u')] →
            ∃ q : {q : Nat × Bool × List Bool // q.1 ≤ s.length ∧ q.2.2.length = s.length ∧ (q.2.1 = false → q.2.2 = u' ∧ ∀ j, j < q.1 → ¬ (u'[j]? = some false ∧ s[j]? = some l[i])) ∧ (q.2.1 = true → (uns q.2.2 s).Perm (l.drop (i + 1)))}, s.length - q.1.1 < s.length - k ∧
              LeA 0 e n H [(0, ents l), (3, ents s), (5, .msl 0 1 0 s.length), (6, wi i), (7, wb q.1.2.1), (8, wi q.1.1)] 9 [(0, usedO q.1.2.2)] :=
          fun hno e n H hle => ⟨⟨(k + 1, false, u'), hks, g2, fun _ => ⟨rfl, fun j hj => by
            rcases Nat.lt_succ_iff_lt_or_eq.1 hj with h6 | h6
            · exact g5 j h6
            · rw [h6]; exact hno⟩, fun h => by cases h⟩, by show s.length - (k + 1) < s.length - k; omega, hle⟩
        have w8' : D.v (Value.int .i64 (wr .i64 ((k : Int) + 1))) = wi (k + 1 : Nat) := by rw [wrSucc _ (by omega)]; rfl
        conv => whnf
        refine ⟨k, rfl, hks, rfl, ?_⟩
        conv => whnf
        refine ⟨usedO u', [wb bk], rfl, rfl, used_get hbk, ?_⟩
        cases bk
        · conv => whnf
          refine ⟨k, s[k].c, rfl, ents_get hks, rfl, ?_⟩
          conv => whnf
          refine ⟨i, l[i].c, rfl, ents_get hil, rfl, ?_⟩
          conv => whnf
          refine (show splitB (eqE s[k] l[i]) _ → splitB (eqE s[k] l[i]) _ from fun h => h) ?_
          refine splitB_intro (fun he => ?_) (fun he => ?_) <;> (conv => whnf) <;> simp only [eqE_t, eqE_f] at he
          · refine ⟨k, rfl, hks, rfl, ?_⟩
            conv => whnf
            refine ⟨usedO u', [wb false], rfl, rfl, used_get hbk, Nat.le_refl _, ?_⟩
            conv => whnf
            have hsk : s[k]? = some l[i] := by rw [List.getElem?_eq_getElem hks, he]
            refine ⟨⟨(k + 1, true, u'.set k true), hks, by rw [List.length_set]; exact g2, (fun h => by cases h), fun _ => ?_⟩, by show s.length - (k + 1) < s.length - k; omega, [(0, 0)], rfl, ⟨rfl, rfl, rfl, rfl, rfl, w8', trivial⟩, ⟨_, rfl, .inr ⟨?_, usedO_imm _⟩⟩, trivial⟩
            · exact List.Perm.cons_inv ((uns_set hbk hsk).symm.trans q3)
            · show (⟨4, 1, (u'.map fun b => [wb b]).set (0 + k) [wb true]⟩ : AObj) = ⟨4, 1, (u'.set k true).map fun b => [wb b]⟩
              rw [Nat.zero_add, List.map_set]
          · refine stay (fun hh => ?_) _ _ _ ⟨[(0, 0)], rfl, ⟨rfl, rfl, rfl, rfl, rfl, w8', trivial⟩, ⟨_, rfl, .inr ⟨rfl, usedO_imm _⟩⟩, trivial⟩
            have h6 := hh.2
            rw [List.getElem?_eq_getElem hks] at h6
            exact he (Option.some.inj h6)
        · conv => whnf
          refine stay (fun hh => ?_) _ _ _ ⟨[(0, 0)], rfl, ⟨rfl, rfl, rfl, rfl, rfl, w8', trivial⟩, ⟨_, rfl, .inr ⟨rfl, usedO_imm _⟩⟩, trivial⟩
          rw [hbk] at hh
          exact absurd hh.1 (by decide)
      · refine next u' _ _ _ g2 (g4 rfl) ⟨[(0, 0)], rfl, ⟨rfl, rfl, rfl, ?_, trivial⟩, ⟨_, rfl, .inr ⟨rfl, usedO_imm _⟩⟩, trivial⟩
        show D.v (Value.int .i64 (wr .i64 ((i : Int) + 1))) = _
        rw [wrSucc _ (by omega)]; rfl
    · cases fb
      · exfalso
        have hk0l : k0 < s.length := get_lt hk0'
        obtain ⟨_, g5⟩ := g3 rfl
        exact g5 k0 (by omega) ⟨hk0, hk0'⟩
      · conv => whnf
        refine next u' _ _ _ g2 (g4 rfl) ⟨[(0, 0)], rfl, ⟨rfl, rfl, rfl, ?_, trivial⟩, ⟨_, rfl, .inr ⟨rfl, usedO_imm _⟩⟩, trivial⟩
        show D.v (Value.int .i64 (wr .i64 ((i : Int) + 1))) = _
        rw [wrSucc _ (by omega)]; rfl
  · -- neighbours
    have chkS : ∀ x ∈ s, chk x = 0 := fun x hx => chkAll_mem h2 x (hR.1.mem_iff.1 hx)
    refine loop_rule hT1 hmix (ι := {q : Nat × Bool // 1 ≤ q.1 ∧ q.1 ≤ max 1 s.length ∧ (q.2 = false → ∀ j (hj : j + 1 < s.length), j + 1 < q.1 → ord s[j] s[j + 1] < 0)}) (fun q => [(0, ents l), (3, ents s), (9, wb q.1.2), (10, wi q.1.1)]) 9 (fun q => []) (fun q => s.length - q.1.1) (by kernel_rfl) ?_
      ⟨(1, false), Nat.le_refl _, by omega, fun _ j hj h => by omega⟩ ⟨[], rfl, ⟨rfl, rfl, rfl, rfl, trivial⟩, trivial⟩
    rintro ⟨⟨j, same⟩, g1, g2, g3⟩
    simp only at g1 g2 g3
    conv => whnf
    refine splitB_intro (fun h' => ?_) (fun h' => ?_) <;> (conv => whnf) <;> simp only [ltI_t, ltI_f, List.length_map] at h'
    · obtain ⟨j, rfl⟩ : ∃ j', j = j' + 1 := ⟨j - 1, by omega⟩
      have hj1 : j + 1 < s.length := by omega
      have hj0 : j < s.length := by omega
      refine ⟨j, s[j].c, wrPred j (by omega), ents_get hj0, rfl, ?_⟩
      conv => whnf
      refine ⟨j + 1, s[j + 1].c, rfl, ents_get hj1, rfl, ?_⟩
      conv => whnf
      have hcmp : cmpE s[j] s[j + 1] = pairT (wi (ord s[j] s[j + 1])) 0 := by
        rw [cmpE_eq]
        have h5 : errE s[j] s[j + 1] = 0 := by
          unfold errE; rw [if_pos (chkS _ (List.getElem_mem hj0))]; exact chkS _ (List.getElem_mem hj1)
        rw [h5]; unfold cmpV; rw [h5]; rfl
      have hp7 := pc7 s[j] s[j + 1]
      rw [hcmp] at hp7
      refine ⟨_, hp7, ?_⟩
      conv => whnf
      refine splitB_pos (by rw [eqI_t]) ?_
      conv => whnf
      have hle : ord s[j] s[j + 1] ≤ 0 := List.pairwise_iff_getElem.1 hR.2 j (j + 1) hj0 hj1 (by omega)
      refine splitB_neg (by rw [ltI_f]; exact hle) ?_
      conv => whnf
      have nx : ∀ (sm : Bool), (sm = false → ord s[j] s[j + 1] < 0 ∧ same = false) → ∀ (e : Env) (n : Nat) (H : Hp), LeA 0 e n H [(0, ents l), (3, ents s), (9, wb sm), (10, wi (j + 1 + 1 : Nat))] 9 [] →
          ∃ q : {q : Nat × Bool // 1 ≤ q.1 ∧ q.1 ≤ max 1 s.length ∧ (q.2 = false → ∀ j (hj : j + 1 < s.length), j + 1 < q.1 → ord s[j] s[j + 1] < 0)}, s.length - q.1.1 < s.length - (j + 1) ∧ LeA 0 e n H [(0, ents l), (3, ents s), (9, wb q.1.2), (10, wi q.1.1)] 9 [] :=
        fun sm hsm e n H hle => ⟨⟨(j + 1 + 1, sm), by show 1 ≤ j + 1 + 1; omega, by show j + 1 + 1 ≤ _; omega, fun h jj hjj hlt => by
          by_cases hq : jj = j
          · subst hq; exact (hsm h).1
          · exact g3 (hsm h).2 jj hjj (by simp only at hlt; omega)⟩, by show s.length - (j + 1 + 1) < s.length - (j + 1); omega, hle⟩
      have w10 : D.v (Value.int .i64 (wr .i64 (((j + 1 : Nat) : Int) + 1))) = wi (j + 1 + 1 : Nat) := by rw [wrSucc _ (by omega)]; rfl
      cases same
      · conv => whnf
        refine splitB_intro (fun h6 => ?_) (fun h6 => ?_) <;> (conv => whnf) <;> simp only [eqI_t, eqI_f] at h6
        · exact nx true (fun h => by cases h) _ _ _ ⟨[], rfl, ⟨rfl, rfl, rfl, w10, trivial⟩, trivial⟩
        · exact nx false (fun _ => ⟨by omega, rfl⟩) _ _ _ ⟨[], rfl, ⟨rfl, rfl, rfl, w10, trivial⟩, trivial⟩
      · conv => whnf
        exact nx true (fun h => by cases h) _ _ _ ⟨[], rfl, ⟨rfl, rfl, rfl, w10, trivial⟩, trivial⟩
    · have hst : same = false → ∀ j (hj : j + 1 < s.length), ord s[j] s[j + 1] < 0 := fun h jj hjj => g3 h jj hjj (by omega)
      refine loop_rule hT1 hmix (ι := {j : Nat // j ≤ l.length}) (fun j => [(0, ents l), (9, wb same), (13, trD j.1), (14, wi ((l.length : Int) - 1 - j.1))]) 9 (fun j => trO l j.1) (fun j => l.length - j.1) (by kernel_rfl) ?_
        ⟨0, Nat.zero_le _⟩ ⟨[], rfl, ⟨rfl, rfl, rfl, ?_, trivial⟩, trivial⟩
      rotate_left
      · show D.v (Value.int .i64 (wr .i64 (((l.map Ent.c).length : Int) - 1))) = wi ((l.length : Int) - 1 - ((0 : Nat) : Int))
        rw [List.length_map, wr64 _ (by omega) (by omega), show (l.length : Int) - 1 - ((0 : Nat) : Int) = (l.length : Int) - 1 by omega]; rfl
      -- of what was sorted
      have hrev : chkAll l.reverse = 0 := chkAll_of fun x hx => chkAll_mem h2 x (List.mem_reverse.1 hx)
      have hone : same = false → ∀ a b, SortR l a → SortR l.reverse b → dedup b = dedup a := fun hs a b ha hb => by
        rw [sorted_one hR ha (hst hs), sorted_one hR ⟨hb.1.trans (List.reverse_perm l), hb.2⟩ (hst hs)]
      have ddl : ∀ a : List Ent, (dedup a).length ≤ a.length := by
        have dd_le : ∀ (r : List Ent) (p : Ent), (dd p r).length ≤ r.length := by
          intro r
          induction r with
          | nil => intro p; exact Nat.le_refl _
          | cons y r ih =>
            intro p
            simp only [dd]
            split
            · have := ih y; simp only [List.length_cons]; omega
            · have := ih y; simp only [List.length_cons]; omega
        intro a
        cases a with
        | nil => exact Nat.le_refl _
        | cons x r => have := dd_le r x; simp only [dedup, List.length_cons]; omega
      have hdl : ∀ a : List Ent, a.length = l.length → (dedup a).length < 1000000 := fun a ha => by have := ddl a; omega
      have w14 : ∀ j : Nat, j < l.length → D.v (Value.int .i64 (wr .i64 ((l.length : Int) - 1 - ((j : Nat) : Int) - 1))) = wi ((l.length : Int) - 1 - ((j + 1 : Nat) : Int)) := by
        intro j hj
        rw [wr64 _ (by omega) (by omega), show (l.length : Int) - 1 - (j : Int) - 1 = (l.length : Int) - 1 - ((j + 1 : Nat) : Int) by omega]; rfl
      rintro ⟨_ | j, hj⟩
      · conv => whnf
        refine splitB_intro (fun h' => ?_) (fun h' => ?_) <;> (conv => whnf) <;> simp only [leI_t, leI_f] at h'
        · have hjl : 0 < l.length := by
            have : (0 : Int) ≤ (l.length : Int) - 1 - ((0 : Nat) : Int) := h'
            omega
          have hil : l.length - 1 - 0 < l.length := by omega
          refine ⟨l.length - 1 - 0, (l[l.length - 1 - 0]'hil).c, by show (l.length : Int) - 1 - ((0 : Nat) : Int) = _; omega, ents_get hil, rfl, ?_⟩
          conv => whnf
          refine ⟨entO [l[l.length - 1 - 0]'hil], rfl, rfl, rfl, Nat.le_refl 1, by show 1 * 48 ≤ 140737488355328; decide, by show 1 ≤ 4611686018427387904; decide, ?_⟩
          conv => whnf
          refine ⟨⟨1, hjl⟩, by show l.length - 1 < l.length - 0; omega, [(0, 17)], rfl, ⟨rfl, rfl, rfl, w14 0 hjl, trivial⟩, ⟨_, rfl, .inr ⟨?_, entO_imm _⟩⟩, trivial⟩
          show entO [l[l.length - 1 - 0]'hil] = entO (l.reverse.take (0 + 1))
          rw [rev_take hjl]; rfl
        · have hl0 : l = [] := List.eq_nil_of_length_eq_zero (by
            have : (l.length : Int) - 1 - ((0 : Nat) : Int) < 0 := h'
            omega)
          refine ca15 l (by omega) ?_
          rintro d (⟨h7, _⟩ | ⟨_, h7, _⟩ | ⟨_, _, a, ha, rfl⟩)
          · omega
          · exact absurd h2 h7
          conv => whnf
          refine callA_nil (k := 4) ?_
          refine ca15 [] (by decide) ?_
          rintro d (⟨h7, _⟩ | ⟨_, h7, _⟩ | ⟨_, _, b, hb, rfl⟩)
          · exact absurd h7 (by decide)
          · exact absurd rfl h7
          have hb' : SortR l.reverse b := by rw [hl0]; exact hb
          cases same
          · conv => whnf
            refine splitB_pos (by rw [eqI_t]) ?_
            conv => whnf
            refine splitB_pos (by rw [eqI_t]) ?_
            conv => whnf
            have hp := pc16 (dedup a) (dedup a) (hdl a (sortR_len ha)) (hdl a (sortR_len ha))
            rw [decide_eq_true (rfl : dedup a = dedup a)] at hp
            rw [hone rfl a b ha hb']
            conv => whnf
            refine callA_pc hp ?_
            conv => whnf
            refine callA_pc pc6 ?_
            conv => whnf
            rfl
          · conv => whnf
            refine splitB_pos (by rw [eqI_t]) ?_
            conv => whnf
            refine splitB_pos (by rw [eqI_t]) ?_
            conv => whnf
            refine callA_pc pc6 ?_
            conv => whnf
            rfl
      · conv => whnf
        refine splitB_intro (fun h' => ?_) (fun h' => ?_) <;> (conv => whnf) <;> simp only [leI_t, leI_f] at h'
        · have hjl : j + 1 < l.length := by
            have : (0 : Int) ≤ (l.length : Int) - 1 - ((j + 1 : Nat) : Int) := h'
            omega
          have hil : l.length - 1 - (j + 1) < l.length := by omega
          refine ⟨l.length - 1 - (j + 1), (l[l.length - 1 - (j + 1)]'hil).c, by show (l.length : Int) - 1 - ((j + 1 : Nat) : Int) = _; omega, ents_get hil, rfl, ?_⟩
          conv => whnf
          refine ⟨entO [l[l.length - 1 - (j + 1)]'hil], rfl, rfl, rfl, Nat.le_refl 1, entO (l.reverse.take (j + 1)), rfl, rfl, rfl, rfl, rfl, ?_, by decide, ?_, ?_, ?_⟩
          · show j + 1 = ((l.reverse.take (j + 1)).map Ent.c).length
            rw [List.length_map, List.length_take, List.length_reverse]; omega
          · show (j + 1 + 1) * 48 ≤ _; omega
          · show j + 1 + 1 ≤ _; omega
          conv => whnf
          refine ⟨⟨j + 1 + 1, hjl⟩, by show l.length - (j + 1 + 1) < l.length - (j + 1); omega, [(0, 17)], rfl, ⟨rfl, rfl, rfl, w14 (j + 1) hjl, trivial⟩, ⟨_, rfl, .inr ⟨?_, entO_imm _⟩⟩, trivial⟩
          show (⟨23, 4, (l.reverse.take (j + 1)).map Ent.c ++ [l[l.length - 1 - (j + 1)]'hil].map Ent.c⟩ : AObj) = entO (l.reverse.take (j + 1 + 1))
          rw [rev_take hjl, ← List.map_append]; rfl
        · have hjl : j + 1 = l.length := by
            have : (l.length : Int) - 1 - ((j + 1 : Nat) : Int) < 0 := h'
            omega
          refine ca15 l (by omega) ?_
          rintro d (⟨h7, _⟩ | ⟨_, h7, _⟩ | ⟨_, _, a, ha, rfl⟩)
          · omega
          · exact absurd h2 h7
          conv => whnf
          refine callA_freeze [0] pc15abc.body ?_
          conv => whnf
          refine ⟨entO (l.reverse.take (j + 1)), rfl, rfl, ?_, entO_imm _, ?_⟩
          · show 0 + (j + 1) ≤ ((l.reverse.take (j + 1)).map Ent.c).length
            rw [List.length_map, List.length_take, List.length_reverse]; omega
          have e1 : D.sl 4 (((entO (l.reverse.take (j + 1))).es.drop 0).take (j + 1)) = ents l.reverse := by
            show D.sl 4 ((((l.reverse.take (j + 1)).map Ent.c).drop 0).take (j + 1)) = D.sl 4 (l.reverse.map Ent.c)
            rw [List.drop_zero, List.take_of_length_le (by rw [List.length_map, List.length_take, List.length_reverse]; omega), List.take_of_length_le (by rw [List.length_reverse]; omega)]
          show CallA Tryd.prog 15 [D.sl 4 (((entO (l.reverse.take (j + 1))).es.drop 0).take (j + 1))] _ _ _
          rw [e1]
          refine ca15 l.reverse (by rw [List.length_reverse]; omega) ?_
          rintro d (⟨h7, _⟩ | ⟨_, h7, _⟩ | ⟨_, _, b, hb', rfl⟩)
          · rw [List.length_reverse] at h7; omega
          · exact absurd hrev h7
          cases same
          · conv => whnf
            refine splitB_pos (by rw [eqI_t]) ?_
            conv => whnf
            refine splitB_pos (by rw [eqI_t]) ?_
            conv => whnf
            have hp := pc16 (dedup a) (dedup a) (hdl a (sortR_len ha)) (hdl a (sortR_len ha))
            rw [decide_eq_true (rfl : dedup a = dedup a)] at hp
            rw [hone rfl a b ha hb']
            conv => whnf
            refine callA_pc hp ?_
            conv => whnf
            refine callA_pc pc6 ?_
            conv => whnf
            rfl
          · conv => whnf
            refine splitB_pos (by rw [eqI_t]) ?_
            conv => whnf
            refine splitB_pos (by rw [eqI_t]) ?_
            conv => whnf
            refine callA_pc pc6 ?_
            conv => whnf
            rfl
end Bk
