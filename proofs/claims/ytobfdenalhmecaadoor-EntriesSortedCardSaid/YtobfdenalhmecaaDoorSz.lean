/- Sort and Newest, whole; what a law asks of them. -/
import Derived.Test.YtobfdenalhmecaaDoorSy
import Derived.Test.YtobfdenalhmecaaDoorSq
set_option linter.unusedSimpArgs false
set_option linter.unusedSectionVars false
set_option linter.unusedVariables false
namespace Bk
open Go Go.Proofs

def SortD (l : List Ent) (d : D) : Prop :=
  (5000 < l.length ∧ d = pairT nilS 3) ∨ (l.length ≤ 5000 ∧ chkAll l ≠ 0 ∧ d = pairT nilS (chkAll l)) ∨ (l.length ≤ 5000 ∧ chkAll l = 0 ∧ ∃ l', SortR l l' ∧ d = pairT (ents l') 0)
def NewD (l : List Ent) (d : D) : Prop :=
  (5000 < l.length ∧ d = pairT nilS 3) ∨ (l.length ≤ 5000 ∧ chkAll l ≠ 0 ∧ d = pairT nilS (chkAll l)) ∨ (l.length ≤ 5000 ∧ chkAll l = 0 ∧ ∃ l', SortR l l' ∧ d = pairT (ents (dedup l')) 0)

theorem wk_pair (k : Nat) (e : Int) : WkD (pairT nilS e) (pairT (.sl k []) e) :=
  wk_tuple rfl (fun i d d' hd hd' => by
    match i, hd, hd' with
    | 0, hd, hd' => cases hd; cases hd'; exact wk_nil k
    | 1, hd, hd' => cases hd; cases hd'; exact WkD.refl _
    | i + 2, hd, _ => cases hd)

theorem sortR_nil : SortR [] [] := ⟨List.Perm.refl _, List.Pairwise.nil⟩
theorem sortR_len {l l' : List Ent} (h : SortR l l') : l'.length = l.length := h.1.length_eq

theorem ca14 (l : List Ent) (hl : l.length < 1000000) {n : Nat} {H : Hp} {K : D → Nat → Hp → Prop} (hK : ∀ d, SortD l d → K d n H) : CallA Tryd.prog 14 [ents l] n H K := by
  refine callA_rel (R := SortD l) rfl ((sort14 l hl (tc39 l hl) (fun h => by subst h; exact sortR_nil) (fun _ => sortR_len)).mono ?_) hK
  rintro d n' H' (⟨d0, id, O, rfl, hO, hI, h1, h2, l', hR, rfl, rfl⟩ | ⟨hd, ⟨h1, rfl⟩ | ⟨h1, h2, rfl⟩ | ⟨rfl, rfl⟩⟩)
  · refine ⟨_, hO, rfl, ?_, entO_imm _, _, WkD.refl _, .inr (.inr ⟨h1, h2, l', hR, ?_⟩)⟩
    · show 0 + l.length ≤ (l'.map Ent.c).length
      rw [List.length_map, sortR_len hR]; omega
    · show D.tuple [.sl 4 (((l'.map Ent.c).drop 0).take l.length), _] = _
      rw [List.drop_zero, List.take_of_length_le (by rw [List.length_map, sortR_len hR]; exact Nat.le_refl _)]; rfl
  · exact ⟨_, WkD.refl _, .inl ⟨h1, rfl⟩⟩
  · exact ⟨_, WkD.refl _, .inr (.inl ⟨h1, h2, rfl⟩)⟩
  · exact ⟨_, wk_pair 4 0, .inr (.inr ⟨Nat.zero_le _, rfl, [], sortR_nil, rfl⟩)⟩

theorem ca15 (l : List Ent) (hl : l.length < 1000000) {n : Nat} {H : Hp} {K : D → Nat → Hp → Prop} (hK : ∀ d, NewD l d → K d n H) : CallA Tryd.prog 15 [ents l] n H K := by
  refine callA_rel (R := NewD l) rfl ((newest15 l hl (tc39 l hl) (fun h => by subst h; exact sortR_nil) (fun _ => sortR_len)).mono fun d n' H' h => frzT_mono (fun d hd => ?_) h) hK
  rcases hd with ⟨h1, rfl⟩ | ⟨h1, h2, rfl⟩ | ⟨rfl, rfl⟩ | ⟨h1, h2, l', hR, rfl⟩
  · exact ⟨_, WkD.refl _, .inl ⟨h1, rfl⟩⟩
  · exact ⟨_, WkD.refl _, .inr (.inl ⟨h1, h2, rfl⟩)⟩
  · exact ⟨_, wk_pair 4 0, .inr (.inr ⟨Nat.zero_le _, rfl, [], sortR_nil, rfl⟩)⟩
  · exact ⟨_, WkD.refl _, .inr (.inr ⟨h1, h2, l', hR, rfl⟩)⟩

/-! ### Which entries of a list are not ticked off -/
def uns : List Bool → List Ent → List Ent
  | true :: u, _ :: s => uns u s
  | false :: u, x :: s => x :: uns u s
  | _, _ => []
theorem uns_none : ∀ (s : List Ent), uns (List.replicate s.length false) s = s
  | [] => rfl
  | x :: s => by rw [List.length_cons, List.replicate_succ, uns, uns_none s]
theorem uns_mem : ∀ {u : List Bool} {s : List Ent} {x : Ent}, x ∈ uns u s → ∃ k : Nat, u[k]? = some false ∧ s[k]? = some x
  | true :: u, _ :: s, x, h => by
    obtain ⟨k, h1, h2⟩ := uns_mem (u := u) (s := s) h
    exact ⟨k + 1, h1, h2⟩
  | false :: u, y :: s, x, h => by
    rcases List.mem_cons.1 h with rfl | h
    · exact ⟨0, rfl, rfl⟩
    · obtain ⟨k, h1, h2⟩ := uns_mem (u := u) (s := s) h
      exact ⟨k + 1, h1, h2⟩
  | [], _, x, h => by simp [uns] at h
  | true :: _, [], x, h => by simp [uns] at h
  | false :: _, [], x, h => by simp [uns] at h
theorem uns_set : ∀ {u : List Bool} {s : List Ent} {x : Ent} {k : Nat}, u[k]? = some false → s[k]? = some x → (uns u s).Perm (x :: uns (u.set k true) s)
  | false :: u, y :: s, x, 0, _, h2 => by
    cases h2; exact List.Perm.refl _
  | true :: u, y :: s, x, k + 1, h1, h2 => uns_set (u := u) (s := s) (k := k) h1 h2
  | false :: u, y :: s, x, k + 1, h1, h2 => ((uns_set (u := u) (s := s) (k := k) h1 h2).cons y).trans (List.Perm.swap _ _ _)
  | true :: _, _ :: _, _, 0, h1, _ => by cases h1
  | [], _, _, _, h1, _ => by simp at h1
  | _ :: _, [], _, _, _, h2 => by simp at h2

/-- sorted without two equal ones: the only sorted order -/
theorem sorted_one {s a l : List Ent} (hs : SortR l s) (ha : SortR l a) (hst : ∀ i (h : i + 1 < s.length), ord s[i] s[i + 1] < 0) : a = s := by
  refine (ha.1.trans hs.1.symm).eq_of_pairwise (le := le) (fun x y hx hy h1 h2 => ?_) ha.2 hs.2
  have hx' : x ∈ s := (ha.1.trans hs.1.symm).mem_iff.1 hx
  obtain ⟨i, hi, rfl⟩ := List.mem_iff_getElem.1 hx'
  obtain ⟨j, hj, rfl⟩ := List.mem_iff_getElem.1 hy
  have strict : ∀ i j (hi : i < s.length) (hj : j < s.length), i < j → ord s[i] s[j] < 0 := by
    intro i j hi hj hij
    have h3 := hst i (by omega)
    by_cases he : j = i + 1
    · subst he; exact h3
    · have h4 : le s[i + 1] s[j] := List.pairwise_iff_getElem.1 hs.2 (i + 1) j (by omega) hj (by omega)
      have h5 : le s[i] s[j] := le_trans' (le_of_lt h3) h4
      unfold le at h5
      rcases Int.lt_or_eq_of_le h5 with h6 | h6
      · exact h6
      · exfalso
        have h7 : le s[j] s[i] := by unfold le; rw [ord_neg, h6]; decide
        have h8 := le_trans' h4 h7
        have h9 := ord_neg s[i] s[i + 1]
        unfold le at h8
        omega
  unfold le at h1 h2
  rcases Nat.lt_trichotomy i j with h | h | h
  · have := strict i j hi hj h
    have h3 := ord_neg s[i] s[j]
    omega
  · subst h; rfl
  · have := strict j i hj hi h
    have h3 := ord_neg s[i] s[j]
    omega
end Bk
