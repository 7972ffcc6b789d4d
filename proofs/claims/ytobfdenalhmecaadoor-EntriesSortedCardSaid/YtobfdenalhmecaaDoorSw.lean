/- Merging, in plain lists. -/
import Derived.Test.YtobfdenalhmecaaDoorSv
set_option linter.unusedSimpArgs false
set_option linter.unusedSectionVars false
set_option linter.unusedVariables false
namespace Bk
open Go Go.Proofs

theorem cb_vals : ∀ (a b : List UInt8), Lib.compareBytes a b = -1 ∨ Lib.compareBytes a b = 0 ∨ Lib.compareBytes a b = 1
  | [], [] => by simp [Lib.compareBytes]
  | [], _ :: _ => by simp [Lib.compareBytes]
  | _ :: _, [] => by simp [Lib.compareBytes]
  | a :: aa, b :: bs => by
    simp only [Lib.compareBytes]
    split
    · simp
    · split
      · simp
      · exact cb_vals aa bs
theorem cb_zero : ∀ (a b : List UInt8), Lib.compareBytes a b = 0 ↔ a = b
  | [], [] => by simp [Lib.compareBytes]
  | [], _ :: _ => by simp [Lib.compareBytes]
  | _ :: _, [] => by simp [Lib.compareBytes]
  | a :: aa, b :: bs => by
    simp only [Lib.compareBytes]
    split
    · rename_i h; simp; rintro rfl; exact absurd h (UInt8.lt_irrefl a)
    · split
      · rename_i h; simp; rintro rfl; exact absurd h (UInt8.lt_irrefl a)
      · rename_i h1 h2
        have : a = b := by
          apply UInt8.toNat_inj.1
          rw [UInt8.lt_iff_toNat_lt] at h1 h2; omega
        subst this
        rw [cb_zero aa bs]; simp
theorem cb_neg : ∀ (a b : List UInt8), Lib.compareBytes b a = - Lib.compareBytes a b
  | [], [] => by simp [Lib.compareBytes]
  | [], _ :: _ => by simp [Lib.compareBytes]
  | _ :: _, [] => by simp [Lib.compareBytes]
  | a :: aa, b :: bs => by
    simp only [Lib.compareBytes]
    by_cases h1 : a < b
    · have h2 : ¬ b < a := by rw [UInt8.lt_iff_toNat_lt] at h1 ⊢; omega
      simp [h1, h2]
    · by_cases h2 : b < a
      · simp [h1, h2]
      · simp [h1, h2, cb_neg aa bs]
theorem cb_trans : ∀ (a b c : List UInt8), Lib.compareBytes a b ≤ 0 → Lib.compareBytes b c ≤ 0 → Lib.compareBytes a c ≤ 0
  | [], b, c, _, _ => by cases c <;> simp [Lib.compareBytes]
  | a :: aa, [], c, h, _ => by simp [Lib.compareBytes] at h
  | a :: aa, b :: bs, [], _, h => by simp [Lib.compareBytes] at h
  | a :: aa, b :: bs, c :: cs, h1, h2 => by
    simp only [Lib.compareBytes] at h1 h2 ⊢
    by_cases k1 : a < b
    · have k2 : ¬ c < b := by
        intro k; have k' : ¬ b < c := by rw [UInt8.lt_iff_toNat_lt] at k ⊢; omega
        simp [k, k'] at h2
      have : a < c := by rw [UInt8.lt_iff_toNat_lt] at k1 k2 ⊢; omega
      simp [this]
    · have k2 : ¬ b < a := by intro k; simp [k1, k] at h1
      simp only [k1, k2, if_false] at h1
      have : a = b := by
        apply UInt8.toNat_inj.1
        rw [UInt8.lt_iff_toNat_lt] at k1 k2; omega
      subst this
      by_cases k3 : a < c
      · simp [k3]
      · have k4 : ¬ c < a := by intro k; simp [k3, k] at h2
        simp only [k3, k4, if_false] at h2 ⊢
        exact cb_trans aa bs cs h1 h2

theorem ord_neg (x y : Ent) : ord y x = - ord x y := by
  unfold ord cmpS sgn
  have h1 := cb_neg x.k.data.toList y.k.data.toList
  have h2 := cb_vals x.k.data.toList y.k.data.toList
  grind
def le (x y : Ent) : Prop := ord x y ≤ 0
theorem le_of_lt {x y : Ent} (h : ord x y < 0) : le x y := by unfold le; omega
theorem le_of_not_lt {x y : Ent} (h : ¬ ord x y < 0) : le y x := by
  unfold le; rw [ord_neg]; omega
theorem le_trans' {x y z : Ent} (h1 : le x y) (h2 : le y z) : le x z := by
  unfold le ord cmpS at *
  have a1 := cb_trans x.k.data.toList y.k.data.toList z.k.data.toList
  have a2 := cb_zero x.k.data.toList y.k.data.toList
  have a3 := cb_zero y.k.data.toList z.k.data.toList
  have a4 := cb_zero x.k.data.toList z.k.data.toList
  have b1 := cb_trans z.k.data.toList x.k.data.toList y.k.data.toList
  have c1 := cb_neg x.k.data.toList z.k.data.toList
  have c2 := cb_neg y.k.data.toList z.k.data.toList
  have c3 := cb_neg x.k.data.toList y.k.data.toList
  have b2 := cb_trans y.k.data.toList z.k.data.toList x.k.data.toList
  unfold sgn at *
  grind
theorem ord_zero {x y : Ent} (h : ord x y = 0) : x.k = y.k ∧ x.seq = y.seq := by
  unfold ord cmpS sgn at h
  have a2 := cb_zero x.k.data.toList y.k.data.toList
  have : x.k.data.toList = y.k.data.toList → x.k = y.k := fun h => by
    apply ByteArray.ext; apply Array.ext'; exact h
  grind

def Srt (l : List Ent) : Prop := l.Pairwise le
theorem Srt.take {l : List Ent} (h : Srt l) (i : Nat) : Srt (l.take i) := List.Pairwise.sublist (List.take_sublist i l) h
theorem Srt.drop {l : List Ent} (h : Srt l) (i : Nat) : Srt (l.drop i) := List.Pairwise.sublist (List.drop_sublist i l) h

/-- all before place i are below, all from it on above -/
theorem srt_lo {l : List Ent} {x : Ent} {i : Nat} (h : Srt l) (hi : i ≤ l.length) (hlo : i = 0 ∨ le (l.getD (i - 1) noEnt) x) : ∀ z ∈ l.take i, le z x := by
  intro z hz
  obtain ⟨j, hj, rfl⟩ := List.mem_iff_getElem.1 hz
  rw [List.length_take] at hj
  rcases hlo with h0 | h0
  · omega
  · rw [List.getElem_take]
    have e : l.getD (i - 1) noEnt = l[i - 1]'(by omega) := by simp [show i - 1 < l.length by omega]
    rw [e] at h0
    by_cases hji : j = i - 1
    · subst hji; exact h0
    · exact le_trans' (List.pairwise_iff_getElem.1 h j (i - 1) (by omega) (by omega) (by omega)) h0
theorem srt_hi {l : List Ent} {x : Ent} {i : Nat} (h : Srt l) (hi : i ≤ l.length) (hhi : i = l.length ∨ le x (l.getD i noEnt)) : ∀ z ∈ l.drop i, le x z := by
  intro z hz
  obtain ⟨j, hj, rfl⟩ := List.mem_iff_getElem.1 hz
  rw [List.length_drop] at hj
  rcases hhi with h0 | h0
  · omega
  · rw [List.getElem_drop]
    have e : l.getD i noEnt = l[i]'(by omega) := by simp [show i < l.length by omega]
    rw [e] at h0
    by_cases hji : j = 0
    · subst hji; exact h0
    · exact le_trans' h0 (List.pairwise_iff_getElem.1 h i (i + j) (by omega) (by omega) (by omega))
theorem srt_ins {l : List Ent} {x : Ent} {i : Nat} (h : Srt l) (hi : i ≤ l.length) (hlo : i = 0 ∨ le (l.getD (i - 1) noEnt) x) (hhi : i = l.length ∨ le x (l.getD i noEnt)) : Srt (l.take i ++ x :: l.drop i) := by
  have h1 := srt_lo h hi hlo
  have h2 := srt_hi h hi hhi
  unfold Srt
  rw [List.pairwise_append]
  refine ⟨h.take i, List.pairwise_cons.2 ⟨h2, h.drop i⟩, fun a ha b hb => ?_⟩
  rcases List.mem_cons.1 hb with rfl | hb
  · exact h1 a ha
  · exact le_trans' (h1 a ha) (h2 b hb)
theorem ins_perm (l : List Ent) (x : Ent) (i : Nat) : (l.take i ++ x :: l.drop i).Perm (x :: l) := by
  have h1 : (l.take i ++ x :: l.drop i).Perm (x :: (l.take i ++ l.drop i)) := List.perm_middle
  rw [List.take_append_drop] at h1; exact h1

/-- two sorted lists, each cut in two, the cuts fitting: what is before is below what is behind -/
theorem srt_cut {A B : List Ent} {s e : Nat} (hA : Srt A) (hB : Srt B) (hs : s ≤ A.length) (he : e ≤ B.length) (h1 : s = 0 ∨ e = B.length ∨ le (A.getD (s - 1) noEnt) (B.getD e noEnt)) (h2 : e = 0 ∨ s = A.length ∨ le (B.getD (e - 1) noEnt) (A.getD s noEnt)) :
    ∀ x ∈ A.take s ++ B.take e, ∀ y ∈ A.drop s ++ B.drop e, le x y := by
  have own : ∀ {l : List Ent} {i : Nat}, Srt l → ∀ x ∈ l.take i, ∀ y ∈ l.drop i, le x y := by
    intro l i hl x hx y hy
    have : Srt (l.take i ++ l.drop i) := by rw [List.take_append_drop]; exact hl
    exact (List.pairwise_append.1 this).2.2 x hx y hy
  intro x hx y hy
  rcases List.mem_append.1 hx with hx | hx <;> rcases List.mem_append.1 hy with hy | hy
  · exact own hA x hx y hy
  · rcases h1 with h1 | h1 | h1
    · subst h1; simp at hx
    · subst h1; simp at hy
    · by_cases hz : s = 0
      · subst hz; simp at hx
      · by_cases hz' : e = B.length
        · subst hz'; simp at hy
        · exact le_trans' (srt_lo hA hs (.inr h1) x hx) (by
            by_cases hq : e < B.length
            · have hd : B.getD e noEnt = B[e] := by simp [hq]
              exact srt_hi (x := B.getD e noEnt) hB he (.inr (by
                have := ord_neg (B.getD e noEnt) (B.getD e noEnt)
                unfold le; omega)) y hy
            · omega)
  · rcases h2 with h2 | h2 | h2
    · subst h2; simp at hx
    · subst h2; simp at hy
    · by_cases hz : e = 0
      · subst hz; simp at hx
      · exact le_trans' (srt_lo hB he (.inr h2) x hx) (srt_hi (x := A.getD s noEnt) hA hs (.inr (by
          have := ord_neg (A.getD s noEnt) (A.getD s noEnt)
          unfold le; omega)) y hy)
  · exact own hB x hx y hy

theorem srt_app {A B : List Ent} (hA : Srt A) (hB : Srt B) (h : ∀ x ∈ A, ∀ y ∈ B, le x y) : Srt (A ++ B) := List.pairwise_append.2 ⟨hA, hB, h⟩
end Bk
