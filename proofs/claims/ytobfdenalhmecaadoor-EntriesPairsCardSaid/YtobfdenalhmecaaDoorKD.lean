/- Objects that are handed to a function of values without identity, and not written again. -/
import Derived.Test.YtobfdenalhmecaaDoorKC
set_option linter.unusedSimpArgs false
set_option linter.unusedSectionVars false
set_option linter.unusedVariables false
namespace Bk
open Go
variable [Gh]

def memN : List Nat → Nat → Bool
  | [], _ => false
  | g :: gs, j => match Nat.beq g j with | true => true | false => memN gs j
theorem memN_iff : ∀ {gs : List Nat} {j : Nat}, memN gs j = true ↔ j ∈ gs
  | [], j => by simp [memN]
  | g :: gs, j => by
    simp only [memN]
    cases hb : Nat.beq g j with
    | true => have := Nat.eq_of_beq_eq_true hb; subst this; simp
    | false =>
      have : g ≠ j := fun he => by subst he; simp at hb
      simp [memN_iff, Ne.symm this]
def keepL (H : Hp) (gs : List Nat) : Hp := fun j => match memN gs j with | true => H j | false => none
theorem killL_iff {H : Hp} : ∀ {gs : List Nat} {j : Nat} {O : AObj}, j ∉ gs → H j = some O → killL H gs j = some O
  | [], j, O, _, h => h
  | g :: gs, j, O, hn, h => by
    simp only [List.mem_cons, not_or] at hn
    simp only [killL]
    rw [updH_ne _ _ hn.1]; exact killL_iff hn.2 h

section
variable {P : Program} {n : Nat} {H : Hp}
open Classical in
theorem callA_frz {f : Nat} {args : List D} {d : D} (gs : List Nat) (hz : frzL (keepL H gs) args fun args' => PC P f args' d) (hb : HasBody P f) {K : D → Nat → Hp → Prop} (hK : K d n (killL H gs)) : CallA P f args n H K := by
  refine ⟨hb, fun h m w vals hg r hl hr => ?_⟩
  let B : Nat → Prop := fun b => ∃ g O N, g ∈ gs ∧ H g = some O ∧ m g = some (b, N)
  let h2 : FM := fun b o => if B b then w.cell? ⟨b, o, none⟩ else h b o
  have h2B : ∀ b o, B b → h2 b o = w.cell? ⟨b, o, none⟩ := fun b o hB => if_pos hB
  have h2n : ∀ b o, ¬ B b → h2 b o = h b o := fun b o hB => if_neg hB
  have hle : FLe h h2 := by
    intro b o x hx
    by_cases hB : B b
    · rw [h2B b o hB]; exact r.froz b o x hx
    · rw [h2n b o hB]; exact hx
  have rk : RH h m n (keepL H gs) w := by
    have hget : ∀ i O, keepL H gs i = some O → H i = some O ∧ i ∈ gs := by
      intro i O hO
      unfold keepL at hO
      split at hO
      · rename_i hq; exact ⟨hO, memN_iff.1 hq⟩
      · cases hO
    refine ⟨r.froz, fun i hi => ⟨(r.far i hi).1, ?_⟩, fun i O hO => r.obj i O (hget i O hO).1, fun i i' O O' b N N' h1 h2 => r.inj i i' O O' b N N' (hget i O h1).1 (hget i' O' h2).1⟩
    cases hq : keepL H gs i with
    | none => rfl
    | some O => have := (hget i O hq).1; rw [(r.far i hi).2] at this; cases this
  have hfrz : ∀ id O b N, keepL H gs id = some O → m id = some (b, N) → ∀ o x, w.cell? ⟨b, o, none⟩ = some x → h2 b o = some x := by
    intro id O b N hO hm o x hx
    unfold keepL at hO
    split at hO
    · rename_i hq
      rw [h2B b o ⟨id, O, N, memN_iff.1 hq, hO, hm⟩]; exact hx
    · cases hO
  obtain ⟨args', hp, hl', hr'⟩ := frzL_sound rk hle hfrz args vals hl hr hz
  have r2 : RH h2 m n (killL H gs) w := by
    refine ⟨fun b o x hx => ?_, fun i hi => ⟨(r.far i hi).1, ?_⟩, fun i O hO => ?_, fun i i' O O' b N N' h1 h2 => r.inj i i' O O' b N N' (killL_get h1).1 (killL_get h2).1⟩
    · by_cases hB : B b
      · rw [h2B b o hB] at hx; exact hx
      · rw [h2n b o hB] at hx; exact r.froz b o x hx
    · cases hq : killL H gs i with
      | none => rfl
      | some O => have := (killL_get hq).1; rw [(r.far i hi).2] at this; cases this
    · obtain ⟨h3, h4⟩ := killL_get hO
      rcases r.obj i O h3 with h5 | ⟨b, xs, h5, h6, h7, h8, h9, h10⟩
      · exact .inl h5
      · refine .inr ⟨b, xs, h5, h6, h7, h8, fun q d x hd hx => ⟨(h9 q d x hd hx).1.mono hle (MLe.refl _), (h9 q d x hd hx).2⟩, fun o => ?_⟩
        rw [h2n b o]
        · exact h10 o
        · rintro ⟨g, O2, N2, g1, g2, g3⟩
          have := r.inj i g O O2 b _ N2 h3 g2 h5 g3
          subst this; exact h4 g1
  refine ((callA_pc hp hK).run h2 m w vals (hg.trans hle) r2 hl' (fun i d x hd hx => .imm _ _ (hr' i d x hd hx))).mono ?_
  rintro en w' ⟨v, d', n', H', h', m', rfl, hK', hle', hnew, hm', hn', hw', hd⟩
  have hBl : ∀ b, Bl m (killL H gs) b → Bl m H b := fun b ⟨i, O, N, h1, h2⟩ => ⟨i, O, N, (killL_get h1).1, h2⟩
  refine ⟨v, d', n', H', h', m', rfl, hK', hle.trans hle', fun b o x hx => ?_, hm', hn', ⟨hw'.rh, ⟨hw'.fr.os, hw'.fr.tape, hw'.fr.output, hw'.fr.size, fun b hb hn => hw'.fr.block b hb (fun h => hn (hBl b h))⟩, fun i O b N h1 h2 => (hw'.wb i O b N h1 h2).imp (fun h => h) (hBl b)⟩, hd⟩
  rcases hnew b o x hx with h1 | h1 | h1
  · by_cases hB : B b
    · obtain ⟨g, O, N, _, h3, h4⟩ := hB
      exact .inr (.inr ⟨g, O, N, h3, h4⟩)
    · rw [h2n b o hB] at h1; exact .inl h1
  · exact .inr (.inl h1)
  · exact .inr (.inr (hBl b h1))
end
end Bk
