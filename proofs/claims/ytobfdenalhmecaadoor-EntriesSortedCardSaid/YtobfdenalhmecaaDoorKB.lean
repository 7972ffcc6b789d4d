/- A call that makes one object. -/
import Derived.Test.YtobfdenalhmecaaDoorKA
set_option linter.unusedSimpArgs false
set_option linter.unusedSectionVars false
set_option linter.unusedVariables false
namespace Bk
open Go
variable [Gh]

section
variable {P : Program} {n : Nat} {H : Hp}

theorem callA_made {f : Nat} {args : List D} {R : D → AObj → Prop} {R' : D → Prop} (hI : isIL args = true)
    (hc : CallA P f args 0 H0 fun d _ H' => (∃ d0 id O, d = ren (fun _ => id) d0 ∧ H' id = some O ∧ (∀ c ∈ O.es, isIL c = true) ∧ R d0 O) ∨ (isI d = true ∧ R' d))
    {K : D → Nat → Hp → Prop} (hK : ∀ d0 O, R d0 O → K (ren (fun _ => n) d0) (n + 1) (updH H n (some O))) (hK' : ∀ d, R' d → K d n H) : CallA P f args n H K := by
  obtain ⟨hb, hc⟩ := hc
  refine ⟨hb, fun h m w vals hg r hl hr => ?_⟩
  have r0 : RH h (fun _ => none) 0 H0 w := ⟨r.froz, fun _ _ => ⟨rfl, rfl⟩, fun id O hO => (by cases hO), fun id id' O O' b N N' hO => (by cases hO)⟩
  refine (hc h _ w vals hg r0 hl (fun i d x hd hx => .imm _ _ (isIL_sound args vals hI hr i d x hd hx))).mono ?_
  rintro en w' ⟨v, d, n', H', h', m', rfl, hres, hle, hnew, hm', hn', hw', hd⟩
  have hB : ∀ b, ¬ Bl (fun _ => none) H0 b := fun b ⟨_, _, _, h1, _⟩ => by cases h1
  have hbk : ∀ b, b < w.heap.size → w'.heap[b]? = w.heap[b]? := fun b hb => hw'.fr.block b hb (hB b)
  have hnew' : ∀ b o x, h' b o = some x → h b o = some x ∨ w.heap.size ≤ b := fun b o x hx => by
    rcases hnew b o x hx with h1 | h1 | h1
    · exact .inl h1
    · exact .inr h1
    · exact absurd h1 (hB b)
  have hold : ∀ j O1, H j = some O1 → (m j = none ∧ O1.es = []) ∨ ∃ (b : Nat) (xs : List Value), m j = some (b, xs.length) ∧ b < w.heap.size ∧ w'.heap[b]? = some (.cells xs.toArray O1.ty (0, 0)) ∧
      O1.es.length * O1.k ≤ xs.length ∧ (∀ e ∈ O1.es, e.length = O1.k) ∧ (∀ (q : Nat) d x, O1.es.flatten[q]? = some d → xs[q]? = some x → RD h m d x ∧ x.oneCell' = true) ∧ (∀ o, h' b o = none) := by
    intro j O1 h1
    rcases r.obj j O1 h1 with h3 | ⟨b, xs, h3, h4, h5, h6, h7, h8⟩
    · exact .inl h3
    · have hbs := block_lt_of_get h4
      refine .inr ⟨b, xs, h3, hbs, (hbk b hbs).trans h4, h5, h6, h7, fun o => ?_⟩
      cases hq : h' b o with
      | none => rfl
      | some x =>
        rcases hnew' b o x hq with h9 | h9
        · rw [h8 o] at h9; cases h9
        · omega
  rcases hres with ⟨d0, id, O, rfl, hO, hOI, hR⟩ | ⟨hdI, hR⟩
  · let m2 : BM := fun j => if j = n then m' id else m j
    have hmn : m n = none := (r.far n (Nat.le_refl n)).1
    have hHn : H n = none := (r.far n (Nat.le_refl n)).2
    have m2n : m2 n = m' id := by show (if n = n then _ else _) = _; rw [if_pos rfl]
    have m2o : ∀ j, j ≠ n → m2 j = m j := fun j hj => by show (if j = n then _ else _) = _; rw [if_neg hj]
    have ml : MLe m m2 := by
      intro j y hy
      rw [m2o j (fun h => by rw [h, hmn] at hy; cases hy)]; exact hy
    have hobj : ∀ j O1, updH H n (some O) j = some O1 → (j = n ∧ O1 = O) ∨ (j ≠ n ∧ H j = some O1) := by
      intro j O1 h1
      by_cases hj : j = n
      · subst hj; rw [updH_same] at h1; cases h1; exact .inl ⟨rfl, rfl⟩
      · rw [updH_ne _ _ hj] at h1; exact .inr ⟨hj, h1⟩
    have hnewb : ∀ b N, m' id = some (b, N) → w.heap.size ≤ b := fun b N h1 => (hw'.wb id O b N hO h1).resolve_right (hB b)
    have holdb : ∀ j O1 b N, H j = some O1 → m j = some (b, N) → b < w.heap.size := by
      intro j O1 b N h1 h2
      rcases hold j O1 h1 with ⟨h3, _⟩ | ⟨b', xs, h3, h4, _⟩
      · rw [h3] at h2; cases h2
      · rw [h3] at h2
        have := (Prod.mk.inj (Option.some.inj h2)).1
        omega
    have hrd : RD h' m2 (ren (fun _ => n) d0) v :=
      (RD.unren d0 v hd).toRen (f := fun _ => n) (fun i y hy => by rw [m2n]; exact hy)
    refine ⟨v, _, n + 1, updH H n (some O), h', m2, rfl, hK d0 O hR, hle, fun b o x hx => ?_, fun j hj => m2o j (by omega), by omega, ⟨⟨hw'.rh.froz, fun j hj => ?_, fun j O1 h1 => ?_, fun j j' O1 O2 b N N' h1 h2 h3 h4 => ?_⟩, ⟨hw'.fr.os, hw'.fr.tape, hw'.fr.output, hw'.fr.size, fun b hb _ => hbk b hb⟩, fun j O1 b N h1 h2 => ?_⟩, hrd⟩
    · rcases hnew' b o x hx with h1 | h1
      · exact .inl h1
      · exact .inr (.inl h1)
    · rw [m2o j (by omega), updH_ne _ _ (by omega)]; exact r.far j (by omega)
    · rcases hobj j O1 h1 with ⟨rfl, rfl⟩ | ⟨hj, h2⟩
      · rcases hw'.rh.obj id O1 hO with h3 | ⟨b, xs, h3, h4, h5, h6, h7, h8⟩
        · exact .inl ⟨by rw [m2n]; exact h3.1, h3.2⟩
        · refine .inr ⟨b, xs, by rw [m2n]; exact h3, h4, h5, h6, fun q d x hd hx => ?_, h8⟩
          obtain ⟨g1, g2⟩ := h7 q d x hd hx
          obtain ⟨c, hc, hd'⟩ := List.mem_flatten.1 (List.mem_of_getElem? hd)
          exact ⟨.imm _ _ (isI_sound d x (isIL_mem (hOI c hc) d hd') g1), g2⟩
      · rcases hold j O1 h2 with h3 | ⟨b, xs, h3, _, h4, h5, h6, h7, h8⟩
        · exact .inl ⟨by rw [m2o j hj]; exact h3.1, h3.2⟩
        · exact .inr ⟨b, xs, by rw [m2o j hj]; exact h3, h4, h5, h6, fun q d x hd hx => ⟨(h7 q d x hd hx).1.mono hle ml, (h7 q d x hd hx).2⟩, h8⟩
    · rcases hobj j O1 h1 with ⟨rfl, rfl⟩ | ⟨hj, h5⟩ <;> rcases hobj j' O2 h2 with ⟨rfl, rfl⟩ | ⟨hj', h6⟩
      · rfl
      · rw [m2n] at h3; rw [m2o j' hj'] at h4
        have := hnewb b N h3; have := holdb j' O2 b N' h6 h4; omega
      · rw [m2n] at h4; rw [m2o j hj] at h3
        have := hnewb b N' h4; have := holdb j O1 b N h5 h3; omega
      · rw [m2o j hj] at h3; rw [m2o j' hj'] at h4
        exact r.inj j j' O1 O2 b N N' h5 h6 h3 h4
    · rcases hobj j O1 h1 with ⟨rfl, rfl⟩ | ⟨hj, h5⟩
      · rw [m2n] at h2; exact .inl (hnewb b N h2)
      · rw [m2o j hj] at h2; exact .inr ⟨j, O1, N, h5, h2⟩
  · refine ⟨v, d, n, H, h', m, rfl, hK' d hR, hle, fun b o x hx => ?_, fun _ _ => rfl, Nat.le_refl _, ⟨⟨hw'.rh.froz, r.far, fun j O1 h1 => ?_, r.inj⟩, ⟨hw'.fr.os, hw'.fr.tape, hw'.fr.output, hw'.fr.size, fun b hb _ => hbk b hb⟩, fun j O1 b N h1 h2 => .inr ⟨j, O1, N, h1, h2⟩⟩, .imm _ _ (isI_sound d v hdI hd)⟩
    · rcases hnew' b o x hx with h1 | h1
      · exact .inl h1
      · exact .inr (.inl h1)
    · rcases hold j O1 h1 with h3 | ⟨b, xs, h3, _, h4, h5, h6, h7, h8⟩
      · exact .inl h3
      · exact .inr ⟨b, xs, h3, h4, h5, h6, fun q d x hd hx => ⟨(h7 q d x hd hx).1.mono hle (MLe.refl _), (h7 q d x hd hx).2⟩, h8⟩

end
end Bk
