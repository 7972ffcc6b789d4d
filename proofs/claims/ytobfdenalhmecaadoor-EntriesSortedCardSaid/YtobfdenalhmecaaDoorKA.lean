/- A call that turns one object. -/
import Derived.Test.YtobfdenalhmecaaDoorKz
set_option linter.unusedSimpArgs false
set_option linter.unusedSectionVars false
set_option linter.unusedVariables false
namespace Bk
open Go
variable [Gh]

def nameAt (id n : Nat) (i : Nat) : Nat := match i with
  | 0 => id
  | i + 1 => n + i

section
variable {P : Program} {n : Nat} {H : Hp}

/-- a call that was proved with the one object it turns named 0 -/
theorem callA_obj2 {f : Nat} {args0 args : List D} {O : AObj} {R : D → AObj → Prop} (hc : CallA P f args0 1 (hpL [(0, O)]) fun d _ H' => ∃ d0 O', d = ren (fun _ => 0) d0 ∧ R d0 O' ∧ H' 0 = some O') (id : Nat) (hargs : args = args0.map (ren (nameAt id n)))
    (hO : H id = some O) (hI : ∀ c ∈ O.es, isIL c = true) (hR : ∀ d0 O', R d0 O' → ∀ c ∈ O'.es, isIL c = true) {K : D → Nat → Hp → Prop} (hK : ∀ d0 O', R d0 O' → K (ren (fun _ => id) d0) n (updH H id (some O'))) : CallA P f args n H K := by
  obtain ⟨hb, hc⟩ := hc
  subst hargs
  refine ⟨hb, fun h m w vals hg r hl hr => ?_⟩
  have hid : id < n := by
    rcases Nat.lt_or_ge id n with h1 | h1
    · exact h1
    · rw [(r.far id h1).2] at hO; cases hO
  let m0 : BM := fun i => m (nameAt id n i)
  have hm0 : ∀ i, 1 ≤ i → m0 i = none := by
    intro i hi
    cases i with
    | zero => omega
    | succ i => exact (r.far _ (Nat.le_add_right n i)).1
  have hH0 : ∀ i O1, hpL [(0, O)] i = some O1 → i = 0 ∧ O1 = O := by
    intro i O1 h1
    simp only [hpL] at h1
    split at h1
    · rename_i hb; have := Nat.eq_of_beq_eq_true hb; cases h1; exact ⟨this.symm, rfl⟩
    · cases h1
  have hcont : ∀ {xs : List Value} {O1 : AObj} {ha hb : FM} {ma mb : BM}, (∀ c ∈ O1.es, isIL c = true) → FLe ha hb → (∀ (j : Nat) d x, O1.es.flatten[j]? = some d → xs[j]? = some x → RD ha ma d x ∧ x.oneCell' = true) → ∀ (j : Nat) d x, O1.es.flatten[j]? = some d → xs[j]? = some x → RD hb mb d x ∧ x.oneCell' = true := by
    intro xs O1 ha hb ma mb hII hle hh j d x hd hx
    obtain ⟨h1, h2⟩ := hh j d x hd hx
    obtain ⟨c, hc, hd'⟩ := List.mem_flatten.1 (List.mem_of_getElem? hd)
    exact ⟨.imm _ _ ((isI_sound d x (isIL_mem (hII c hc) d hd') h1).mono hle), h2⟩
  have r0 : RH h m0 1 (hpL [(0, O)]) w := by
    refine ⟨r.froz, fun i hi => ⟨hm0 i hi, ?_⟩, fun i O1 h1 => ?_, fun i i' O1 O2 b N N' h1 h2 _ _ => ?_⟩
    · cases hq : hpL [(0, O)] i with
      | none => rfl
      | some O1 => have := (hH0 i O1 hq).1; omega
    · obtain ⟨rfl, rfl⟩ := hH0 i O1 h1
      rcases r.obj id O1 hO with h3 | ⟨b, xs, h3, h4, h5, h6, h7, h8⟩
      · exact .inl h3
      · exact .inr ⟨b, xs, h3, h4, h5, h6, hcont hI (FLe.refl _) h7, h8⟩
    · rw [(hH0 i O1 h1).1, (hH0 i' O2 h2).1]
  have hr0 : ∀ (i : Nat) d x, args0[i]? = some d → vals[i]? = some x → RD h m0 d x := by
    intro i d x hd hx
    exact RD.unren d x (hr i _ x (by rw [List.getElem?_map, hd]; rfl) hx)
  refine (hc h m0 w vals hg r0 (by simpa using hl) hr0).mono ?_
  rintro en w' ⟨v, d, n', H', h', m', rfl, ⟨d0, O', rfl, hRO, hH'⟩, hle, hnew, hm', hn', hw', hd⟩
  have hBl : ∀ b, Bl m0 (hpL [(0, O)]) b → ∃ N, m id = some (b, N) := by
    rintro b ⟨i, O1, N, h1, h2⟩
    obtain ⟨rfl, rfl⟩ := hH0 i O1 h1
    exact ⟨N, h2⟩
  have hBl2 : ∀ b, Bl m0 (hpL [(0, O)]) b → Bl m H b := fun b hb => by
    obtain ⟨N, h1⟩ := hBl b hb
    exact ⟨id, O, N, hO, h1⟩
  have hm00 : m' 0 = m id := hm' 0 (by omega)
  have hobj : ∀ j O1, updH H id (some O') j = some O1 → (j = id ∧ O1 = O') ∨ (j ≠ id ∧ H j = some O1) := by
    intro j O1 h1
    by_cases hj : j = id
    · subst hj; rw [updH_same] at h1; cases h1; exact .inl ⟨rfl, rfl⟩
    · rw [updH_ne _ _ hj] at h1; exact .inr ⟨hj, h1⟩
  have hsome : ∀ j O1, updH H id (some O') j = some O1 → ∃ O2, H j = some O2 := by
    intro j O1 h1
    rcases hobj j O1 h1 with ⟨rfl, _⟩ | ⟨_, h2⟩
    · exact ⟨O, hO⟩
    · exact ⟨O1, h2⟩
  have hrd : RD h' m (ren (fun _ => id) d0) v := (RD.unren d0 v hd).toRen (f := fun _ => id) (fun i y hy => by rw [← hm00]; exact hy)
  refine ⟨v, _, n, updH H id (some O'), h', m, rfl, hK d0 O' hRO, hle, fun b o x hx => ?_, fun _ _ => rfl, Nat.le_refl _, ⟨⟨hw'.rh.froz, fun j hj => ?_, fun j O1 h1 => ?_, fun j j' O1 O2 b N N' h1 h2 h3 h4 => ?_⟩, ⟨hw'.fr.os, hw'.fr.tape, hw'.fr.output, hw'.fr.size, fun b hb hnb => hw'.fr.block b hb (fun h => hnb (hBl2 b h))⟩, fun j O1 b N h1 h2 => ?_⟩, hrd⟩
  · rcases hnew b o x hx with h1 | h1 | h1
    · exact .inl h1
    · exact .inr (.inl h1)
    · exact .inr (.inr (hBl2 b h1))
  · refine ⟨(r.far j hj).1, ?_⟩
    rw [updH_ne _ _ (by omega)]; exact (r.far j hj).2
  · rcases hobj j O1 h1 with ⟨rfl, rfl⟩ | ⟨hj, h2⟩
    · rcases hw'.rh.obj 0 O1 hH' with h3 | ⟨b, xs, h3, h4, h5, h6, h7, h8⟩
      · rw [hm00] at h3; exact .inl h3
      · rw [hm00] at h3
        exact .inr ⟨b, xs, h3, h4, h5, h6, hcont (hR _ O1 hRO) (FLe.refl _) h7, h8⟩
    · rcases r.obj j O1 h2 with h3 | ⟨b, xs, h3, h4, h5, h6, h7, h8⟩
      · exact .inl h3
      · have hnb : ¬ Bl m0 (hpL [(0, O)]) b := by
          intro hb
          obtain ⟨N, h9⟩ := hBl b hb
          exact hj (r.inj j id O1 O b _ N h2 hO h3 h9)
        have hbs := block_lt_of_get h4
        refine .inr ⟨b, xs, h3, (hw'.fr.block b hbs hnb).trans h4, h5, h6, fun q d x hd hx => ⟨(h7 q d x hd hx).1.mono hle (MLe.refl _), (h7 q d x hd hx).2⟩, fun o => ?_⟩
        cases hq : h' b o with
        | none => rfl
        | some x =>
          rcases hnew b o x hq with h9 | h9 | h9
          · rw [h8 o] at h9; cases h9
          · omega
          · exact absurd h9 hnb
  · obtain ⟨O3, h5⟩ := hsome j O1 h1
    obtain ⟨O4, h6⟩ := hsome j' O2 h2
    exact r.inj j j' O3 O4 b N N' h5 h6 h3 h4
  · obtain ⟨O3, h5⟩ := hsome j O1 h1
    exact .inr ⟨j, O3, N, h5, h2⟩

theorem callA_obj {f : Nat} {args0 args : List D} {O : AObj} {R : AObj → Prop} (hc : CallA P f args0 1 (hpL [(0, O)]) fun d _ H' => d = .tuple [] ∧ ∃ O', R O' ∧ H' 0 = some O') (id : Nat) (hargs : args = args0.map (ren (nameAt id n)))
    (hO : H id = some O) (hI : ∀ c ∈ O.es, isIL c = true) (hR : ∀ O', R O' → ∀ c ∈ O'.es, isIL c = true) {K : D → Nat → Hp → Prop} (hK : ∀ O', R O' → K (.tuple []) n (updH H id (some O'))) : CallA P f args n H K := by
  refine callA_obj2 (R := fun d O' => d = .tuple [] ∧ R O') ⟨hc.body, fun h m w vals hg r hl hr => (hc.run h m w vals hg r hl hr).mono ?_⟩ id hargs hO hI (fun d O' h => hR O' h.2) (by rintro d O' ⟨rfl, h⟩; exact hK O' h)
  rintro en w' ⟨v, d, n', H', h', m', e, ⟨rfl, O', h1, h2⟩, rest⟩
  exact ⟨v, _, n', H', h', m', e, ⟨.tuple [], O', rfl, ⟨rfl, h1⟩, h2⟩, rest⟩

end
end Bk
