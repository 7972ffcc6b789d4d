/- A call with objects, whatever their names are with the caller. -/
import Derived.Test.YtobfdenalhmecaaDoorKB
set_option linter.unusedSimpArgs false
set_option linter.unusedSectionVars false
set_option linter.unusedVariables false
namespace Bk
open Go
variable [Gh]

/-- the caller's names of a call's objects: those that it was handed, then new ones -/
def rho : List Nat → Nat → Nat → Nat
  | [], n, i => n + i
  | g :: _, _, 0 => g
  | _ :: gs, n, i + 1 => rho gs n i
def killL (H : Hp) : List Nat → Hp
  | [] => H
  | g :: gs => updH (killL H gs) g none
def putH (H : Hp) : List (Nat × AObj) → Hp
  | [] => H
  | (j, O) :: l => updH (putH H l) j (some O)
def sameO (f : Nat → Nat) : List (Nat × AObj) → List (Nat × AObj) → Prop
  | [], [] => True
  | (i, O) :: l, (j, O') :: l' => j = f i ∧ (O' = renO f O ∨ (O' = O ∧ ∀ c ∈ O.es, isIL c = true)) ∧ sameO f l l'
  | _, _ => False
/-- what a call leaves: a value and objects, the names from k on turned -/
def OutA (k : Nat) (d : D) (n' : Nat) (H' : Hp) (D' : D) (k' : Nat) (Hs : List (Nat × AObj)) : Prop :=
  ∃ ρ : List (Nat × Nat), pairB ρ k n' k' (Hs.map (·.1)) = true ∧ d = ren (renN ρ k n') D' ∧ objsA (renN ρ k n') H' Hs

theorem rho_low : ∀ {gs : List Nat} {n i : Nat}, i < gs.length → gs[i]? = some (rho gs n i)
  | [], _, _, h => by simp at h
  | _ :: _, _, 0, _ => rfl
  | _ :: gs, n, i + 1, h => by
    have := rho_low (gs := gs) (n := n) (i := i) (by simpa using h)
    simpa [rho] using this
theorem rho_high : ∀ {gs : List Nat} {n i : Nat}, gs.length ≤ i → rho gs n i = n + (i - gs.length)
  | [], n, i, _ => by simp [rho]
  | _ :: gs, n, 0, h => by simp at h
  | _ :: gs, n, i + 1, h => by
    have := rho_high (gs := gs) (n := n) (i := i) (by simpa using h)
    simp only [rho, this, List.length_cons]; omega
theorem rho_inj {gs : List Nat} {n i j : Nat} (hd : gs.Nodup) (hi : i < gs.length) (hj : j < gs.length) (h : rho gs n i = rho gs n j) : i = j := by
  have h1 := rho_low (n := n) hi
  have h2 := rho_low (n := n) hj
  rw [h] at h1
  rw [List.getElem?_eq_getElem hi] at h1
  rw [List.getElem?_eq_getElem hj] at h2
  exact (List.getElem?_inj hi hd).1 (by rw [List.getElem?_eq_getElem hi, List.getElem?_eq_getElem hj]; exact h1.trans h2.symm)

theorem killL_get {H : Hp} : ∀ {gs : List Nat} {j : Nat} {O : AObj}, killL H gs j = some O → H j = some O ∧ j ∉ gs
  | [], j, O, h => ⟨h, by simp⟩
  | g :: gs, j, O, h => by
    simp only [killL] at h
    by_cases hj : j = g
    · subst hj; rw [updH_same] at h; cases h
    · rw [updH_ne _ _ hj] at h
      obtain ⟨h1, h2⟩ := killL_get h
      exact ⟨h1, by simp [hj, h2]⟩
theorem putH_get {H : Hp} {f : Nat → Nat} : ∀ {l l' : List (Nat × AObj)} {j : Nat} {O' : AObj}, sameO f l l' → putH H l' j = some O' →
    (∃ i O, hpL l i = some O ∧ j = f i ∧ i ∈ l.map (·.1) ∧ (O' = renO f O ∨ (O' = O ∧ ∀ c ∈ O.es, isIL c = true))) ∨ H j = some O'
  | [], [], j, O', _, h => .inr h
  | [], _ :: _, _, _, hs, _ => hs.elim
  | _ :: _, [], _, _, hs, _ => hs.elim
  | (i, O) :: l, (q, O2) :: l', j, O', hs, h => by
    obtain ⟨h1, h2, h3⟩ := hs
    simp only [putH] at h
    by_cases hj : j = q
    · subst hj
      rw [updH_same] at h; cases h
      exact .inl ⟨i, O, by simp [hpL], h1, by simp, h2⟩
    · rw [updH_ne _ _ hj] at h
      rcases putH_get h3 h with ⟨i', O'', g1, g2, g3, g4⟩ | g1
      · refine .inl ⟨i', O'', ?_, g2, by simp [g3], g4⟩
        simp only [hpL]
        cases hb : Nat.beq i i' with
        | true =>
          exfalso
          have := Nat.eq_of_beq_eq_true hb
          subst this
          exact hj (g2.trans h1.symm)
        | false => exact g1
      · exact .inr g1

section
variable {P : Program} {n : Nat} {H : Hp}

theorem renO_rel {f : Nat → Nat} {O O' : AObj} (he : O' = renO f O ∨ (O' = O ∧ ∀ c ∈ O.es, isIL c = true)) {h : FM} {m m2 : BM} (hm : ∀ id y, m id = some y → m2 (f id) = some y) {xs : List Value}
    (hr : ∀ (j : Nat) d x, O.es.flatten[j]? = some d → xs[j]? = some x → RD h m d x ∧ x.oneCell' = true) : ∀ (j : Nat) d x, O'.es.flatten[j]? = some d → xs[j]? = some x → RD h m2 d x ∧ x.oneCell' = true := by
  intro j d x hd hx
  rcases he with rfl | ⟨rfl, hI⟩
  · simp only [renO] at hd
    rw [flat_ren, renL_eq, List.getElem?_map] at hd
    cases hq : O.es.flatten[j]? with
    | none => rw [hq] at hd; simp at hd
    | some y =>
      rw [hq] at hd; simp at hd; subst hd
      obtain ⟨h1, h2⟩ := hr j y x hq hx
      exact ⟨h1.toRen hm, h2⟩
  · obtain ⟨h1, h2⟩ := hr j d x hd hx
    obtain ⟨c, hc, hd'⟩ := List.mem_flatten.1 (List.mem_of_getElem? hd)
    exact ⟨.imm _ _ (isI_sound d x (isIL_mem (hI c hc) d hd') h1), h2⟩

theorem renO_shape {f : Nat → Nat} {O O' : AObj} (he : O' = renO f O ∨ (O' = O ∧ ∀ c ∈ O.es, isIL c = true)) : O'.ty = O.ty ∧ O'.k = O.k ∧ O'.es.length = O.es.length ∧ ((∀ e ∈ O.es, e.length = O.k) → ∀ e ∈ O'.es, e.length = O'.k) := by
  rcases he with rfl | ⟨rfl, hI⟩
  · refine ⟨rfl, rfl, by simp [renO], fun hk e he => ?_⟩
    simp only [renO] at he
    obtain ⟨e', he', rfl⟩ := List.mem_map.1 he
    rw [renL_length]; exact hk e' he'
  · exact ⟨rfl, rfl, rfl, fun h => h⟩

theorem callA_frame {f : Nat} {args0 : List D} {k : Nat} {Hs0 : List (Nat × AObj)} {ι : Type} {Q : ι → Prop} {D' : ι → D} {k' : Nat} {Hs : ι → List (Nat × AObj)}
    (hc : CallA P f args0 k (hpL Hs0) fun d n' H' => ∃ i, Q i ∧ OutA k d n' H' (D' i) k' (Hs i)) (gs : List Nat) (hk : gs.length = k) (hn : ∀ g ∈ gs, g < n) (hd : gs.Nodup) (h0 : ∀ p ∈ Hs0.map (·.1), p < k)
    {args : List D} (hargs : args = args0.map (ren (rho gs n))) (hH : objsA (rho gs n) H Hs0) (Hs' : ι → List (Nat × AObj)) (hs : ∀ i, Q i → sameO (rho gs n) (Hs i) (Hs' i)) {K : D → Nat → Hp → Prop}
    (hK : ∀ i, Q i → K (ren (rho gs n) (D' i)) (n + (k' - k)) (putH (killL H gs) (Hs' i))) : CallA P f args n H K := by
  obtain ⟨hb, hc⟩ := hc
  subst hargs
  refine ⟨hb, fun h m w vals hg r hl hr => ?_⟩
  let m0 : BM := fun i => m (rho gs n i)
  have hfar : ∀ j, n ≤ j → m j = none := fun j hj => (r.far j hj).1
  have rlow : ∀ i, i < k → rho gs n i < n ∧ rho gs n i ∈ gs := fun i hi => by
    have := List.mem_of_getElem? (rho_low (n := n) (show i < gs.length by omega))
    exact ⟨hn _ this, this⟩
  have hin0 : ∀ i O, hpL Hs0 i = some O → i < k := fun i O hO => h0 i (objs_get hH i O hO).2
  have r0 : RH h m0 k (hpL Hs0) w := by
    refine ⟨r.froz, fun i hi => ⟨hfar _ (by rw [rho_high (by omega)]; omega), ?_⟩, fun i O hO => ?_, fun i i' O O' b N N' hO hO' hm1 hm2 => ?_⟩
    · cases hq : hpL Hs0 i with
      | none => rfl
      | some O => have := hin0 i O hq; omega
    · obtain ⟨⟨O', hO', he⟩, _⟩ := objs_get hH i O hO
      obtain ⟨u1, u2, u3, u4, u5⟩ := unrenO he
      rcases r.obj _ O' hO' with ⟨h3, h4⟩ | ⟨b, xs, h3, h4, h5, h6, h7, h8⟩
      · refine .inl ⟨h3, ?_⟩
        rw [h4] at u3
        exact List.eq_nil_of_length_eq_zero (by simpa using u3.symm)
      · exact .inr ⟨b, xs, h3, by rw [← u1]; exact h4, by rw [← u2, ← u3]; exact h5, u4 h6, u5 xs h m h7, h8⟩
    · obtain ⟨⟨O1, hO1, _⟩, _⟩ := objs_get hH i O hO
      obtain ⟨⟨O2, hO2, _⟩, _⟩ := objs_get hH i' O' hO'
      exact rho_inj hd (by have := hin0 i O hO; omega) (by have := hin0 i' O' hO'; omega) (r.inj _ _ O1 O2 b N N' hO1 hO2 hm1 hm2)
  have hr0 : ∀ (i : Nat) d x, args0[i]? = some d → vals[i]? = some x → RD h m0 d x := by
    intro i d x hd hx
    exact RD.unren d x (hr i _ x (by rw [List.getElem?_map, hd]; rfl) hx)
  refine (hc h m0 w vals hg r0 (by simpa using hl) hr0).mono ?_
  rintro en w' ⟨v, d, n', H', h', m', rfl, ⟨i, hQ, ρ, hpb, rfl, hob⟩, hle, hnew, hm', hn', hw', hdv⟩
  simp only [pairB, Bool.and_eq_true] at hpb
  obtain ⟨⟨⟨b1, b2⟩, b3⟩, b4⟩ := hpb
  have b1 := Nat.le_of_ble_eq_true b1
  rw [List.all_eq_true] at b2 b3 b4
  have hlow : ∀ i, i < k → renN ρ k n' i = i := fun i hi => renN_low (n' := k') b2 hi
  have hhigh : ∀ i, k' ≤ i → n' ≤ renN ρ k n' i := fun i hi => renN_high b2 b1 hi
  let m2 : BM := fun j => if j < n then m j else m' (renN ρ k n' (k + (j - n)))
  have m2low : ∀ j, j < n → m2 j = m j := fun j hj => by show (if j < n then _ else _) = _; rw [if_pos hj]
  have m2rho : ∀ c, m2 (rho gs n c) = m' (renN ρ k n' c) := by
    intro c
    by_cases hck : c < k
    · rw [m2low _ (rlow c hck).1, hlow c hck]
      exact (hm' c hck).symm
    · have e : rho gs n c = n + (c - k) := by rw [rho_high (by omega), hk]
      show (if rho gs n c < n then _ else _) = _
      rw [if_neg (by omega), e]
      congr 2; omega
  have hBl : ∀ b, Bl m0 (hpL Hs0) b → Bl m H b := by
    rintro b ⟨c, O, N, h1, h2⟩
    obtain ⟨⟨O1, hO1, _⟩, _⟩ := objs_get hH c O h1
    exact ⟨_, O1, N, hO1, h2⟩
  have hBlg : ∀ b, Bl m0 (hpL Hs0) b → ∃ g O N, g ∈ gs ∧ H g = some O ∧ m g = some (b, N) := by
    rintro b ⟨c, O, N, h1, h2⟩
    obtain ⟨⟨O1, hO1, _⟩, _⟩ := objs_get hH c O h1
    exact ⟨_, O1, N, (rlow c (hin0 c O h1)).2, hO1, h2⟩
  have ml : ∀ id y, m' (renN ρ k n' id) = some y → m2 (rho gs n id) = some y := fun id y hy => by rw [m2rho]; exact hy
  have mm : MLe m m2 := by
    intro j y hy
    have hj : j < n := by
      rcases Nat.lt_or_ge j n with h1 | h1
      · exact h1
      · rw [hfar j h1] at hy; cases hy
    rw [m2low j hj]; exact hy
  -- what lies behind the call
  have look : ∀ j O1, putH (killL H gs) (Hs' i) j = some O1 → (∃ c O, hpL (Hs i) c = some O ∧ j = rho gs n c ∧ c ∈ (Hs i).map (·.1) ∧ (O1 = renO (rho gs n) O ∨ (O1 = O ∧ ∀ c ∈ O.es, isIL c = true))) ∨ (H j = some O1 ∧ j ∉ gs) := by
    intro j O1 h1
    rcases putH_get (hs i hQ) h1 with h2 | h2
    · exact .inl h2
    · exact .inr (killL_get h2)
  have cin : ∀ c, c ∈ (Hs i).map (·.1) → c < k' := by
    intro c hc
    have := b3 c hc
    simp only [Bool.and_eq_true] at this
    exact Nat.le_of_ble_eq_true this.1
  have oldb : ∀ j O1 b N, H j = some O1 → j ∉ gs → m j = some (b, N) → b < w.heap.size ∧ ¬ Bl m0 (hpL Hs0) b := by
    intro j O1 b N h1 h2 h3
    constructor
    · rcases r.obj j O1 h1 with ⟨h4, _⟩ | ⟨b', xs, h4, h5, _⟩
      · rw [h4] at h3; cases h3
      · rw [h4] at h3
        have := (Prod.mk.inj (Option.some.inj h3)).1
        have := block_lt_of_get h5; omega
    · intro h4
      obtain ⟨g, O2, N2, g1, g2, g3⟩ := hBlg b h4
      have := r.inj j g O1 O2 b N N2 h1 g2 h3 g3
      subst this; exact h2 g1
  have newb : ∀ c O b N, hpL (Hs i) c = some O → m' (renN ρ k n' c) = some (b, N) → w.heap.size ≤ b ∨ Bl m0 (hpL Hs0) b := by
    intro c O b N h1 h2
    obtain ⟨⟨O1, hO1, _⟩, _⟩ := objs_get hob c O h1
    exact hw'.wb _ O1 b N hO1 h2
  have hlow2 : ∀ j O1, H j = some O1 → j < n := by
    intro j O1 h1
    rcases Nat.lt_or_ge j n with h2 | h2
    · exact h2
    · rw [(r.far j h2).2] at h1; cases h1
  refine ⟨v, _, n + (k' - k), _, h', m2, rfl, hK i hQ, hle, fun b o x hx => ?_, fun j hj => m2low j hj, Nat.le_add_right _ _, ⟨⟨hw'.rh.froz, fun j hj => ?_, fun j O1 h1 => ?_, fun j j' O1 O2 b N N' h1 h2 h3 h4 => ?_⟩, ⟨hw'.fr.os, hw'.fr.tape, hw'.fr.output, hw'.fr.size, fun b hb hbl => hw'.fr.block b hb (fun h => hbl (hBl b h))⟩, fun j O1 b N h1 h2 => ?_⟩, ?_⟩
  · rcases hnew b o x hx with h1 | h1 | h1
    · exact .inl h1
    · exact .inr (.inl h1)
    · exact .inr (.inr (hBl b h1))
  · refine ⟨?_, ?_⟩
    · show (if j < n then _ else _) = _
      rw [if_neg (by omega)]
      exact (hw'.rh.far _ (hhigh _ (by omega))).1
    · cases hq : putH (killL H gs) (Hs' i) j with
      | none => rfl
      | some O1 =>
        exfalso
        rcases look j O1 hq with ⟨c, O, _, h2, h3, _⟩ | ⟨h2, _⟩
        · have h4 := cin c h3
          by_cases hck : c < k
          · have := (rlow c hck).1; omega
          · rw [rho_high (by omega), hk] at h2; omega
        · have := hlow2 j O1 h2; omega
  · rcases look j O1 h1 with ⟨c, O, hO, rfl, _, he⟩ | ⟨h2, h3⟩
    · obtain ⟨⟨O2, hO2, he2⟩, _⟩ := objs_get hob c O hO
      obtain ⟨u1, u2, u3, u4, u5⟩ := unrenO he2
      obtain ⟨s1, s2, s3, s4⟩ := renO_shape he
      rcases hw'.rh.obj _ O2 hO2 with ⟨h3, h4⟩ | ⟨b, xs, h3, h4, h5, h6, h7, h8⟩
      · refine .inl ⟨by rw [m2rho]; exact h3, ?_⟩
        rw [h4] at u3
        exact List.eq_nil_of_length_eq_zero (by rw [s3, ← u3]; rfl)
      · exact .inr ⟨b, xs, by rw [m2rho]; exact h3, by rw [s1, ← u1]; exact h4, by rw [s2, s3, ← u2, ← u3]; exact h5, s4 (u4 h6), renO_rel he ml (u5 xs h' m' h7), h8⟩
    · have hj := hlow2 j O1 h2
      rcases r.obj j O1 h2 with h4 | ⟨b, xs, h4, h5, h6, h7, h8, h9⟩
      · exact .inl ⟨by rw [m2low j hj]; exact h4.1, h4.2⟩
      · obtain ⟨g1, g2⟩ := oldb j O1 b _ h2 h3 h4
        refine .inr ⟨b, xs, by rw [m2low j hj]; exact h4, (hw'.fr.block b g1 g2).trans h5, h6, h7, fun q d x hd hx => ⟨(h8 q d x hd hx).1.mono hle mm, (h8 q d x hd hx).2⟩, fun o => ?_⟩
        cases hq : h' b o with
        | none => rfl
        | some x =>
          rcases hnew b o x hq with g3 | g3 | g3
          · rw [h9 o] at g3; cases g3
          · omega
          · exact absurd g3 g2
  · rcases look j O1 h1 with ⟨c, O, hO, rfl, hc1, _⟩ | ⟨g1, g2⟩ <;> rcases look j' O2 h2 with ⟨c', O', hO', rfl, hc1', _⟩ | ⟨g1', g2'⟩
    · rw [m2rho] at h3 h4
      obtain ⟨⟨O3, hO3, _⟩, _⟩ := objs_get hob c O hO
      obtain ⟨⟨O4, hO4, _⟩, _⟩ := objs_get hob c' O' hO'
      have := hw'.rh.inj _ _ O3 O4 b N N' hO3 hO4 h3 h4
      have h5 := b4 c hc1
      rw [List.all_eq_true] at h5
      have h6 := h5 c' hc1'
      rw [this] at h6
      simp only [Nat.beq_refl, Bool.not_true, Bool.or_false] at h6
      rw [Nat.eq_of_beq_eq_true h6]
    · exfalso
      rw [m2rho] at h3
      rw [m2low j' (hlow2 j' O2 g1')] at h4
      obtain ⟨q1, q2⟩ := oldb j' O2 b N' g1' g2' h4
      rcases newb c O b N hO h3 with q3 | q3
      · omega
      · exact q2 q3
    · exfalso
      rw [m2rho] at h4
      rw [m2low j (hlow2 j O1 g1)] at h3
      obtain ⟨q1, q2⟩ := oldb j O1 b N g1 g2 h3
      rcases newb c' O' b N' hO' h4 with q3 | q3
      · omega
      · exact q2 q3
    · rw [m2low j (hlow2 j O1 g1)] at h3
      rw [m2low j' (hlow2 j' O2 g1')] at h4
      exact r.inj j j' O1 O2 b N N' g1 g1' h3 h4
  · rcases look j O1 h1 with ⟨c, O, hO, rfl, _, _⟩ | ⟨g1, g2⟩
    · rw [m2rho] at h2
      rcases newb c O b N hO h2 with q3 | q3
      · exact .inl q3
      · exact .inr (hBl b q3)
    · rw [m2low j (hlow2 j O1 g1)] at h2
      exact .inr ⟨j, O1, N, g1, h2⟩
  · exact (RD.unren _ _ hdv).toRen (m := fun id => m' (renN ρ k n' id)) ml

end
end Bk
