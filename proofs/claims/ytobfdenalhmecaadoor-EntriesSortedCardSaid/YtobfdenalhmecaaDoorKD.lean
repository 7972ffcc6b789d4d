/- Objects that are handed to a function of values without identity, and not written again. -/
import Derived.Test.YtobfdenalhmecaaDoorKC
set_option linter.unusedSimpArgs false
set_option linter.unusedSectionVars false
set_option linter.unusedVariables false
namespace Bk
open Go
variable [Gh]

def memN : List Nat → Nat → Bool
  | [], _ => false
  | g :: gs, j => match Nat.beq g j with | true => true | false => memN gs j
theorem memN_iff : ∀ {gs : List Nat} {j : Nat}, memN gs j = true ↔ j ∈ gs
  | [], j => by simp [memN]
  | g :: gs, j => by
    simp only [memN]
    cases hb : Nat.beq g j with
    | true => have := Nat.eq_of_beq_eq_true hb; subst this; simp
    | false =>
      have : g ≠ j := fun he => by subst he; simp at hb
      simp [memN_iff, Ne.symm this]
def keepL (H : Hp) (gs : List Nat) : Hp := fun j => match memN gs j with | true => H j | false => none
theorem killL_iff {H : Hp} : ∀ {gs : List Nat} {j : Nat} {O : AObj}, j ∉ gs → H j = some O → killL H gs j = some O
  | [], j, O, _, h => h
  | g :: gs, j, O, hn, h => by
    simp only [List.mem_cons, not_or] at hn
    simp only [killL]
    rw [updH_ne _ _ hn.1]; exact killL_iff hn.2 h

/-- a loop, from a state of which only this is known -/
theorem LoopA.weaken {P : Program} {N n0 n n' : Nat} {H : Hp} {e : Env} {L : List (Nat × D)} {Hs : List (Nat × AObj)} {C : Code} {Q : Exit → Env → Nat → Hp → Prop} (h : LoopA P N n0 C Q (envL L) n' (hpL Hs)) (hle : LeA n0 e n H L n' Hs) : LoopA P N n0 C Q e n H :=
  ⟨fun w0 W h0 m0 a w hs => h.run w0 W h0 m0 a w (hs.weaken hle)⟩
theorem CutA.weaken {P : Program} {N n0 n n' : Nat} {H : Hp} {e : Env} {L : List (Nat × D)} {Hs : List (Nat × AObj)} {C : Code} {Q : Exit → Env → Nat → Hp → Prop} (h : CutA P N n0 C Q (envL L) n' (hpL Hs)) (hle : LeA n0 e n H L n' Hs) : CutA P N n0 C Q e n H :=
  ⟨fun w0 W h0 m0 a w hs => h.run w0 W h0 m0 a w (hs.weaken hle)⟩
/-- two ways that come to one cut -/
theorem splitB_cut {b : Bool} {F : Bool → Prop} {P : Program} {N n0 : Nat} {C : Code} {Q : Exit → Env → Nat → Hp → Prop} {σ : Type} (Fact : σ → Prop) (L : σ → List (Nat × D)) (n' : Nat) (Hs : σ → List (Nat × AObj))
    (pos : b = true → (∀ s, Fact s → CutA P N n0 C Q (envL (L s)) n' (hpL (Hs s))) → F true) (neg : b = false → (∀ s, Fact s → CutA P N n0 C Q (envL (L s)) n' (hpL (Hs s))) → F false)
    (all : ∀ s, Fact s → CutA P N n0 C Q (envL (L s)) n' (hpL (Hs s))) : splitB b F := splitB_intro (fun h => pos h all) (fun h => neg h all)
/-- two ways that come to one loop -/
theorem splitB_loop {b : Bool} {F : Bool → Prop} {P : Program} {N n0 : Nat} {C : Code} {Q : Exit → Env → Nat → Hp → Prop} {σ : Type} (Fact : σ → Prop) (L : σ → List (Nat × D)) (n' : Nat) (Hs : σ → List (Nat × AObj))
    (pos : b = true → (∀ s, Fact s → LoopA P N n0 C Q (envL (L s)) n' (hpL (Hs s))) → F true) (neg : b = false → (∀ s, Fact s → LoopA P N n0 C Q (envL (L s)) n' (hpL (Hs s))) → F false)
    (all : ∀ s, Fact s → LoopA P N n0 C Q (envL (L s)) n' (hpL (Hs s))) : splitB b F := splitB_intro (fun h => pos h all) (fun h => neg h all)

section
variable {P : Program} {n : Nat} {H : Hp}
open Classical in
theorem callA_freeze {f : Nat} {args : List D} (gs : List Nat) (hb : HasBody P f) {K : D → Nat → Hp → Prop} (hz : frzL (keepL H gs) args fun args' => CallA P f args' n (killL H gs) K) : CallA P f args n H K := by
  refine ⟨hb, fun h m w vals hg r hl hr => ?_⟩
  let B : Nat → Prop := fun b => ∃ g O N, g ∈ gs ∧ H g = some O ∧ m g = some (b, N)
  let h2 : FM := fun b o => if B b then w.cell? ⟨b, o, none⟩ else h b o
  have h2B : ∀ b o, B b → h2 b o = w.cell? ⟨b, o, none⟩ := fun b o hB => if_pos hB
  have h2n : ∀ b o, ¬ B b → h2 b o = h b o := fun b o hB => if_neg hB
  have hle : FLe h h2 := by
    intro b o x hx
    by_cases hB : B b
    · rw [h2B b o hB]; exact r.froz b o x hx
    · rw [h2n b o hB]; exact hx
  have rk : RH h m n (keepL H gs) w := by
    have hget : ∀ i O, keepL H gs i = some O → H i = some O ∧ i ∈ gs := by
      intro i O hO
      unfold keepL at hO
      split at hO
      · rename_i hq; exact ⟨hO, memN_iff.1 hq⟩
      · cases hO
    refine ⟨r.froz, fun i hi => ⟨(r.far i hi).1, ?_⟩, fun i O hO => r.obj i O (hget i O hO).1, fun i i' O O' b N N' h1 h2 => r.inj i i' O O' b N N' (hget i O h1).1 (hget i' O' h2).1⟩
    cases hq : keepL H gs i with
    | none => rfl
    | some O => have := (hget i O hq).1; rw [(r.far i hi).2] at this; cases this
  have hfrz : ∀ id O b N, keepL H gs id = some O → m id = some (b, N) → ∀ o x, w.cell? ⟨b, o, none⟩ = some x → h2 b o = some x := by
    intro id O b N hO hm o x hx
    unfold keepL at hO
    split at hO
    · rename_i hq
      rw [h2B b o ⟨id, O, N, memN_iff.1 hq, hO, hm⟩]; exact hx
    · cases hO
  obtain ⟨args', hp, hl', hr'⟩ := frzL_sound rk hle hfrz args vals hl hr hz
  have r2 : RH h2 m n (killL H gs) w := by
    refine ⟨fun b o x hx => ?_, fun i hi => ⟨(r.far i hi).1, ?_⟩, fun i O hO => ?_, fun i i' O O' b N N' h1 h2 => r.inj i i' O O' b N N' (killL_get h1).1 (killL_get h2).1⟩
    · by_cases hB : B b
      · rw [h2B b o hB] at hx; exact hx
      · rw [h2n b o hB] at hx; exact r.froz b o x hx
    · cases hq : killL H gs i with
      | none => rfl
      | some O => have := (killL_get hq).1; rw [(r.far i hi).2] at this; cases this
    · obtain ⟨h3, h4⟩ := killL_get hO
      rcases r.obj i O h3 with h5 | ⟨b, xs, h5, h6, h7, h8, h9, h10⟩
      · exact .inl h5
      · refine .inr ⟨b, xs, h5, h6, h7, h8, fun q d x hd hx => ⟨(h9 q d x hd hx).1.mono hle (MLe.refl _), (h9 q d x hd hx).2⟩, fun o => ?_⟩
        rw [h2n b o]
        · exact h10 o
        · rintro ⟨g, O2, N2, g1, g2, g3⟩
          have := r.inj i g O O2 b _ N2 h3 g2 h5 g3
          subst this; exact h4 g1
  refine (hp.run h2 m w vals (hg.trans hle) r2 hl' (fun i d x hd hx => .imm _ _ (hr' i d x hd hx))).mono ?_
  rintro en w' ⟨v, d', n', H', h', m', rfl, hK', hle', hnew, hm', hn', hw', hd⟩
  have hBl : ∀ b, Bl m (killL H gs) b → Bl m H b := fun b ⟨i, O, N, h1, h2⟩ => ⟨i, O, N, (killL_get h1).1, h2⟩
  refine ⟨v, d', n', H', h', m', rfl, hK', hle.trans hle', fun b o x hx => ?_, hm', hn', ⟨hw'.rh, ⟨hw'.fr.os, hw'.fr.tape, hw'.fr.output, hw'.fr.size, fun b hb hn => hw'.fr.block b hb (fun h => hn (hBl b h))⟩, fun i O b N h1 h2 => (hw'.wb i O b N h1 h2).imp (fun h => h) (hBl b)⟩, hd⟩
  rcases hnew b o x hx with h1 | h1 | h1
  · by_cases hB : B b
    · obtain ⟨g, O, N, _, h3, h4⟩ := hB
      exact .inr (.inr ⟨g, O, N, h3, h4⟩)
    · rw [h2n b o hB] at h1; exact .inl h1
  · exact .inr (.inl h1)
  · exact .inr (.inr (hBl b h1))

theorem frzA_mono' {H : Hp} {d : D} {K K' : D → Prop} (h : ∀ d, K d → K' d) (hk : frzA H d K) : frzA H d K' := by
  unfold frzA at hk ⊢
  split at hk
  · obtain ⟨O, h1, h2, h3, h4, h5⟩ := hk; exact ⟨O, h1, h2, h3, h4, h _ h5⟩
  · obtain ⟨O, c, h1, h2, h3, h5⟩ := hk; exact ⟨O, c, h1, h2, h3, h _ h5⟩
  · split at hk
    · rename_i h1; (try simp only [h1]); exact h _ hk
    · exact hk.elim
theorem frzL_mono' {H : Hp} : ∀ {l : List D} {K K' : List D → Prop}, (∀ d, K d → K' d) → frzL H l K → frzL H l K'
  | [], _, _, h, hk => h _ hk
  | _ :: _, _, _, h, hk => frzA_mono' (fun _ hk => frzL_mono' (fun _ => h _) hk) hk

theorem callA_frz {f : Nat} {args : List D} {d : D} (gs : List Nat) (hz : frzL (keepL H gs) args fun args' => PC P f args' d) (hb : HasBody P f) {K : D → Nat → Hp → Prop} (hK : K d n (killL H gs)) : CallA P f args n H K :=
  callA_freeze gs hb (frzL_mono' (fun _ hp => callA_pc hp hK) hz)

/-- a value may be said to be less -/
def WkD (d d' : D) : Prop := ∀ h v, RI h d v → RI h d' v
theorem WkD.refl (d : D) : WkD d d := fun _ _ h => h
theorem wk_nil (k : Nat) : WkD (.v (.slice none 0 0)) (.sl k []) := by
  intro h v r
  cases r
  exact .slE k none 0
theorem wk_tuple {ds ds' : List D} (hl : ds.length = ds'.length) (h : ∀ (i : Nat) d d', ds[i]? = some d → ds'[i]? = some d' → WkD d d') : WkD (.tuple ds) (.tuple ds') := by
  intro hh v r
  cases r with
  | tuple _ xs hx hr =>
    refine .tuple _ xs (by omega) (fun i d x hd hx' => ?_)
    have hi : i < ds.length := by
      have := get_lt hd; omega
    exact h i ds[i] d (List.getElem?_eq_getElem hi) hd hh x (hr i _ x (List.getElem?_eq_getElem hi) hx')

/-- a call of a function of values without identity, by its body; what is known of its result is a relation -/
theorem callA_rel {f : Nat} {args : List D} {R : D → Prop} (hI : isIL args = true) (hk : CallA P f args 0 H0 fun d' _ H' => frzT H' d' fun d => ∃ d2, WkD d d2 ∧ R d2) {K : D → Nat → Hp → Prop} (hK : ∀ d, R d → K d n H) : CallA P f args n H K := by
  obtain ⟨hb, hc⟩ := hk
  refine ⟨hb, fun h m w vals hg r hl hr => ?_⟩
  have r0 : RH h (fun _ => none) 0 H0 w := ⟨r.froz, fun _ _ => ⟨rfl, rfl⟩, fun id O hO => (by cases hO), fun id id' O O' b N N' hO => (by cases hO)⟩
  refine (hc h _ w vals hg r0 hl (fun i d x hd hx => .imm _ _ (isIL_sound args vals hI hr i d x hd hx))).mono ?_
  rintro en w' ⟨v, d', n', H', h', m', rfl, hK', hle, hnew, hm', hn', hw', hd⟩
  have hB : ∀ b, ¬ Bl (fun _ => none) H0 b := fun b ⟨_, _, _, h1, _⟩ => by cases h1
  have hw2 : WR w (fun _ => False) h' m' n' H' w' :=
    ⟨hw'.rh, ⟨hw'.fr.os, hw'.fr.tape, hw'.fr.output, hw'.fr.size, fun b hb' _ => hw'.fr.block b hb' (hB b)⟩, fun id O b N h1 h2 => (hw'.wb id O b N h1 h2).imp (fun h => h) (fun h => hB b h)⟩
  obtain ⟨d2, ⟨d3, hwk, hR⟩, hri⟩ := frzT_sound hw2 hd hK'
  have hri := hwk _ _ hri
  have hnew2 : ∀ b o x, hot h' w w' b o = some x → h b o = some x ∨ w.heap.size ≤ b := by
    intro b o x hx
    rcases hot_new hx with h1 | h1
    · rcases hnew b o x h1 with h2 | h2 | h2
      · exact .inl h2
      · exact .inr h2
      · exact absurd h2 (hB b)
    · exact .inr h1
  have hle2 : FLe h (hot h' w w') := hle.trans (hot_le _ _ _)
  have hbk : ∀ b, b < w.heap.size → w'.heap[b]? = w.heap[b]? := fun b hb => hw2.fr.block b hb (fun h => h)
  have r' := r.keep hbk
  have hrh : RH (hot h' w w') m n H w' := by
    refine ⟨hot_froz hw2.rh.froz, r'.far, fun j O hO => ?_, r'.inj⟩
    rcases r'.obj j O hO with h1 | ⟨b, xs, h1, h2, h3, h4, h5, h6⟩
    · exact .inl h1
    · refine .inr ⟨b, xs, h1, h2, h3, h4, fun q d x hd hx => ⟨(h5 q d x hd hx).1.mono hle2 (MLe.refl _), (h5 q d x hd hx).2⟩, fun o => ?_⟩
      cases hq : hot h' w w' b o with
      | none => rfl
      | some x =>
        rcases hnew2 b o x hq with h7 | h7
        · rw [h6 o] at h7; cases h7
        · rcases r.obj j O hO with ⟨h8, _⟩ | ⟨b', ys, h8, h9, _⟩
          · rw [h8] at h1; cases h1
          · rw [h8] at h1
            have h10 := (Prod.mk.inj (Option.some.inj h1)).1
            have := block_lt_of_get h9; omega
  refine ⟨v, d3, n, H, hot h' w w', m, rfl, hK d3 hR, hle2, fun b o x hx => ?_, fun _ _ => rfl, Nat.le_refl _, ⟨hrh, ⟨hw2.fr.os, hw2.fr.tape, hw2.fr.output, hw2.fr.size, fun b hb' _ => hbk b hb'⟩, fun id O b N h1 h2 => .inr ⟨id, O, N, h1, h2⟩⟩, .imm _ _ hri⟩
  rcases hnew2 b o x hx with h1 | h1
  · exact .inl h1
  · exact .inr (.inl h1)

/-- a nil slice as an argument is an empty one -/
theorem callA_nil {f k : Nat} {K : D → Nat → Hp → Prop} (hc : CallA P f [.sl k []] n H K) : CallA P f [.v (.slice none 0 0)] n H K := by
  refine ⟨hc.body, fun h m w vals hg r hl hr => hc.run h m w vals hg r hl fun i d x hd hx => ?_⟩
  match i, hd with
  | 0, hd =>
    cases hd
    have := (hr 0 _ x rfl hx).v_inv
    subst this
    exact .imm _ _ (.slE k none 0)
  | i + 1, hd => cases hd
end
end Bk
