/- Loops; a call whose objects bear other names. -/
import Derived.Test.YtobfdenalhmecaaDoorKy
set_option linter.unusedSimpArgs false
set_option linter.unusedSectionVars false
set_option linter.unusedVariables false
namespace Bk
open Go
variable [Gh]

/-- slots, as a list; the others are not known -/
def envL : List (Nat × D) → Env
  | [], _ => .any
  | (i, d) :: l, t => match Nat.beq i t with | true => d | false => envL l t
def hpL : List (Nat × AObj) → Hp
  | [], _ => none
  | (i, o) :: l, t => match Nat.beq i t with | true => some o | false => hpL l t

def lookN : List (Nat × Nat) → Nat → Option Nat
  | [], _ => none
  | (a, b) :: r, i => match Nat.beq a i with | true => some b | false => lookN r i
/-- names turned: those of a list; those below n0 stay; the others are none's -/
def renN (ρ : List (Nat × Nat)) (n0 n : Nat) (i : Nat) : Nat := match lookN ρ i with
  | some j => j
  | none => match Nat.blt i n0 with | true => i | false => n + i

def slotsA (f : Nat → Nat) (e : Env) : List (Nat × D) → Prop
  | [] => True
  | (t, d) :: l => e t = ren f d ∧ slotsA f e l
def objsA (f : Nat → Nat) (H : Hp) : List (Nat × AObj) → Prop
  | [] => True
  | (i, O) :: l => (∃ O', H (f i) = some O' ∧ (O' = renO f O ∨ (O' = O ∧ ∀ c ∈ O.es, isIL c = true))) ∧ objsA f H l
def pairB (ρ : List (Nat × Nat)) (n0 n n' : Nat) (l : List Nat) : Bool :=
  Nat.ble n0 n' && ρ.all (fun p => Nat.ble n0 p.1 && Nat.ble n0 p.2 && Nat.blt p.1 n') && l.all (fun i => Nat.blt i n' && (Nat.blt i n0 || (lookN ρ i).isSome)) && l.all fun i => l.all fun j => Nat.beq i j || !Nat.beq (renN ρ n0 n i) (renN ρ n0 n j)

/-- a state says no more than another, its objects' names turned -/
def LeA (n0 : Nat) (e : Env) (n : Nat) (H : Hp) (L : List (Nat × D)) (n' : Nat) (Hs : List (Nat × AObj)) : Prop :=
  ∃ ρ : List (Nat × Nat), pairB ρ n0 n n' (Hs.map (·.1)) = true ∧ slotsA (renN ρ n0 n) e L ∧ objsA (renN ρ n0 n) H Hs

/-- a loop, by a family of invariants -/
theorem wp_loop_fam {P : Program} {ι : Type} {I : ι → Act → World → Prop} (μ : ι → Nat) {c : Code} {Q : Exit → Act → World → Prop} (i : ι) {a : Act} {w : World} (h0 : I i a w)
    (round : ∀ i a w, I i a w → c.wp P (Exit.then (fun a' w' => ∃ j, μ j < μ i ∧ I j a' w') Q) a w) : (Code.loop c).wp P Q a w := by
  intro b k cs
  have key : ∀ n i a w, μ i = n → I i a w → ∃ e a' w', Q e a' w' ∧ Arrives P (lone (b.at a (.code c :: .inLoop c :: k)) cs w) b k cs e a' w' := by
    intro n
    induction n using Nat.strongRecOn with
    | _ n ih =>
      intro i a w hn hI
      obtain ⟨e, a1, w1, hq, harr⟩ := round i a w hI b (.inLoop c :: k) cs
      cases e with
      | normal =>
        obtain ⟨j, hlt, hI1⟩ := hq
        obtain ⟨e2, a2, w2, hq2, harr2⟩ := ih (μ j) (hn ▸ hlt) j a1 w1 rfl hI1
        exact ⟨e2, a2, w2, hq2, .of_steps (Steps.trans harr (.one step_inLoop)) harr2⟩
      | exit id => exact ⟨_, a1, w1, hq, .pass (x := .inLoop c) rfl (fun _ _ => .inl (by simp)) harr⟩
      | goto l => exact ⟨_, a1, w1, hq, .pass (x := .inLoop c) rfl (fun _ _ => .inl (by simp)) harr⟩
      | ret => exact ⟨_, a1, w1, hq, .pass (x := .inLoop c) rfl (fun _ _ => .inl (by simp)) harr⟩
      | panic ch => exact ⟨_, a1, w1, hq, .pass (x := .inLoop c) rfl (fun _ _ => .inl (by simp)) harr⟩
      | outgrown => exact ⟨_, a1, w1, hq, .pass (x := .inLoop c) rfl (fun _ _ => .inl (by simp)) harr⟩
  obtain ⟨e, a', w', hq, harr⟩ := key _ i a w rfl h0
  exact ⟨e, a', w', hq, .of_steps (.one step_loop) harr⟩

section
variable {P : Program} {T : Tab} {w0 w : World} {W : Nat → Prop} {h : FM} {m : BM} {n n' n0 N : Nat} {H : Hp} {e : Env} {a : Act}

theorem slots_get {f : Nat → Nat} : ∀ {L : List (Nat × D)}, slotsA f e L → ∀ t, envL L t = .any ∨ e t = ren f (envL L t)
  | [], _, t => .inl rfl
  | (i, d) :: l, hs, t => by
    simp only [envL]
    cases hb : Nat.beq i t with
    | true => have := Nat.eq_of_beq_eq_true hb; subst this; exact .inr hs.1
    | false => exact slots_get hs.2 t
theorem objs_get {f : Nat → Nat} : ∀ {Hs : List (Nat × AObj)}, objsA f H Hs → ∀ i O, hpL Hs i = some O → (∃ O', H (f i) = some O' ∧ (O' = renO f O ∨ (O' = O ∧ ∀ c ∈ O.es, isIL c = true))) ∧ i ∈ Hs.map (·.1)
  | [], _, i, O, hO => by cases hO
  | (j, O1) :: l, hs, i, O, hO => by
    simp only [hpL] at hO
    split at hO
    · rename_i hb
      have := Nat.eq_of_beq_eq_true hb; subst this; cases hO
      exact ⟨hs.1, by simp⟩
    · obtain ⟨h1, h2⟩ := objs_get hs.2 i O hO
      exact ⟨h1, by simp [h2]⟩

theorem unrenO {f : Nat → Nat} {O O' : AObj} (he : O' = renO f O ∨ (O' = O ∧ ∀ c ∈ O.es, isIL c = true)) : O'.ty = O.ty ∧ O'.k = O.k ∧ O'.es.length = O.es.length ∧ ((∀ e ∈ O'.es, e.length = O'.k) → ∀ e ∈ O.es, e.length = O.k) ∧
    ∀ (xs : List Value) (h : FM) (m : BM), (∀ (j : Nat) d x, O'.es.flatten[j]? = some d → xs[j]? = some x → RD h m d x ∧ x.oneCell' = true) → ∀ (j : Nat) d x, O.es.flatten[j]? = some d → xs[j]? = some x → RD h (fun id => m (f id)) d x ∧ x.oneCell' = true := by
  rcases he with rfl | ⟨rfl, hI⟩
  · refine ⟨rfl, rfl, by simp [renO], fun hk e he => ?_, fun xs h m hr j d x hd hx => ?_⟩
    · have := hk (renL f e) (by simp only [renO]; exact List.mem_map_of_mem he)
      rw [renL_length] at this; exact this
    · have h1 : ((renO f O).es.flatten)[j]? = some (ren f d) := by
        simp only [renO]
        rw [flat_ren, renL_eq, List.getElem?_map, hd]; rfl
      have := hr j _ x h1 hx
      exact ⟨RD.unren d x this.1, this.2⟩
  · refine ⟨rfl, rfl, rfl, fun hk => hk, fun xs h m hr j d x hd hx => ?_⟩
    have h1 := hr j d x hd hx
    have h2 : isI d = true := by
      obtain ⟨c, hc, hd'⟩ := List.mem_flatten.1 (List.mem_of_getElem? hd)
      exact isIL_mem (hI c hc) d hd'
    exact ⟨.imm _ _ (isI_sound d x h2 h1.1), h1.2⟩

theorem lookN_mem : ∀ {ρ : List (Nat × Nat)} {i j : Nat}, lookN ρ i = some j → (i, j) ∈ ρ
  | [], _, _, h => by cases h
  | (a, b) :: r, i, j, h => by
    simp only [lookN] at h
    split at h
    · rename_i hb; cases h; have := Nat.eq_of_beq_eq_true hb; subst this; simp
    · simp [lookN_mem h]

theorem renN_low {ρ : List (Nat × Nat)} (hρ : ∀ p ∈ ρ, (Nat.ble n0 p.1 && Nat.ble n0 p.2 && Nat.blt p.1 n') = true) {i : Nat} (hi : i < n0) : renN ρ n0 n i = i := by
  unfold renN
  cases hq : lookN ρ i with
  | some j =>
    have := hρ _ (lookN_mem hq)
    simp only [Bool.and_eq_true] at this
    have : n0 ≤ i := Nat.le_of_ble_eq_true this.1.1
    omega
  | none =>
    have : Nat.blt i n0 = true := by unfold Nat.blt; exact Nat.ble_eq_true_of_le hi
    simp only [this]
theorem renN_high {ρ : List (Nat × Nat)} (hρ : ∀ p ∈ ρ, (Nat.ble n0 p.1 && Nat.ble n0 p.2 && Nat.blt p.1 n') = true) (hn : n0 ≤ n') {i : Nat} (hi : n' ≤ i) : n ≤ renN ρ n0 n i := by
  unfold renN
  cases hq : lookN ρ i with
  | some j =>
    have := hρ _ (lookN_mem hq)
    simp only [Bool.and_eq_true] at this
    have : i.succ ≤ n' := Nat.le_of_ble_eq_true this.2
    omega
  | none =>
    cases hb : Nat.blt i n0 with
    | true =>
      have : i.succ ≤ n0 := Nat.le_of_ble_eq_true hb
      omega
    | false => simp

theorem SR.weaken {h0 : FM} {m0 : BM} {L : List (Nat × D)} {Hs : List (Nat × AObj)} (hs : SR N w0 W h0 m0 n0 e n H a w) (hle : LeA n0 e n H L n' Hs) : SR N w0 W h0 m0 n0 (envL L) n' (hpL Hs) a w := by
  obtain ⟨h, m, hl, hnew, hm, hn, r, re, hsz, hd⟩ := hs
  obtain ⟨ρ, hb, h1, h2⟩ := hle
  simp only [pairB, Bool.and_eq_true] at hb
  obtain ⟨⟨⟨b1, b2⟩, b3⟩, b4⟩ := hb
  have b1 := Nat.le_of_ble_eq_true b1
  rw [List.all_eq_true] at b2 b3 b4
  have hlow : ∀ i, i < n0 → renN ρ n0 n i = i := fun i hi => renN_low (n' := n') b2 hi
  have hhigh : ∀ i, n' ≤ i → n ≤ renN ρ n0 n i := fun i hi => renN_high b2 b1 hi
  have hin : ∀ id O, hpL Hs id = some O → id < n' := by
    intro id O hO
    have := b3 id (objs_get h2 id O hO).2
    simp only [Bool.and_eq_true] at this
    exact Nat.le_of_ble_eq_true this.1
  have hfar : ∀ id, n ≤ id → m id = none := fun id hid => (r.rh.far id hid).1
  refine ⟨h, fun id => m (renN ρ n0 n id), hl, hnew, fun id hid => ?_, b1, ⟨⟨r.rh.froz, fun id hid => ?_, fun id O hO => ?_, fun id id' O O' b N N' hO hO' hm1 hm2 => ?_⟩, r.fr, fun id O b N hO hm1 => ?_⟩, ⟨re.gl, fun t => ?_⟩, hsz, hd⟩
  · show m (renN ρ n0 n id) = m0 id
    rw [hlow id hid]; exact hm id hid
  · refine ⟨hfar _ (hhigh id hid), ?_⟩
    cases hq : hpL Hs id with
    | none => rfl
    | some O => have := hin id O hq; omega
  · obtain ⟨⟨O', hO', he⟩, _⟩ := objs_get h2 id O hO
    obtain ⟨u1, u2, u3, u4, u5⟩ := unrenO he
    rcases r.rh.obj _ O' hO' with ⟨h3, h4⟩ | ⟨b, xs, h3, h4, h5, h6, h7, h8⟩
    · refine .inl ⟨h3, ?_⟩
      rw [h4] at u3
      exact List.eq_nil_of_length_eq_zero (by simpa using u3.symm)
    · refine .inr ⟨b, xs, h3, by rw [← u1]; exact h4, by rw [← u2, ← u3]; exact h5, u4 h6, u5 xs h m h7, h8⟩
  · obtain ⟨⟨O1, hO1, _⟩, i1⟩ := objs_get h2 id O hO
    obtain ⟨⟨O2, hO2, _⟩, i2⟩ := objs_get h2 id' O' hO'
    have := r.rh.inj _ _ O1 O2 b N N' hO1 hO2 hm1 hm2
    have h3 := b4 id i1
    rw [List.all_eq_true] at h3
    have h4 := h3 id' i2
    rw [this] at h4
    simp only [Nat.beq_refl, Bool.not_true, Bool.or_false] at h4
    exact Nat.eq_of_beq_eq_true h4
  · obtain ⟨⟨O', hO', _⟩, _⟩ := objs_get h2 id O hO
    exact r.wb _ O' b N hO' hm1
  · rcases slots_get h1 t with h3 | h3
    · rw [h3]; exact .any _
    · have := re.sl t
      rw [h3] at this
      exact RD.unren _ _ this

/-- a great region, from a state of which only this is known -/
theorem cut_rule (hT : TabOk P T) (hmix : P.follows .mixedOrders = true) (L : List (Nat × D)) (n' : Nat) (Hs : List (Nat × AObj)) {id : Nat} {ops : Array Oper} {dr : Bool} (hc : chkC (.region id ops dr) = true) {Q : Exit → Env → Nat → Hp → Prop}
    (hle : LeA n0 e n H L n' Hs) (hk : forceN (n' + ops.size) fun m => opsA P T N n' dr ops 0 ops.toList (envL L) m (hpL Hs) (Q .normal)) : CutA P N n0 (.region id ops dr) Q e n H :=
  ⟨fun w0 W h0 m0 a w hs => region_aw hT hmix hc hk w0 W h0 m0 a w (hs.weaken hle)⟩

/-- a loop, by a family of states -/
theorem loop_rule (hT : TabOk P T) (hmix : P.follows .mixedOrders = true) {ι : Type} (L : ι → List (Nat × D)) (n' : Nat) (Hs : ι → List (Nat × AObj)) (μ : ι → Nat) {c : Code} (hc : chkC c = true) {Q : Exit → Env → Nat → Hp → Prop}
    (round : ∀ i, exA P T N n0 c (thenQ (fun e n H => ∃ j, μ j < μ i ∧ LeA n0 e n H (L j) n' (Hs j)) Q) (envL (L i)) n' (hpL (Hs i))) (i0 : ι) (h0 : LeA n0 e n H (L i0) n' (Hs i0)) : LoopA P N n0 c Q e n H := by
  refine ⟨?_⟩
  intro w0 W hh m0 a w hs
  have hs' := hs.weaken h0
  have key : ∀ k i a w, μ i = k → SR N w0 W hh m0 n0 (envL (L i)) n' (hpL (Hs i)) a w → (Code.loop c).wp P (fun x a' w' => ∃ e' n' H', Q x e' n' H' ∧ SR N w0 W hh m0 n0 e' n' H' a' w') a w := by
    intro k i a w hk hs
    refine wp_loop_fam (I := fun i a w => SR N w0 W hh m0 n0 (envL (L i)) n' (hpL (Hs i)) a w) μ i hs ?_
    intro i a w hs
    refine wp_mono (exA_sound hT hmix c hc (round i) w0 W hh m0 a w hs) ?_
    rintro ex a' w' ⟨e', n2, H', hq, hs'⟩
    cases ex with
    | normal =>
      obtain ⟨j, hj, hle⟩ := hq
      exact ⟨j, hj, hs'.weaken hle⟩
    | _ => exact ⟨e', n2, H', hq, hs'⟩
  exact key _ i0 a w rfl hs'

end
end Bk
