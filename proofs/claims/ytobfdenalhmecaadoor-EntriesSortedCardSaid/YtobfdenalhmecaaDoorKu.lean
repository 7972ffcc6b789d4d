/- A region that draws its order: one walk of the text's order serves. -/
import Derived.Test.YtobfdenalhmecaaDoorKt
set_option linter.unusedSimpArgs false
set_option linter.unusedSectionVars false
set_option linter.unusedVariables false
namespace Bk
open Go
variable [Gh]

def storeB : Op → Bool
  | .store _ _ _ => true
  | _ => false
def loadB : Op → Bool
  | .load _ _ => true
  | .convert _ _ _ => true
  | _ => false
def strictB (o : Op) : Bool := barB o && !storeB o

/-- whatever order these two come in -/
def commB (ops : Array Oper) (x y : Oper) : Bool :=
  x.apart ops y && match barB x.op, barB y.op with
  | false, false => true
  | true, false => storeB x.op && !loadB y.op
  | false, true => storeB y.op && !loadB x.op
  | true, true => false

def forceNB (n : Nat) (K : Nat → Bool) : Bool :=
  match n with
  | 0 => K 0
  | k + 1 => K (k + 1)
def forceLB : List Nat → (List Nat → Bool) → Bool
  | [], K => K []
  | a :: l, K => forceNB a fun a => forceLB l fun l => K (a :: l)
theorem forceNB_eq (n : Nat) (K : Nat → Bool) : forceNB n K = K n := by cases n <;> rfl
theorem forceLB_eq : ∀ (l : List Nat) (K : List Nat → Bool), forceLB l K = K l
  | [], _ => rfl
  | a :: l, K => by rw [forceLB, forceNB_eq, forceLB_eq l]

/-- what must have come before the operation j, as the bits of a number: directly or not -/
def pathN (ops : Array Oper) (K : List Nat → Bool) : List Oper → List Nat → Bool
  | [], acc => K acc
  | o :: l, acc => forceNB (o.after.toList.foldl (fun m e => match Region.binds .any e with | true => m ||| (1 <<< e.on) ||| acc.getD e.on 0 | false => m) 0) fun m => forceLB (acc ++ [m]) fun acc => pathN ops K l acc
theorem pathN_spec {ops : Array Oper} {K : List Nat → Bool} : ∀ {l : List Oper} {acc : List Nat}, pathN ops K l acc = true → ∃ M, K M = true
  | [], acc, h => ⟨acc, h⟩
  | o :: l, acc, h => by
    simp only [pathN, forceNB_eq, forceLB_eq] at h
    exact pathN_spec h
/-- the certificate is sound -/
def pathB (ops : Array Oper) (M : List Nat) : Bool :=
  (List.range ops.size).all fun j => match ops[j]? with
    | none => true
    | some o => (List.range ops.size).all fun i => !(M.getD j 0).testBit i || o.after.any fun e => Region.binds .any e && decide (e.on < j) && (e.on == i || (M.getD e.on 0).testBit i)

def freeB (ops : Array Oper) (M : List Nat) (listed : Array Bool) (i : Nat) : Bool :=
  match ops[i]? with
  | none => false
  | some oi => (List.range ops.size).all fun j => j == i || listed.getD j true || match ops[j]? with
      | some oj => (M.getD j 0).testBit i || (!strictB oi.op && commB ops oi oj)
      | none => true

def lexFromB (ops : Array Oper) (M : List Nat) : Nat → Nat → Array Bool → Bool
  | 0, _, listed => (Region.ready .any ops listed).isEmpty
  | fuel + 1, k, listed => (Region.ready .any ops listed).contains k && freeB ops M listed k && lexFromB ops M fuel (k + 1) (listed.setIfInBounds k true)

def drawB (ops : Array Oper) : Bool :=
  pathN ops (fun M => pathB ops M && lexFromB ops M ops.size 0 (Array.replicate ops.size false)) ops.toList []
theorem drawB_spec {ops : Array Oper} (h : drawB ops = true) : ∃ M, pathB ops M = true ∧ lexFromB ops M ops.size 0 (Array.replicate ops.size false) = true := by
  obtain ⟨M, h⟩ := pathN_spec h
  exact ⟨M, by simpa using h⟩

section
variable {P : Program} {T : Tab} {N nb : Nat} {ops : Array Oper} {M : List Nat}

def DC (ops : Array Oper) (listed : Array Bool) : Prop := ∀ (j : Nat) o, ops[j]? = some o → listed.getD j true = true → ∀ e ∈ o.after, Region.binds .any e = true → listed.getD e.on false = true

theorem DC.step {listed : Array Bool} {i : Nat} (hd : DC ops listed) (hr : i ∈ Region.ready .any ops listed) : DC ops (listed.setIfInBounds i true) := by
  intro j o ho hl e he hb
  by_cases hji : i = j
  · subst hji
    obtain ⟨_, o', ho', hall⟩ := mem_ready.1 hr
    rw [ho] at ho'; cases ho'
    exact getD_set_true (hall e he hb)
  · rw [getD_set_ne true hji] at hl
    exact getD_set_true (hd j o ho hl e he hb)

theorem pathB_spec (hp : pathB ops M = true) {j i : Nat} {o : Oper} (ho : ops[j]? = some o) (hi : i < ops.size) (hM : (M.getD j 0).testBit i = true) :
    ∃ e ∈ o.after, Region.binds .any e = true ∧ e.on < j ∧ (e.on = i ∨ (M.getD e.on 0).testBit i = true) := by
  unfold pathB at hp
  rw [List.all_eq_true] at hp
  have h1 := hp j (List.mem_range.2 (Array.getElem?_eq_some_iff.1 ho).1)
  rw [ho] at h1
  rw [List.all_eq_true] at h1
  have h2 := h1 i (List.mem_range.2 hi)
  rw [hM] at h2
  simp only [Bool.not_true, Bool.false_or] at h2
  obtain ⟨e, he, h3⟩ := Array.any_eq_true'.1 h2
  simp only [Bool.and_eq_true, decide_eq_true_eq, Bool.or_eq_true, beq_iff_eq] at h3
  exact ⟨e, he, h3.1.1, h3.1.2, h3.2⟩

/-- what must wait is not ready -/
theorem not_ready (hp : pathB ops M = true) {listed : Array Bool} (hd : DC ops listed) {i : Nat} (hi : i < ops.size) (hu : listed.getD i false = false) : ∀ (j : Nat) (o : Oper), ops[j]? = some o → (M.getD j 0).testBit i = true →
    ∃ e ∈ o.after, Region.binds .any e = true ∧ listed.getD e.on false = false := by
  intro j
  induction j using Nat.strongRecOn with
  | _ j ih =>
    intro o ho hM
    obtain ⟨e, he, hb, hlt, h1⟩ := pathB_spec hp ho hi hM
    rcases h1 with h1 | h1
    · exact ⟨e, he, hb, by rw [h1]; exact hu⟩
    · have hex : ∃ o', ops[e.on]? = some o' := ⟨ops[e.on]'(by have := (Array.getElem?_eq_some_iff.1 ho).1; omega), Array.getElem?_eq_getElem _⟩
      obtain ⟨o', ho'⟩ := hex
      obtain ⟨e', he', hb', hl'⟩ := ih e.on hlt o' ho' h1
      refine ⟨e, he, hb, ?_⟩
      cases hq : listed.getD e.on false with
      | false => rfl
      | true =>
        have h3 : listed.getD e.on true = true := by
          rcases Nat.lt_or_ge e.on listed.size with h' | h'
          · simp [h'] at hq ⊢; exact hq
          · simp [Array.getElem?_eq_none h']
        have := hd e.on o' ho' h3 e' he' hb'
        rw [hl'] at this; cases this

/-! ### One operation -/
def wantA (ops : Array Oper) (o : Oper) (e : Env) (g : Bool) : Prop :=
  match o.guard with
  | none => g = true
  | some (j, b) => guardA ops j b e fun g' => g' = g

theorem guardA_det {ops : Array Oper} {j : Nat} {b : Bool} {e : Env} {K : Bool → Prop} (hk : guardA ops j b e K) : ∃ g, (guardA ops j b e fun g' => g' = g) ∧ K g := by
  unfold guardA at hk ⊢
  split at hk
  · split at hk
    · split at hk
      · cases b <;> exact ⟨_, rfl, hk⟩
      · exact ⟨_, rfl, hk⟩
      · exact hk.elim
    · exact hk.elim
  · exact hk.elim
theorem guardA_use {ops : Array Oper} {j : Nat} {b : Bool} {e : Env} {K : Bool → Prop} {g : Bool} (hg : guardA ops j b e fun g' => g' = g) (hk : K g) : guardA ops j b e K := by
  unfold guardA at hg ⊢
  split at hg
  · split at hg
    · split at hg
      · cases b <;> (simp only at hg ⊢; rw [hg]; exact hk)
      · rw [hg]; exact hk
      · exact hg.elim
    · exact hg.elim
  · exact hg.elim

def stepA (P : Program) (T : Tab) (N nb : Nat) (ops : Array Oper) (i : Nat) (o : Oper) (e : Env) (n : Nat) (H : Hp) (K : Env → Nat → Hp → Prop) : Prop :=
  dstB N o.dst = true ∧ ∃ g, wantA ops o e g ∧ (g = true → opK P T true o.op e n H (nb + i) fun d n' H' => K (put e o.dst d) n' H') ∧ (g = false → K (put e o.dst (.v (.tuple #[]))) n H)

theorem stepA_of {i : Nat} {o : Oper} {rest : List Oper} {e : Env} {n : Nat} {H : Hp} {K : Env → Nat → Hp → Prop} (hk : opsA P T N nb true ops i (o :: rest) e n H K) :
    stepA P T N nb ops i o e n H fun e n H => opsA P T N nb true ops (i + 1) rest e n H K := by
  simp only [opsA, forceD_eq, forceN_eq, putK_eq] at hk
  split at hk
  · exact hk.elim
  rename_i hd
  refine ⟨hd, ?_⟩
  unfold wantA
  split at hk
  · rename_i hg
    simp only [hg]
    exact ⟨true, rfl, fun _ => hk, fun h => by cases h⟩
  · rename_i j b hg
    simp only [hg]
    obtain ⟨g, h1, h2⟩ := guardA_det hk
    refine ⟨g, h1, fun h => ?_, fun h => ?_⟩
    · subst h; exact h2
    · subst h; exact h2

/-- it yields this, and turns the objects to these -/
def Y (P : Program) (T : Tab) (N nb : Nat) (ops : Array Oper) (i : Nat) (o : Oper) (d : D) (H' : Hp) (e : Env) (n : Nat) (H : Hp) : Prop :=
  dstB N o.dst = true ∧ ∃ g, wantA ops o e g ∧ (g = true → match storeB o.op with
    | true => opA T (CallA P) o.op e n H (nb + i) fun d' n' h' => d' = d ∧ n' = n ∧ h' = H'
    | false => opN P T o.op e n H (· = d) ∧ H' = H) ∧ (g = false → d = .v (.tuple #[]) ∧ H' = H)

theorem storeA_det {t : Nat} {p x : D} {H : Hp} {K : Hp → Prop} (hk : storeA T t p x H K) : ∃ H', storeA T t p x H (· = H') ∧ K H' := by
  unfold storeA at hk ⊢
  split at hk
  · exact hk.elim
  rename_i i hi
  (try simp only [hi])
  split at hk
  · rename_i h1 h2
    (try simp only [h1, h2])
    split at hk
    · rename_i id j
      split at hk
      · rename_i h3
        (try simp only [h3])
        split at hk
        · rename_i h4
          (try simp only [h4])
          rw [forceL_eq] at hk
          exact ⟨_, by rw [forceL_eq], hk⟩
        · exact hk.elim
      · exact hk.elim
    · obtain ⟨O, c, h3, h4, h5, h6, h7⟩ := hk
      exact ⟨_, ⟨O, c, h3, h4, h5, h6, rfl⟩, h7⟩
    · exact hk.elim
  · exact hk.elim
theorem storeA_use {t : Nat} {p x : D} {H H' : Hp} {K : Hp → Prop} (hs : storeA T t p x H (· = H')) (hk : K H') : storeA T t p x H K := by
  obtain ⟨H2, h1, h2⟩ := storeA_det (K := fun h => h = H') hs
  unfold storeA at hs ⊢
  split at hs
  · exact hs.elim
  rename_i i hi
  (try simp only [hi])
  split at hs
  · rename_i h1 h2
    (try simp only [h1, h2])
    split at hs
    · rename_i id j
      split at hs
      · rename_i h3
        (try simp only [h3])
        split at hs
        · rename_i h4
          (try simp only [h4])
          rw [forceL_eq] at hs ⊢
          rw [hs]; exact hk
        · exact hs.elim
      · exact hs.elim
    · obtain ⟨O, c, h3, h4, h5, h6, h7⟩ := hs
      exact ⟨O, c, h3, h4, h5, h6, by rw [h7]; exact hk⟩
    · exact hs.elim
  · exact hs.elim

theorem Y_of_step {i : Nat} {o : Oper} {e : Env} {n : Nat} {H : Hp} {K : Env → Nat → Hp → Prop} (hs : strictB o.op = false) (hk : stepA P T N nb ops i o e n H K) : ∃ d H', Y P T N nb ops i o d H' e n H ∧ K (put e o.dst d) n H' := by
  obtain ⟨hd, g, hg, h1, h2⟩ := hk
  cases g with
  | false => exact ⟨_, H, ⟨hd, false, hg, (fun h => by cases h), fun _ => ⟨rfl, rfl⟩⟩, h2 rfl⟩
  | true =>
    have h1 := h1 rfl
    unfold opK at h1
    simp only at h1
    cases hst : storeB o.op with
    | true =>
      have hb : barB o.op = true := by
        cases hop : o.op <;> rw [hop] at hst <;> first | rfl | cases hst
      rw [hb] at h1
      cases hop : o.op with
      | store t x y =>
        rw [hop] at h1
        obtain ⟨H', h3, h4⟩ := storeA_det (K := fun H' => K (put e o.dst .any) n H') h1
        refine ⟨.any, H', ⟨hd, true, hg, fun _ => ?_, (fun h => by cases h)⟩, h4⟩
        rw [hst]; simp only; rw [hop]
        exact storeA_use (K := fun h' => D.any = .any ∧ n = n ∧ h' = H') h3 ⟨rfl, rfl, rfl⟩
      | _ => rw [hop] at hst; cases hst
    | false =>
      have hb : barB o.op = false := by
        unfold strictB at hs; rw [hst] at hs; simpa using hs
      rw [hb] at h1
      obtain ⟨d, h3, h4⟩ := opN_det (K := fun d => K (put e o.dst d) n H) h1
      exact ⟨d, H, ⟨hd, true, hg, (fun _ => by rw [hst]; exact ⟨h3, rfl⟩), (fun h => by cases h)⟩, h4⟩

end
end Bk
