/- A region that draws its order: one walk of the text's order serves, continued. -/
import Derived.Test.YtobfdenalhmecaaDoorKu
set_option linter.unusedSimpArgs false
set_option linter.unusedSectionVars false
set_option linter.unusedVariables false
namespace Bk
open Go
variable [Gh]

section
variable {P : Program} {T : Tab} {N nb : Nat} {ops : Array Oper} {M : List Nat}

theorem srcA_mono {x : D} {k : Nat} {H : Hp} {K K' : List (List D) → Prop} (h : ∀ l, K l → K' l) (hk : srcA x k H K) : srcA x k H K' := by
  unfold srcA at hk ⊢
  split at hk
  · rename_i l es
    by_cases hl : l = k
    · simp only [hl, decide_true] at hk ⊢; exact h _ hk
    · simp [hl] at hk
  · rename_i l es
    by_cases hl : l = k
    · simp only [hl, decide_true] at hk ⊢; exact h _ hk
    · simp [hl] at hk
  · exact h _ hk
  · obtain ⟨O, h1, h2, h3, h4, h5⟩ := hk
    exact ⟨O, h1, h2, h3, h4, h _ h5⟩
  · exact hk.elim
theorem natOf_mono {x : D} {K K' : Nat → Prop} (h : ∀ l, K l → K' l) (hk : natOf x K) : natOf x K' := by
  unfold natOf at hk ⊢
  split at hk
  · obtain ⟨i, h1, h2⟩ := hk; exact ⟨i, h1, h _ h2⟩
  · exact hk.elim

theorem strict_mono {o : Op} (ho : strictB o = true) {e : Env} {n : Nat} {H : Hp} {id : Nat} {K K' : D → Nat → Hp → Prop} (h : ∀ d n H, K d n H → K' d n H) (hk : opA T (CallA P) o e n H id K) : opA T (CallA P) o e n H id K' := by
  cases o with
  | alloc t =>
    simp only [opA] at hk ⊢
    split at hk
    · rename_i hi; (try simp only [hi])
      split at hk
      · rename_i h1; (try simp only [h1]); exact h _ _ _ hk
      · exact hk.elim
    · exact hk.elim
  | box t x =>
    simp only [opA] at hk ⊢
    split at hk
    · rename_i hi; (try simp only [hi])
      split at hk
      · rename_i h1 h2; (try simp only [h1, h2]); rw [forceL_eq] at hk ⊢; exact h _ _ _ hk
      · exact hk.elim
    · exact hk.elim
  | makeSlice t l c =>
    simp only [opA] at hk ⊢
    split at hk
    · rename_i hi; (try simp only [hi])
      split at hk
      · rename_i hj; (try simp only [hj])
        split at hk
        · rename_i h1; (try simp only [h1])
          exact natOf_mono (fun _ hk => natOf_mono (fun _ ⟨h1, h2, h3, h4⟩ => ⟨h1, h2, h3, h _ _ _ h4⟩) hk) hk
        · exact hk.elim
      · exact hk.elim
    · exact hk.elim
  | call cl =>
    obtain ⟨cal, args, ats⟩ := cl
    cases cal with
    | value f =>
      simp only [opA] at hk ⊢
      split at hk
      · rename_i hf; (try simp only [hf]); exact CallA.mono hk h
      · exact hk.elim
    | invoke => cases ho
    | builtin b =>
      cases b with
      | append =>
        simp only [opA] at hk ⊢
        split at hk
        · rename_i h1 h2; (try simp only [h1, h2])
          split at hk
          rotate_left
          · rename_i h3; (try simp only [h3])
            unfold appendS at hk ⊢
            split at hk
            · rename_i hi hi2; (try simp only [hi, hi2])
              split at hk
              · rename_i hj; (try simp only [hj])
                split at hk
                · split at hk
                  · exact ⟨hk.1, h _ _ _ hk.2⟩
                  · obtain ⟨O, h1, h2, h3, h4, h5, h6, h7, h8, h9⟩ := hk
                    exact ⟨O, h1, h2, h3, h4, h5, h6, h7, h8, h _ _ _ h9⟩
                  · exact hk.elim
                · exact hk.elim
              · exact hk.elim
            · exact hk.elim
          · rename_i h3; (try simp only [h3])
            unfold appendA at hk ⊢
            split at hk
            · rename_i hi; (try simp only [hi])
              split at hk
              · exact hk.elim
              · rename_i hj; (try simp only [hj])
                split at hk
                · exact srcA_mono (fun _ ⟨h1, h2, h3⟩ => ⟨h1, h2, h _ _ _ h3⟩) hk
                · exact srcA_mono (fun _ ⟨h1, h2, h3, h4, h5⟩ => ⟨h1, h2, h3, h4, h _ _ _ h5⟩) hk
                · exact srcA_mono (fun _ ⟨O, h1, h2, h3, h4, h5, h6, h7, h8, h9, h10⟩ => ⟨O, h1, h2, h3, h4, h5, h6, h7, h8, h9, h _ _ _ h10⟩) hk
                · exact hk.elim
            · exact hk.elim
        · exact hk.elim
      | copy =>
        simp only [opA] at hk ⊢
        split at hk
        · rename_i h1 h2; (try simp only [h1, h2])
          unfold copyA at hk ⊢
          split at hk
          · rename_i hi; (try simp only [hi])
            split at hk
            · exact hk.elim
            · rename_i hj; (try simp only [hj])
              split at hk
              · exact srcA_mono (fun _ ⟨O, h1, h2, h3, h4, h5⟩ => ⟨O, h1, h2, h3, h4, h _ _ _ h5⟩) hk
              · exact srcA_mono (fun _ h1 => h _ _ _ h1) hk
              · exact hk.elim
          · exact hk.elim
        · exact hk.elim
      | _ => cases ho
  | _ => cases ho

theorem stepA_mono {i : Nat} {o : Oper} (ho : strictB o.op = true) {e : Env} {n : Nat} {H : Hp} {K K' : Env → Nat → Hp → Prop} (h : ∀ e n H, K e n H → K' e n H) (hk : stepA P T N nb ops i o e n H K) : stepA P T N nb ops i o e n H K' := by
  obtain ⟨hd, g, hg, h1, h2⟩ := hk
  refine ⟨hd, g, hg, fun hg => ?_, fun hg => h _ _ _ (h2 hg)⟩
  have h1 := h1 hg
  have hb : barB o.op = true := by unfold strictB at ho; simp at ho; exact ho.1
  unfold opK at h1 ⊢
  simp only [hb] at h1 ⊢
  exact strict_mono ho (fun _ _ _ => h _ _ _) h1

def stepX (P : Program) (T : Tab) (N nb : Nat) (ops : Array Oper) (i : Nat) (o : Oper) (e : Env) (n : Nat) (H : Hp) (K : Env → Nat → Hp → Prop) : Prop :=
  match strictB o.op with
  | false => ∃ d H', Y P T N nb ops i o d H' e n H ∧ K (put e o.dst d) n H'
  | true => stepA P T N nb ops i o e n H K

def anyA (P : Program) (T : Tab) (N nb : Nat) (ops : Array Oper) (K : Env → Nat → Hp → Prop) : Nat → Array Bool → Env → Nat → Hp → Prop
  | 0, listed, e, n, H => Region.ready .any ops listed = [] ∧ K e n H
  | fuel + 1, listed, e, n, H => (Region.ready .any ops listed = [] → K e n H) ∧
      ∀ i ∈ Region.ready .any ops listed, ∀ o, ops[i]? = some o → stepX P T N nb ops i o e n H (anyA P T N nb ops K fuel (listed.setIfInBounds i true))

/-! ### Two that may come in either order -/
theorem put_comm (e : Env) {x y : Option Nat} (d d' : D) (h : ∀ t, x = some t → y ≠ some t) : put (put e x d) y d' = put (put e y d') x d := by
  cases x with
  | none => rfl
  | some t =>
    cases y with
    | none => rfl
    | some s =>
      have hne : s ≠ t := fun he => h t rfl (by rw [he])
      funext j
      show upd (upd e t d) s d' j = upd (upd e s d') t d j
      by_cases h1 : j = s
      · subst h1; rw [upd_same, upd_ne _ _ hne, upd_same]
      · by_cases h2 : j = t
        · subst h2; rw [upd_ne _ _ h1, upd_same, upd_same]
        · rw [upd_ne _ _ h1, upd_ne _ _ h2, upd_ne _ _ h2, upd_ne _ _ h1]

theorem ev_put {e : Env} {t : Option Nat} {d : D} {x : Operand} (h : ∀ s, t = some s → x ≠ .tmp s) : ev (put e t d) x = ev e x := by
  cases t with
  | none => rfl
  | some s =>
    cases x with
    | tmp j => exact upd_ne _ _ (fun he => h s rfl (by rw [he]))
    | _ => rfl

theorem wantA_put {o : Oper} {e : Env} {t : Option Nat} {d : D} (h : ∀ s, t = some s → s ∉ o.looksAt ops) (g : Bool) : wantA ops o (put e t d) g = wantA ops o e g := by
  unfold wantA
  split
  · rfl
  · rename_i j b hg
    unfold guardA
    split
    · rename_i o' ho'
      split
      · rename_i s hs
        have : put e t d s = e s := by
          cases t with
          | none => rfl
          | some q =>
            refine upd_ne _ _ (fun he => ?_)
            refine h q rfl ?_
            unfold Oper.looksAt
            simp only [hg, ho', Option.bind_some, hs, List.mem_append]
            exact .inr (by subst he; simp)
        rw [this]
      · rfl
    · rfl

theorem Y_put {i : Nat} {o : Oper} {d : D} {H' : Hp} {e : Env} {n : Nat} {H : Hp} {t : Option Nat} {d' : D} (h : ∀ s, t = some s → s ∉ o.looksAt ops) : Y P T N nb ops i o d H' (put e t d') n H = Y P T N nb ops i o d H' e n H := by
  have hev : ∀ x ∈ o.op.operands, ev (put e t d') x = ev e x := by
    intro x hx
    refine ev_put fun s hs he => ?_
    refine h s hs ?_
    unfold Oper.looksAt
    rw [List.mem_append]
    refine .inl (List.mem_filterMap.2 ⟨x, by simpa using hx, by rw [he]⟩)
  unfold Y
  simp only [wantA_put h]
  cases hst : storeB o.op with
  | false => simp only [opN_congr hev]
  | true =>
    cases hop : o.op with
    | store tt x y =>
      rw [hop] at hev
      simp only [opA, hev x (by simp [Op.operands]), hev y (by simp [Op.operands])]
    | _ => rw [hop] at hst; cases hst

/-- it does not look at the objects -/
theorem opN_blind {o : Op} (ho : loadB o = false) {e : Env} {n : Nat} {H H2 : Hp} {K : D → Prop} : opN P T o e n H K = opN P T o e n H2 K := by
  cases o with
  | load t x => cases ho
  | convert _ _ _ => cases ho
  | call cl =>
    obtain ⟨cal, args, ats⟩ := cl
    cases cal with
    | value f => rfl
    | invoke => rfl
    | builtin b => cases b <;> rfl
  | _ => rfl

theorem Y_blind {i : Nat} {o : Oper} {d : D} {e : Env} {n : Nat} {H H' H2 : Hp} (ho : loadB o.op = false) (hs : storeB o.op = false) (hy : Y P T N nb ops i o d H' e n H) : H' = H ∧ Y P T N nb ops i o d H2 e n H2 := by
  obtain ⟨hd, g, hg, h1, h2⟩ := hy
  rw [hs] at h1
  simp only at h1
  have e1 : H' = H := by
    cases g with
    | true => exact (h1 rfl).2
    | false => exact (h2 rfl).2
  refine ⟨e1, hd, g, hg, fun hg => ?_, fun hg => ⟨(h2 hg).1, rfl⟩⟩
  rw [hs]
  exact ⟨by rw [← opN_blind ho (H := H)]; exact (h1 hg).1, rfl⟩

theorem Y_read {i : Nat} {o : Oper} {d : D} {e : Env} {n : Nat} {H H' : Hp} (hs : storeB o.op = false) (hy : Y P T N nb ops i o d H' e n H) : H' = H := by
  obtain ⟨hd, g, hg, h1, h2⟩ := hy
  rw [hs] at h1
  cases g with
  | true => exact (h1 rfl).2
  | false => exact (h2 rfl).2

theorem storeB_bar {o : Op} (h : barB o = false) : storeB o = false := by
  cases o <;> first | rfl | cases h
theorem storeB_load {o : Op} (h : storeB o = true) : loadB o = false := by
  cases o <;> first | rfl | cases h

theorem Y_swap {i j : Nat} {oi oj : Oper} {di dj : D} {e : Env} {n : Nat} {H Hi Hj : Hp} (hc : commB ops oi oj = true) (hi : Y P T N nb ops i oi di Hi e n H) (hj : Y P T N nb ops j oj dj Hj (put e oi.dst di) n Hi) :
    ∃ Hj', Y P T N nb ops j oj dj Hj' e n H ∧ Y P T N nb ops i oi di Hj (put e oj.dst dj) n Hj' := by
  unfold commB at hc
  rw [Bool.and_eq_true] at hc
  obtain ⟨hap, hc⟩ := hc
  obtain ⟨h1, h2, h3⟩ := Oper.apart_spec hap
  rw [Y_put (fun s hs => h1 s hs)] at hj
  suffices hx : ∃ Hj', Y P T N nb ops j oj dj Hj' e n H ∧ Y P T N nb ops i oi di Hj e n Hj' by
    obtain ⟨Hj', q1, q2⟩ := hx
    exact ⟨Hj', q1, by rw [Y_put (fun s hs => h3 s hs)]; exact q2⟩
  split at hc
  · rename_i b1 b2
    have e1 := Y_read (storeB_bar b1) hi
    subst e1
    have e2 := Y_read (storeB_bar b2) hj
    subst e2
    exact ⟨_, hj, hi⟩
  · rename_i b1 b2
    rw [Bool.and_eq_true] at hc
    have hl : loadB oj.op = false := by simpa using hc.2
    obtain ⟨e1, h4⟩ := Y_blind (H2 := H) hl (storeB_bar b2) hj
    subst e1
    exact ⟨H, h4, hi⟩
  · rename_i b1 b2
    rw [Bool.and_eq_true] at hc
    have hl : loadB oi.op = false := by simpa using hc.2
    obtain ⟨e1, h4⟩ := Y_blind (H2 := Hj) hl (storeB_bar b1) hi
    subst e1
    exact ⟨Hj, hj, h4⟩
  · cases hc

theorem commB_strict {x y : Oper} (h : commB ops x y = true) : strictB y.op = false := by
  unfold commB at h
  rw [Bool.and_eq_true] at h
  unfold strictB
  cases hb : barB y.op with
  | false => rfl
  | true =>
    have h := h.2
    rw [hb] at h
    cases hb1 : barB x.op with
    | true => rw [hb1] at h; cases h
    | false => rw [hb1] at h; simp only [Bool.and_eq_true] at h; simp [h.1]

theorem anyA_first (hp : pathB ops M = true) {K : Env → Nat → Hp → Prop} {i : Nat} {oi : Oper} {di : D} (hi : ops[i]? = some oi) (hsi : strictB oi.op = false) :
    ∀ (fuel : Nat) (listed : Array Bool) (e : Env) (n : Nat) (H Hi : Hp), DC ops listed →
      (∀ j oj, ops[j]? = some oj → j ≠ i → listed.getD j true = false → (M.getD j 0).testBit i = false → commB ops oi oj = true) →
      i ∈ Region.ready .any ops listed → Y P T N nb ops i oi di Hi e n H →
      anyA P T N nb ops K fuel (listed.setIfInBounds i true) (put e oi.dst di) n Hi → anyA P T N nb ops K (fuel + 1) listed e n H := by
  have own : ∀ {e n H Hi} {K' : Env → Nat → Hp → Prop} {o}, ops[i]? = some o → Y P T N nb ops i oi di Hi e n H → K' (put e oi.dst di) n Hi → stepX P T N nb ops i o e n H K' := by
    intro e n H Hi K' o ho hy hk
    rw [hi] at ho; cases ho
    unfold stepX; rw [hsi]
    exact ⟨di, Hi, hy, hk⟩
  intro fuel
  induction fuel with
  | zero =>
    intro listed e n H Hi _ _ hr hy hk
    refine ⟨fun h => (by rw [h] at hr; cases hr), fun j hj o ho => ?_⟩
    by_cases hji : j = i
    · subst hji; exact own ho hy hk
    · have := ready_mono hj hji
      rw [hk.1] at this
      cases this
  | succ fuel ih =>
    intro listed e n H Hi hd hfree hr hy hk
    refine ⟨fun h => (by rw [h] at hr; cases hr), fun j hj oj hoj => ?_⟩
    by_cases hji : j = i
    · subst hji; exact own hoj hy hk
    · have h1 := hk.2 j (ready_mono hj hji) oj hoj
      obtain ⟨hjun, oj', hoj', hall⟩ := mem_ready.1 hj
      rw [hoj] at hoj'; cases hoj'
      have hiun : listed.getD i false = false := by
        have h0 := (mem_ready.1 hr).1
        rcases Nat.lt_or_ge i listed.size with h' | h'
        · simp [h'] at h0 ⊢; exact h0
        · simp [Array.getElem?_eq_none h']
      have hnot : (M.getD j 0).testBit i = false := by
        cases hq : (M.getD j 0).testBit i with
        | false => rfl
        | true =>
          obtain ⟨e', he', hb', hl'⟩ := not_ready hp hd (Array.getElem?_eq_some_iff.1 hi).1 hiun j oj hoj hq
          have := hall e' he' hb'
          rw [hl'] at this; cases this
      have hc := hfree j oj hoj hji hjun hnot
      have hsj := commB_strict hc
      unfold stepX at h1 ⊢
      rw [hsj] at h1 ⊢
      obtain ⟨dj, Hj, hyj, hkj⟩ := h1
      obtain ⟨Hj', h2, h3⟩ := Y_swap hc hy hyj
      refine ⟨dj, Hj', h2, ?_⟩
      have hfree' : ∀ k ok, ops[k]? = some ok → k ≠ i → (listed.setIfInBounds j true).getD k true = false →
          (M.getD k 0).testBit i = false → commB ops oi ok = true := fun k ok hk hki hun hno => by
        refine hfree k ok hk hki ?_ hno
        by_cases hjk : j = k
        · subst hjk; exact hjun
        · rw [getD_set_ne true hjk] at hun; exact hun
      refine ih (listed.setIfInBounds j true) _ n Hj' Hj (hd.step hj) hfree' (ready_mono hr (Ne.symm hji)) h3 ?_
      rw [Array.setIfInBounds_comm _ _ hji]
      have hap := (Bool.and_eq_true .. ▸ (show (oi.apart ops oj && _) = true from hc)).1
      obtain ⟨_, hdd, _⟩ := Oper.apart_spec hap
      rw [← put_comm e di dj hdd]
      exact hkj

theorem freeB_spec {listed : Array Bool} {i : Nat} {oi : Oper} (hi : ops[i]? = some oi) (h : freeB ops M listed i = true) (j : Nat) (oj : Oper) (hj : ops[j]? = some oj) (hne : j ≠ i) (hun : listed.getD j true = false) :
    (M.getD j 0).testBit i = true ∨ (strictB oi.op = false ∧ commB ops oi oj = true) := by
  simp only [freeB, hi, List.all_eq_true, List.mem_range] at h
  have h1 := h j (Array.getElem?_eq_some_iff.1 hj).1
  simp only [hj, Bool.or_eq_true, beq_iff_eq, hne, false_or, hun, Bool.false_eq_true, Bool.and_eq_true] at h1
  rcases h1 with h1 | ⟨h1, h2⟩
  · exact .inl h1
  · exact .inr ⟨by simpa using h1, h2⟩

theorem anyA_lex (hp : pathB ops M = true) {K : Env → Nat → Hp → Prop} : ∀ (l : List Oper) (k : Nat) (listed : Array Bool) (e : Env) (n : Nat) (H : Hp), (∀ j, l[j]? = ops[k + j]?) → DC ops listed →
    lexFromB ops M l.length k listed = true → opsA P T N nb true ops k l e n H K → anyA P T N nb ops K l.length listed e n H
  | [], _, _, _, _, _, _, _, hB, h => ⟨by simpa [lexFromB] using hB, h⟩
  | o :: l, k, listed, e, n, H, hl, hd, hB, h => by
    have h0 : ops[k]? = some o := by simpa using (hl 0).symm
    simp only [List.length_cons, lexFromB, Bool.and_eq_true] at hB
    obtain ⟨⟨hr, hf⟩, hB'⟩ := hB
    have hr : k ∈ Region.ready .any ops listed := by simpa using hr
    have ih : ∀ e n H, opsA P T N nb true ops (k + 1) l e n H K → anyA P T N nb ops K l.length (listed.setIfInBounds k true) e n H := fun e n H h' =>
      anyA_lex hp l (k + 1) _ e n H (fun j => by have := hl (j + 1); simpa [Nat.add_assoc, Nat.add_comm 1 j] using this) (hd.step hr) hB' h'
    have hst := stepA_of h
    cases hs : strictB o.op with
    | false =>
      obtain ⟨d, H', hy, hk⟩ := Y_of_step hs hst
      exact anyA_first hp h0 hs l.length listed e n H H' hd (fun j oj hoj hne hun hno => by
        rcases freeB_spec h0 hf j oj hoj hne hun with h1 | h1
        · rw [hno] at h1; cases h1
        · exact h1.2) hr hy (ih _ _ _ hk)
    | true =>
      refine ⟨fun h => (by rw [h] at hr; cases hr), fun j hj oj hoj => ?_⟩
      by_cases hjk : j = k
      · subst hjk
        rw [h0] at hoj; cases hoj
        unfold stepX; rw [hs]
        exact stepA_mono hs ih hst
      · exfalso
        obtain ⟨hjun, oj', hoj', hall⟩ := mem_ready.1 hj
        rw [hoj] at hoj'; cases hoj'
        rcases freeB_spec h0 hf j oj hoj hjk hjun with h1 | h1
        · have hkun : listed.getD k false = false := by
            have h0 := (mem_ready.1 hr).1
            rcases Nat.lt_or_ge k listed.size with h' | h'
            · simp [h'] at h0 ⊢; exact h0
            · simp [Array.getElem?_eq_none h']
          obtain ⟨e', he', hb', hl'⟩ := not_ready hp hd (Array.getElem?_eq_some_iff.1 h0).1 hkun j oj hoj h1
          have := hall e' he' hb'
          rw [hl'] at this; cases this
        · rw [hs] at h1; cases h1.1

end
end Bk
