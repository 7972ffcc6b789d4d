/- Each operation does in the model what it does in the abstract machine. -/
import Derived.Test.YtobfdenalhmecaaDoorKh
set_option linter.unusedSimpArgs false
set_option linter.unusedSectionVars false
set_option linter.unusedVariables false
namespace Bk
open Go
variable [Gh]

section
variable {P : Program} {T : Tab} {w0 w : World} {W : Nat → Prop} {h : FM} {m : BM} {n : Nat} {H : Hp} {e : Env} {a : Act}

def OpGoal (P : Program) (o : Oper) (a : Act) (w w0 : World) (W : Nat → Prop) (h : FM) (m : BM) (n id : Nat) (K : D → Nat → Hp → Prop) (Q : Exit → Act → World → Prop) : Prop :=
  ∀ next : Act → World → Prop, (∀ d n' H' h' m' w' v, K d n' H' → FLe h h' → (∀ b o x, h' b o = some x → h b o = some x ∨ w0.heap.size ≤ b ∨ W b) → (∀ j, j < n → j ≠ id → m' j = m j) → n ≤ n' → WR w0 W h' m' n' H' w' → MLe m m' → RD h' m' d v → next (a.put o.dst v) w') → o.wp P a w next Q

theorem goal_of_run {o : Oper} {id : Nat} {K : D → Nat → Hp → Prop} {Q : Exit → Act → World → Prop} {v : Value} {w' : World}
    (hrun : (execOp a.eval o).run P w = .ok (.value v) w' ∨ ((execOp a.eval o).run P w = .ok .skip w' ∧ v = undef)) (hr : OpR w0 W h m n id K v w') : OpGoal P o a w w0 W h m n id K Q := by
  intro next hn
  obtain ⟨d, H', m', hK, hle, hne, hw, hd⟩ := hr
  have := hn d n H' h m' w' v hK (FLe.refl _) (fun b o x e => .inl e) (fun j _ hj => hne j hj) (Nat.le_refl _) hw hle hd
  rcases hrun with hrun | ⟨hrun, rfl⟩
  · unfold Oper.wp; rw [hrun, Oper.upon_value]; exact this
  · unfold Oper.wp; rw [hrun, Oper.upon_skip]; exact this

/-- an operation that leaves the world alone -/
theorem goal_of_pure {o : Oper} {id : Nat} {K : D → Nat → Hp → Prop} {Q : Exit → Act → World → Prop} {v : Value} {d : D}
    (hrun : (execOp a.eval o).run P w = .ok (.value v) w) (r : WR w0 W h m n H w) (hd : RD h m d v) (hK : K d n H) : OpGoal P o a w w0 W h m n id K Q :=
  goal_of_run (.inl hrun) ⟨d, H, m, hK, MLe.refl _, fun _ _ => rfl, r, hd⟩

/-- a new block -/
theorem goal_of_alloc {o : Oper} {id : Nat} {K : D → Nat → Hp → Prop} {Q : Exit → Act → World → Prop} {v : Value} {d : D} (r : WR w0 W h m n H w) (hid : id < n) (hm : m id = none) (O : AObj) (xs : List Value)
    (hrun : (execOp a.eval o).run P w = .ok (.value v) (w.alloc (.cells xs.toArray O.ty)))
    (hlen : O.es.length * O.k ≤ xs.length) (hk : ∀ e ∈ O.es, e.length = O.k) (hc : ∀ (j : Nat) d x, O.es.flatten[j]? = some d → xs[j]? = some x → RD h m d x ∧ x.oneCell' = true)
    (hd : RD h (updM m id (w.heap.size, xs.length)) d v) (hK : K d n (updH H id (some O))) : OpGoal P o a w w0 W h m n id K Q :=
  goal_of_run (.inl hrun) ⟨d, _, updM m id (w.heap.size, xs.length), hK, updM_le _ hm, fun _ hj => updM_ne _ hj, r.alloc hid hm O xs hlen hk hc, hd⟩

theorem natOf_v {x : D} {v : Value} {K : Nat → Prop} (hk : natOf x K) (rx : RD h m x v) : ∃ k i, v = .int k ((i : Nat) : Int) ∧ K i := by
  unfold natOf at hk
  split at hk
  · obtain ⟨i, rfl, hK⟩ := hk
    have := rx.v_inv; subst this
    exact ⟨_, i, rfl, hK⟩
  · exact hk.elim

theorem box_goal {dst : Option Tmp} {t : Nat} {x : Operand} {ty : TypeId} {pos : String} {af : Array Edge} {gd : Option (Nat × Bool)} {id : Nat} {K : D → Nat → Hp → Prop} {Q : Exit → Act → World → Prop}
    (hk : opA T (CallA P) (.box t x) e n H id K) (r : WR w0 W h m n H w) (re : ER h m e a) (hid : id < n) (hm : m id = none) :
    OpGoal P ⟨dst, .box t x, ty, pos, af, gd⟩ a w w0 W h m n id K Q := by
  simp only [opA] at hk
  split at hk
  · rename_i i hi
    split at hk
    · rename_i hl h1
      rw [forceL_eq] at hk
      have hl := lenL_iff hl
      obtain ⟨hcl, hcr, hc1⟩ := cells_rel (re.ev x) h1
      refine goal_of_alloc r hid hm ⟨t, i.sz, [cellsOf (ev e x)]⟩ (a.eval x).cells.toList ?_ (by rw [hcl, hl]; simp) (by simp [hl]) (fun j d y hd hy => ?_) (.ptr _ _ _ _ (updM_same _)) hk
      · simp [execOp, Instr.box, newVar, newRow]
      · simp only [List.flatten_cons, List.flatten_nil, List.append_nil] at hd
        exact ⟨hcr j d y hd hy, hc1 y (List.mem_of_getElem? hy)⟩
    · exact hk.elim
  · exact hk.elim

theorem zeros_get (i : TI) (j : Nat) (d : D) (x : Value) (hd : (zerosA i)[j]? = some d) (hx : i.zero[j]? = some x) : d = .v x := by
  unfold zerosA at hd
  rw [List.getElem?_map, hx] at hd; simp at hd; exact hd.symm

theorem alloc_goal (hT : TabOk P T) {dst : Option Tmp} {t : Nat} {ty : TypeId} {pos : String} {af : Array Edge} {gd : Option (Nat × Bool)} {id : Nat} {K : D → Nat → Hp → Prop} {Q : Exit → Act → World → Prop}
    (hk : opA T (CallA P) (.alloc t) e n H id K) (r : WR w0 W h m n H w) (hid : id < n) (hm : m id = none) :
    OpGoal P ⟨dst, .alloc t, ty, pos, af, gd⟩ a w w0 W h m n id K Q := by
  simp only [opA] at hk
  split at hk
  · rename_i i hi
    split at hk
    · rename_i h1
      obtain ⟨f, z, hf, _, _, hfz, hz, _, _, _, hzk⟩ := tab_info hT hi
      have hzl : i.zero.length = i.sz := by rw [← hz]; simpa using hzk
      refine goal_of_alloc r hid hm ⟨t, i.sz, [zerosA i]⟩ i.zero ?_ (by simp; omega) (by simp [zerosA, hzl]) (fun j d y hd hy => ?_) (.ptr _ _ _ _ (updM_same _)) hk
      · simp [execOp, Instr.alloc, zeroValue, typeInfo, hf, hfz, newVar, newRow, ← hz]
      · simp only [List.flatten_cons, List.flatten_nil, List.append_nil] at hd
        have := zeros_get i j d y hd hy
        subst this
        exact ⟨.imm _ _ (.v y), allOne_iff h1 _ (List.mem_of_getElem? hd)⟩
    · exact hk.elim
  · exact hk.elim

theorem elems_sound {k : Nat} (re : ER h m e a) : ∀ {l : List (Nat × Operand)} {i : Nat} {es : List (List D)}, elemsA k e i l = some es →
    (∀ c ∈ es, c.length = k) ∧ es.length = l.length ∧ (∀ (j : Nat) p, l[j]? = some p → p.1 = i + j) ∧
      ∃ us : List Value, us.length = es.length * k ∧ us = (l.map fun p => (a.eval p.2).cells.toList).flatten ∧ (∀ p ∈ l, (a.eval p.2).cells.size = k) ∧ (∀ (j : Nat) d x, es.flatten[j]? = some d → us[j]? = some x → RD h m d x) ∧ ∀ u ∈ us, u.oneCell' = true
  | [], i, es, he => by
    simp only [elemsA] at he; cases he
    exact ⟨by simp, rfl, by simp, [], by simp, by simp, by simp, by simp, by simp⟩
  | (j, x) :: l, i, es, he => by
    simp only [elemsA] at he
    split at he
    · rename_i l' hb hl h1 hr
      cases he
      have hb := Nat.eq_of_beq_eq_true hb
      have hl := lenL_iff hl
      obtain ⟨hcl, hcr, hc1⟩ := cells_rel (re.ev x) h1
      obtain ⟨i1, i2, i3, us, i4, i5, i5', i6, i7⟩ := elems_sound re hr
      refine ⟨?_, by simp [i2], ?_, (a.eval x).cells.toList ++ us, ?_, by simp [i5], ?_, ?_, ?_⟩
      · intro c hc
        rcases List.mem_cons.1 hc with rfl | hc
        · exact hl
        · exact i1 c hc
      · intro q p hp
        cases q with
        | zero => simp at hp; subst hp; simp [hb]
        | succ q => have := i3 q p (by simpa using hp); omega
      · rw [List.length_append, hcl, hl, i4]; simp [Nat.add_mul]; omega
      · intro p hp
        rcases List.mem_cons.1 hp with rfl | hp
        · rw [← Array.length_toList, hcl, hl]
        · exact i5' p hp
      · intro q d y hd hy
        rw [List.flatten_cons] at hd
        by_cases hq : q < k
        · rw [List.getElem?_append_left (by omega)] at hd hy
          exact hcr q d y hd hy
        · rw [List.getElem?_append_right (by omega)] at hd hy
          rw [hl] at hd; rw [hcl, hl] at hy
          exact i6 _ d y hd hy
      · intro u hu
        rcases List.mem_append.1 hu with hu | hu
        · exact hc1 u hu
        · exact i7 u hu
    · cases he

theorem set_seg (b : Nat) : ∀ (vs : List Value) (q : Nat) (cs : Array Value), b + q + vs.length ≤ cs.size →
    (vs.zipIdx q).foldl (fun cs (c, x) => cs.setIfInBounds (b + x) c) cs = (cs.toList.take (b + q) ++ vs ++ cs.toList.drop (b + q + vs.length)).toArray
  | [], q, cs, _ => by simp
  | v :: vs, q, cs, hq => by
    simp only [List.zipIdx_cons, List.foldl_cons]
    rw [set_seg b vs (q + 1) _ (by simp at hq ⊢; omega)]
    have := list_seg_step cs.toList (b + q) v vs (by simp at hq ⊢; omega)
    simp only [Array.toList_setIfInBounds, List.length_cons]
    rw [show b + (q + 1) = b + q + 1 from by omega, this]

theorem fill_step (cells : Array Value) (v : Value) (o : Nat) (ho : o + v.cells.size ≤ cells.size) :
    v.cells.zipIdx.foldl (fun cs (x : Value × Nat) => cs.setIfInBounds (o + x.2) x.1) cells = (cells.toList.take o ++ v.cells.toList ++ cells.toList.drop (o + v.cells.toList.length)).toArray := by
  rw [← Array.foldl_toList, Array.toList_zipIdx]
  have := set_seg o v.cells.toList 0 cells (by simpa using ho)
  simpa only [Nat.add_zero] using this

/-- the cells of a row that is filled from place 0 on -/
theorem fill_all (k : Nat) : ∀ (l : List (Nat × Value)) (i : Nat) (cells : Array Value), (∀ (j : Nat) p, l[j]? = some p → p.1 = i + j) → (∀ p ∈ l, p.2.cells.size = k) → cells.size = (i + l.length) * k →
    Instr.fill (fun j => some (j * k, k)) cells l = some (cells.toList.take (i * k) ++ (l.map fun p => p.2.cells.toList).flatten).toArray
  | [], i, cells, _, _, hs => by
    simp only [Instr.fill, List.map_nil, List.flatten_nil, List.append_nil]
    rw [List.take_of_length_le (by simp at hs ⊢; omega)]
  | (j, v) :: l, i, cells, hi, hk, hs => by
    have hj : j = i := by have := hi 0 (j, v) rfl; simpa using this
    subst hj
    have hv : v.cells.size = k := hk (j, v) (by simp)
    have hs' : cells.size = j * k + k + l.length * k := by rw [hs]; simp [Nat.add_mul]; omega
    simp only [Instr.fill]
    rw [if_neg (by simp [hv]; omega)]
    have hz : v.cells.zipIdx.foldl (fun cs (x : Value × Nat) => cs.setIfInBounds (j * k + x.2) x.1) cells = (cells.toList.take (j * k) ++ v.cells.toList ++ cells.toList.drop (j * k + k)).toArray := by
      have := fill_step cells v (j * k) (by omega)
      simp only [Array.length_toList, hv] at this
      exact this
    rw [hz]
    rw [fill_all k l (j + 1) _ (fun q p hp => by have := hi (q + 1) p (by simpa using hp); omega) (fun p hp => hk p (by simp [hp])) (by
      simp only [List.size_toArray, List.length_append, List.length_take, List.length_drop, Array.length_toList, hv]; rw [Nat.add_mul, Nat.add_mul]; omega)]
    congr 2
    simp only [List.map_cons, List.flatten_cons, ← List.append_assoc]
    congr 1
    have hl1 : (cells.toList.take (j * k)).length = j * k := by simp; omega
    rw [List.take_append_of_le_length (by simp [hl1, hv]; rw [Nat.add_mul]; omega), List.take_of_length_le (by simp [hv]; rw [Nat.add_mul]; omega)]
end
end Bk
