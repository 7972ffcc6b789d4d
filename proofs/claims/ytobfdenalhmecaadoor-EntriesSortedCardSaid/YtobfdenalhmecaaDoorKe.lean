/- Stores, slices, appends, copies: each as the abstract machine says. -/
import Derived.Test.YtobfdenalhmecaaDoorKd
import Derived.Maps.AppendAt
set_option linter.unusedSimpArgs false
set_option linter.unusedSectionVars false
set_option linter.unusedVariables false
namespace Bk
open Go
variable [Gh]

section lists
variable {α : Type}
theorem seg_get (l : List α) (j : Nat) (ds : List α) (hj : j + ds.length ≤ l.length) (p : Nat) :
    (l.take j ++ ds ++ l.drop (j + ds.length))[p]? = if p < j then l[p]? else if p < j + ds.length then ds[p - j]? else l[p]? := by
  have hlt : (l.take j).length = j := by rw [List.length_take]; omega
  by_cases h1 : p < j
  · rw [if_pos h1, List.append_assoc, List.getElem?_append_left (by omega), List.getElem?_take, if_pos h1]
  · rw [if_neg h1]
    by_cases h2 : p < j + ds.length
    · rw [if_pos h2, List.append_assoc, List.getElem?_append_right (by omega), List.getElem?_append_left (by omega), hlt]
    · rw [if_neg h2, List.getElem?_append_right (by rw [List.length_append]; omega), List.getElem?_drop, List.length_append, hlt]
      congr 1; omega
theorem seg_len (l : List α) (j : Nat) (ds : List α) (hj : j + ds.length ≤ l.length) : (l.take j ++ ds ++ l.drop (j + ds.length)).length = l.length := by
  simp only [List.length_append, List.length_take, List.length_drop]; omega
theorem flat_get? (k : Nat) (es : List (List α)) (hk : ∀ e ∈ es, e.length = k) (i j : Nat) (hj : j < k) : es.flatten[i * k + j]? = (es[i]?).bind (·[j]?) := by
  cases hi : es[i]? with
  | some c => exact flat_get k es hk i j c hi hj
  | none =>
    have hl : es.length ≤ i := by
      rcases Nat.lt_or_ge i es.length with h | h
      · rw [List.getElem?_eq_getElem h] at hi; cases hi
      · exact h
    simp only [Option.bind_none]
    rw [List.getElem?_eq_none]
    rw [flat_len es k hk]
    have := Nat.mul_le_mul_right k hl
    omega
theorem divmod (k p : Nat) (hk : 0 < k) : ∃ i j, p = i * k + j ∧ j < k := ⟨p / k, p % k, by rw [Nat.mul_comm]; exact (Nat.div_add_mod p k).symm, Nat.mod_lt _ hk⟩
theorem muladd_inj {k i i' j j' : Nat} (hj : j < k) (hj' : j' < k) (h : i * k + j = i' * k + j') : i = i' ∧ j = j' := by
  have hk : 0 < k := by omega
  have h1 : (i * k + j) / k = i := by rw [Nat.mul_comm, Nat.mul_add_div hk, Nat.div_eq_of_lt hj]; omega
  have h2 : (i' * k + j') / k = i' := by rw [Nat.mul_comm, Nat.mul_add_div hk, Nat.div_eq_of_lt hj']; omega
  have : i = i' := by rw [← h1, h, h2]
  subst this; exact ⟨rfl, by omega⟩
theorem get_lt {l : List α} {i : Nat} {x : α} (h : l[i]? = some x) : i < l.length := by
  rcases Nat.lt_or_ge i l.length with h' | h'
  · exact h'
  · rw [List.getElem?_eq_none h'] at h; cases h
/-- a row of an object in which some cells are written -/
theorem flat_set (k : Nat) (es : List (List α)) (hk : ∀ e ∈ es, e.length = k) (y : Nat) (c : List α) (hy : es[y]? = some c) (j : Nat) (ds : List α) (hj : j + ds.length ≤ k) (p : Nat) :
    (es.set y (c.take j ++ ds ++ c.drop (j + ds.length))).flatten[p]? = if p < y * k + j then es.flatten[p]? else if p < y * k + j + ds.length then ds[p - (y * k + j)]? else es.flatten[p]? := by
  have hcl : c.length = k := hk c (List.mem_of_getElem? hy)
  have hyl := get_lt hy
  by_cases hk0 : k = 0
  · subst hk0
    have hds : ds = [] := List.eq_nil_of_length_eq_zero (by omega)
    have hc : c = [] := List.eq_nil_of_length_eq_zero hcl
    subst hds; subst hc
    have h1 : es.flatten[p]? = none := List.getElem?_eq_none (by rw [flat_len es 0 hk]; omega)
    have h2 : (es.set y (([] : List α).take j ++ [] ++ ([] : List α).drop (j + ([] : List α).length))).flatten[p]? = none := by
      refine List.getElem?_eq_none ?_
      rw [flat_len _ 0 (fun e he => ?_)]
      · omega
      · rcases List.mem_or_eq_of_mem_set he with h | h
        · exact hk e h
        · rw [h]; simp
    rw [h1, h2]
    simp
  · obtain ⟨i, q, rfl, hq⟩ := divmod k p (by omega)
    have hk' : ∀ e ∈ es.set y (c.take j ++ ds ++ c.drop (j + ds.length)), e.length = k := by
      intro e he
      rcases List.mem_or_eq_of_mem_set he with h | h
      · exact hk e h
      · rw [h, seg_len c j ds (by omega), hcl]
    rw [flat_get? k _ hk' i q hq, flat_get? k es hk i q hq, List.getElem?_set]
    by_cases hiy : y = i
    · subst hiy
      rw [if_pos rfl, if_pos hyl, hy]
      simp only [Option.bind_some]
      rw [seg_get c j ds (by omega) q]
      have e1 : (y * k + q < y * k + j) ↔ q < j := by omega
      have e2 : (y * k + q < y * k + j + ds.length) ↔ q < j + ds.length := by omega
      have e3 : y * k + q - (y * k + j) = q - j := by omega
      simp only [e1, e2, e3]
    · rw [if_neg hiy]
      rcases Nat.lt_or_gt_of_ne hiy with h | h
      · have := Nat.mul_le_mul_right k (show y + 1 ≤ i from h)
        rw [Nat.add_mul] at this
        rw [if_neg (by omega), if_neg (by omega)]
      · have := Nat.mul_le_mul_right k (show i + 1 ≤ y from h)
        rw [Nat.add_mul] at this
        rw [if_pos (by omega)]
end lists

section
variable {P : Program} {T : Tab} {w0 w : World} {W : Nat → Prop} {h : FM} {m : BM} {n : Nat} {H : Hp} {e : Env} {a : Act}

theorem one_cells {v : Value} (hv : v.oneCell' = true) : v.cells = #[v] := by cases v <;> first | rfl | cases hv

theorem cells_rel {d : D} {v : Value} (r : RD h m d v) (h1 : allOne (cellsOf d) = true) :
    v.cells.toList.length = (cellsOf d).length ∧ (∀ (i : Nat) x y, (cellsOf d)[i]? = some x → v.cells.toList[i]? = some y → RD h m x y) ∧ ∀ y ∈ v.cells.toList, y.oneCell' = true := by
  have key : ∀ (ds : List D) (xs : List Value), ds.length = xs.length → (∀ (i : Nat) x y, ds[i]? = some x → xs[i]? = some y → RD h m x y) → allOne ds = true → ∀ y ∈ xs, y.oneCell' = true := by
    intro ds xs hl hr ha y hy
    obtain ⟨i, hi, rfl⟩ := List.mem_iff_getElem.1 hy
    have hi' : i < ds.length := by omega
    exact (hr i ds[i] xs[i] (List.getElem?_eq_getElem hi') (List.getElem?_eq_getElem hi)).one (allOne_iff ha _ (List.getElem_mem hi'))
  by_cases hagg : ∃ ds, d = .agg ds
  · obtain ⟨ds, rfl⟩ := hagg
    simp only [cellsOf] at h1 ⊢
    have : ∃ xs : List Value, v = .agg xs.toArray ∧ ds.length = xs.length ∧ ∀ (i : Nat) x y, ds[i]? = some x → xs[i]? = some y → RD h m x y := by
      cases r with
      | imm _ _ r => cases r with
        | agg _ xs hl hr => exact ⟨xs, rfl, hl, fun i x y hx hy => .imm _ _ (hr i x y hx hy)⟩
      | agg _ xs hl hr => exact ⟨xs, rfl, hl, hr⟩
    obtain ⟨xs, rfl, hl, hr⟩ := this
    exact ⟨by simp [Value.cells, hl], by simpa [Value.cells] using hr, by simpa [Value.cells] using key ds xs hl hr h1⟩
  · have hc : cellsOf d = [d] := by cases d <;> first | rfl | exact absurd ⟨_, rfl⟩ hagg
    rw [hc] at h1 ⊢
    have h1' := allOne_iff h1 d (by simp)
    have hv := r.one h1'
    rw [one_cells hv]
    refine ⟨rfl, fun i x y hx hy => ?_, fun y hy => ?_⟩
    · match i, hx, hy with
      | 0, hx, hy => simp at hx hy; subst hx; subst hy; exact r
    · simp at hy; subst hy; exact hv

/-- some cells of an object are written -/
theorem write_sound (r : WR w0 W h m n H w) {id : Nat} {O O' : AObj} (hO : H id = some O) {b N : Nat} (hm : m id = some (b, N)) (o : Nat) (ds : List D) (vs : List Value)
    (hl : vs.length = ds.length) (hr : ∀ (i : Nat) x y, ds[i]? = some x → vs[i]? = some y → RD h m x y) (h1 : ∀ y ∈ vs, y.oneCell' = true) (hin : o + ds.length ≤ O.es.length * O.k)
    (ht : O'.ty = O.ty) (hk' : ∀ e ∈ O'.es, e.length = O'.k) (hlen' : O'.es.length * O'.k = O.es.length * O.k)
    (hset : ∀ p, O'.es.flatten[p]? = if p < o then O.es.flatten[p]? else if p < o + ds.length then ds[p - o]? else O.es.flatten[p]?) :
    ∃ w', (storeCells ⟨b, o, none⟩ vs).run P w = .ok () w' ∧ WR w0 W h m n (updH H id (some O')) w' := by
  obtain ⟨xs, hN, hb, hlen, hk, hc, hf⟩ := obj_cells r.rh hO hm
  subst hN
  have hst := run_storeCells_at P b o O.ty vs 0 xs.toArray w hb (by simp; omega) h1
  simp only [Nat.add_zero] at hst
  refine ⟨_, hst, ?_⟩
  have hyl : (xs.take o ++ vs ++ xs.drop (o + vs.length)).length = xs.length := seg_len xs o vs (by omega)
  refine r.write hO hm hb hf _ hyl ht (by rw [hyl, hlen']; exact hlen) hk' ?_
  intro j d x hd hx
  rw [seg_get xs o vs (by omega) j] at hx
  rw [hset j] at hd
  by_cases h2 : j < o
  · rw [if_pos h2] at hd hx; exact hc j d x hd hx
  · rw [if_neg h2] at hd hx
    by_cases h3 : j < o + ds.length
    · rw [if_pos h3] at hd; rw [if_pos (by omega)] at hx
      exact ⟨hr _ d x hd hx, h1 x (List.mem_of_getElem? hx)⟩
    · rw [if_neg h3] at hd; rw [if_neg (by omega)] at hx
      exact hc j d x hd hx

theorem store_sound (hT : TabOk P T) {t : Nat} {p x : D} {v y : Value} {K : Hp → Prop} (hk : storeA T t p x H K) (r : WR w0 W h m n H w) (rp : RD h m p v) (rx : RD h m x y) :
    ∃ w' H', (Instr.storeAt t v y).run P w = .ok () w' ∧ K H' ∧ WR w0 W h m n H' w' := by
  unfold storeA at hk
  split at hk
  · exact hk.elim
  rename_i i hi
  split at hk
  · rename_i hl h1
    have hl := lenL_iff hl
    obtain ⟨hcl, hcr, hc1⟩ := cells_rel rx h1
    have hsz : ¬ (y.cells.size ≠ i.sz) := by rw [← Array.length_toList]; omega
    have hrun : ∀ b o w', (storeCells ⟨b, o, none⟩ y.cells.toList).run P w = .ok () w' → (Instr.storeAt t (.pointer (some ⟨b, o, none⟩)) y).run P w = .ok () w' := by
      intro b o w' hst
      simp only [Instr.storeAt, Instr.sureAddr, storeVar, Sem.run_bind, Sem.run_pure, Result.andThen_ok, tab_sizeOf hT hi, Sem.run_ite, if_neg hsz, hst]
    split at hk
    · rename_i id j
      split at hk
      · rename_i ty k cells hO
        split at hk
        · rename_i hble
          have hble := Nat.le_of_ble_eq_true hble
          obtain ⟨b, N, hm, rfl⟩ := rp.ptr_inv
          obtain ⟨xs, hN, hb, hlen, hkk, hc, hf⟩ := obj_cells r.rh hO hm
          have hcl' : cells.length = k := hkk cells (by simp)
          rw [forceL_eq] at hk
          have hsl : (storeL cells j (cellsOf x)).length = cells.length := seg_len cells j (cellsOf x) (by omega)
          obtain ⟨w', hst, hw⟩ := write_sound (P := P) (O' := ⟨ty, k, [storeL cells j (cellsOf x)]⟩) r hO hm j (cellsOf x) y.cells.toList hcl hcr hc1 (by simp; omega) rfl
            (by intro e he; simp at he; rw [he, hsl, hcl']) (by simp) (by intro p; simp only [List.flatten_cons, List.flatten_nil, List.append_nil]; exact seg_get cells j (cellsOf x) (by omega) p)
          exact ⟨w', _, hrun b j w' hst, hk, hw⟩
        · exact hk.elim
      · exact hk.elim
    · rename_i id k z j
      obtain ⟨O, c, hO, hk', hc, hjl, hK⟩ := hk
      obtain ⟨b, N, hm, rfl⟩ := rp.eptr_inv
      subst hk'
      obtain ⟨xs, hN, hb, hlen, hkk, _, hf⟩ := obj_cells r.rh hO hm
      have hcl' : c.length = O.k := hkk c (List.mem_of_getElem? hc)
      have hsl : (storeL c j (cellsOf x)).length = c.length := seg_len c j (cellsOf x) (by omega)
      have hz := get_lt hc
      have hzk := Nat.mul_le_mul_right O.k (show z + 1 ≤ O.es.length from hz)
      rw [Nat.add_mul] at hzk
      obtain ⟨w', hst, hw⟩ := write_sound (P := P) (O' := ⟨O.ty, O.k, O.es.set z (storeL c j (cellsOf x))⟩) r hO hm (z * O.k + j) (cellsOf x) y.cells.toList hcl hcr hc1 (by omega) rfl
        (by
          intro e he
          rcases List.mem_or_eq_of_mem_set he with h' | h'
          · exact hkk e h'
          · rw [h', hsl, hcl'])
        (by simp) (by intro p; exact flat_set O.k O.es hkk z c hc j (cellsOf x) (by omega) p)
      exact ⟨w', _, hrun b _ w' hst, hK, hw⟩
    · exact hk.elim
  · exact hk.elim
end
end Bk
