/- Each operation does in the model what it does in the abstract machine: literals, makes, addresses. -/
import Derived.Test.YtobfdenalhmecaaDoorKi
set_option linter.unusedSimpArgs false
set_option linter.unusedSectionVars false
set_option linter.unusedVariables false
namespace Bk
open Go
variable [Gh]

section
variable {P : Program} {T : Tab} {w0 w : World} {W : Nat → Prop} {h : FM} {m : BM} {n : Nat} {H : Hp} {e : Env} {a : Act}
variable {dst : Option Tmp} {ty : TypeId} {pos : String} {af : Array Edge} {gd : Option (Nat × Bool)} {id : Nat} {K : D → Nat → Hp → Prop} {Q : Exit → Act → World → Prop}

theorem range_map_zero {k c : Nat} (zs : Array Value) (hz : zs.size = k) : ((Array.range (c * k)).map (zs[· % zs.size]!)).toList = (List.replicate c zs.toList).flatten := by
  apply List.ext_getElem?
  intro j
  rw [Array.toList_map, Array.toList_range]
  by_cases hk0 : k = 0
  · subst hk0
    have : zs.toList = [] := List.eq_nil_of_length_eq_zero (by simpa using hz)
    simp [this]
  · obtain ⟨i, q, rfl, hq⟩ := divmod k j (by omega)
    rw [flat_get? k _ (fun e he => by rw [List.eq_of_mem_replicate he]; simpa using hz) i q hq, List.getElem?_replicate]
    by_cases hi : i < c
    · have hlt : i * k + q < c * k := by
        have := Nat.mul_le_mul_right k (show i + 1 ≤ c from hi)
        rw [Nat.add_mul] at this; omega
      rw [if_pos hi, List.getElem?_map, List.getElem?_range hlt]
      simp only [Option.map_some, Option.bind_some]
      have hmod : (i * k + q) % zs.size = q := by rw [hz, Nat.mul_comm, Nat.mul_add_mod, Nat.mod_eq_of_lt hq]
      rw [hmod]
      have hq' : q < zs.size := by omega
      simp [hq']
    · have hge : c * k ≤ i * k + q := by
        have := Nat.mul_le_mul_right k (show c ≤ i from by omega)
        omega
      rw [if_neg hi]
      simp only [Option.bind_none, List.getElem?_map, Option.map_eq_none_iff]
      exact List.getElem?_eq_none (by simpa using hge)

theorem buildSlice_run (hT : TabOk P T) {t len el sz by_ : Nat} {z0 : List Value} {i : TI} {es : List (List D)} {parts : Array (Nat × Operand)} (hti : T.get t = some ⟨sz, by_, z0, .slice el⟩) (hei : T.get el = some i) (hes : elemsA i.sz e 0 parts.toList = some es)
    (hll : es.length = len) (hbb : len * i.sz ≤ 16777216) (re : ER h m e a) (w : World) : ∃ us : List Value,
    (execOp a.eval ⟨dst, .buildSlice t len parts, ty, pos, af, gd⟩).run P w = .ok (.value (.slice (some ⟨w.heap.size, 0, none⟩) len len)) (w.alloc (.cells us.toArray el)) ∧ us.length = es.length * i.sz ∧ (∀ c ∈ es, c.length = i.sz) ∧
    (∀ (j : Nat) d x, es.flatten[j]? = some d → us[j]? = some x → RD h m d x) ∧ ∀ u ∈ us, u.oneCell' = true := by
  obtain ⟨_, _, _, _, _, _, _, hkt, _⟩ := tab_info hT hti
  obtain ⟨f, z, hf, hfs, hfb, hfz, hzz, _, _, _, hzk⟩ := tab_info hT hei
  have ht := kind_slice hkt
  obtain ⟨i1, i2, i3, us, i4, i5, i5', i6, i7⟩ := elems_sound re hes
  have hlp : parts.toList.length = len := by rw [← i2]; exact hll
  refine ⟨us, ?_, i4, i1, i6, i7⟩
  have hfill : ∀ zs : Array Value, Instr.fill (fun j => some (j * i.sz, i.sz)) ((Array.range (len * i.sz)).map fun x => zs[x % zs.size]!) (parts.map fun x => (x.1, a.eval x.2)).toList = some us.toArray := by
    intro zs
    have := fill_all i.sz (parts.map fun x => (x.1, a.eval x.2)).toList 0 ((Array.range (len * i.sz)).map fun x => zs[x % zs.size]!)
      (fun j p hp => by
        rw [Array.toList_map, List.getElem?_map] at hp
        cases hq : parts.toList[j]? with
        | none => rw [hq] at hp; simp at hp
        | some q => rw [hq] at hp; simp at hp; subst hp; exact i3 j q hq)
      (fun p hp => by
        rw [Array.toList_map] at hp
        obtain ⟨q, hq, rfl⟩ := List.mem_map.1 hp
        exact i5' q hq)
      (by simp; rw [← Array.length_toList, hlp])
    rw [this, i5]
    simp only [Array.toList_map, List.map_map, Function.comp_def, Nat.zero_mul, List.take_zero, List.nil_append]
  simp only [execOp, Instr.buildSlice, Sem.run_bind, run_underlying ht, Result.andThen_ok, tab_sizeOf hT hei]
  rw [Sem.run_ite, if_neg (by omega)]
  by_cases h0 : len * i.sz = 0
  · rw [Sem.run_ite, if_pos h0]
    simp only [Sem.run_bind, Sem.run_pure, Result.andThen_ok, hfill]
    simp [newRow]
  · rw [Sem.run_ite, if_neg h0]
    simp only [Sem.run_bind, Sem.run_pure, Result.andThen_ok, zeroValue, tab_typeInfo hf, hfz, hfill]
    simp [newRow]

theorem buildSlice_goal (hT : TabOk P T) {t len : Nat} {parts : Array (Nat × Operand)} (hk : opA T (CallA P) (.buildSlice t len parts) e n H id K) (r : WR w0 W h m n H w) (re : ER h m e a) (hid : id < n) (hm : m id = none) :
    OpGoal P ⟨dst, .buildSlice t len parts, ty, pos, af, gd⟩ a w w0 W h m n id K Q := by
  simp only [opA] at hk
  split at hk
  rotate_left
  · exact hk.elim
  rename_i el hti
  split at hk
  rotate_left
  · exact hk.elim
  rename_i i hei
  split at hk
  rotate_left
  · exact hk.elim
  rename_i es hes
  split at hk
  rotate_left
  · exact hk.elim
  rename_i hll hbb
  rw [forceLL_eq] at hk
  have hll := lenL_iff hll
  have hbb := Nat.le_of_ble_eq_true hbb
  obtain ⟨us, hrun, i4, i1, i6, i7⟩ := buildSlice_run (dst := dst) (ty := ty) (pos := pos) (af := af) (gd := gd) hT hti hei hes hll hbb re w
  refine goal_of_alloc r hid hm ⟨el, i.sz, es⟩ us (v := .slice (some ⟨w.heap.size, 0, none⟩) len len) hrun (by rw [i4]; exact Nat.le_refl _) i1 (fun j d x hd hx => ⟨i6 j d x hd hx, i7 x (List.mem_of_getElem? hx)⟩) ?_ hk
  have := RD.msl (h := h) (m := updM m id (w.heap.size, us.length)) id i.sz 0 len w.heap.size us.length len (updM_same _) (Nat.le_refl _) (by rw [i4, hll]; simp)
  simpa using this

theorem makeSlice_goal (hT : TabOk P T) {t : Nat} {l c : Operand} (hk : opA T (CallA P) (.makeSlice t l c) e n H id K) (r : WR w0 W h m n H w) (re : ER h m e a) (hid : id < n) (hm : m id = none) :
    OpGoal P ⟨dst, .makeSlice t l c, ty, pos, af, gd⟩ a w w0 W h m n id K Q := by
  simp only [opA] at hk
  split at hk
  rotate_left
  · exact hk.elim
  rename_i el hti
  split at hk
  rotate_left
  · exact hk.elim
  rename_i i hei
  split at hk
  rotate_left
  · exact hk.elim
  rename_i h1
  obtain ⟨kl, ln, hl, hk⟩ := natOf_v hk (re.ev l)
  obtain ⟨kc, cn, hc, hk⟩ := natOf_v hk (re.ev c)
  obtain ⟨hle, hb, h62, hK⟩ := hk
  obtain ⟨_, _, _, _, _, _, _, hkt, _⟩ := tab_info hT hti
  obtain ⟨f, z, hf, hfs, hfb, hfz, hzz, _, _, _, hzk⟩ := tab_info hT hei
  have ht := kind_slice hkt
  have hzl : z.cells.toList = i.zero := hzz
  have hbi : (f.bytes : Int) * (cn : Int) ≤ 281474976710656 := by
    have h1 : ((i.bytes * cn : Nat) : Int) ≤ 281474976710656 := by rw [Nat.mul_comm]; omega
    rw [hfb]; rwa [Int.natCast_mul] at h1
  have hrun := run_make (P := P) w t el f z ht hf hfz kl kc ln cn (by omega) (by omega) hbi (by omega)
  simp only [Int.toNat_natCast] at hrun
  have hcells : ∀ (j : Nat) d x, (List.replicate ln (zerosA i)).flatten[j]? = some d → ((List.replicate cn z.cells.toList).flatten)[j]? = some x → RD h m d x ∧ x.oneCell' = true := by
    intro j d x hd hx
    have hk1 : ∀ e ∈ List.replicate ln (zerosA i), e.length = i.sz := fun e he => by rw [List.eq_of_mem_replicate he]; simp [zerosA, ← hzl, hzk]
    have hk2 : ∀ e ∈ List.replicate cn z.cells.toList, e.length = i.sz := fun e he => by rw [List.eq_of_mem_replicate he]; simpa using hzk
    obtain ⟨p, q, c', rfl, hq, hp, hc'⟩ := flat_inv i.sz _ hk1 j d hd
    rw [flat_get? i.sz _ hk2 p q hq] at hx
    rw [List.getElem?_replicate] at hp hx
    split at hp
    · cases hp
      split at hx
      · simp only [Option.bind_some] at hx
        rw [hzl] at hx
        have := zeros_get i q d x hc' hx
        subst this
        exact ⟨.imm _ _ (.v x), allOne_iff h1 _ (List.mem_of_getElem? hc')⟩
      · simp at hx
    · cases hp
  refine goal_of_alloc r hid hm ⟨el, i.sz, List.replicate ln (zerosA i)⟩ (List.replicate cn z.cells.toList).flatten (v := .slice (some ⟨w.heap.size, 0, none⟩) ln cn) ?_ ?_ (fun e he => by rw [List.eq_of_mem_replicate he]; simp [zerosA, ← hzl, hzk]) hcells ?_ hK
  · have e1 : madeCells z.cells (cn * f.size) = (List.replicate cn z.cells.toList).flatten.toArray := by
      apply Array.ext'
      rw [hfs]; exact range_map_zero z.cells hzk
    rw [e1] at hrun
    simp only [execOp, hl, hc, Sem.run_bind, hrun, Result.andThen_ok, Sem.run_pure]
  · simp [List.length_flatten, hzk]; exact Nat.mul_le_mul_right _ hle
  · have := RD.msl (h := h) (m := updM m id (w.heap.size, ((List.replicate cn z.cells.toList).flatten).length)) id i.sz 0 ln w.heap.size _ cn (updM_same _) hle (by simp [List.length_flatten, hzk])
    simpa using this
end
end Bk
