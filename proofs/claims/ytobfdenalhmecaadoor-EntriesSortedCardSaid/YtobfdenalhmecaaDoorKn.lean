/- Each operation does in the model what it does in the abstract machine: the whole; calls. -/
import Derived.Test.YtobfdenalhmecaaDoorKm
import Derived.Laws.IdiomStrings
import Derived.Conc.MuLone
set_option linter.unusedSimpArgs false
set_option linter.unusedSectionVars false
set_option linter.unusedVariables false
namespace Bk
open Go
variable [Gh]

section
variable {P : Program} {T : Tab} {w0 w : World} {W : Nat → Prop} {h : FM} {m : BM} {n : Nat} {H : Hp} {e : Env} {a : Act}
variable {dst : Option Tmp} {ty : TypeId} {pos : String} {af : Array Edge} {gd : Option (Nat × Bool)} {id : Nat} {K : D → Nat → Hp → Prop} {Q : Exit → Act → World → Prop}

theorem lenA_sound (hT : TabOk P T) {t : Nat} {x : D} {v : Value} {KK : D → Prop} (hk : lenA T t x KK) (rx : RD h m x v) (ty : TypeId) (w : World) :
    ∃ y d, (Builtin.len_ #[t] ty #[v]).run P w = .ok y w ∧ KK d ∧ RD h m d y := by
  unfold lenA at hk
  split at hk
  · rename_i hti
    have ht := tab_str hT hti
    split at hk
    · have hv := rx.v_inv; subst hv
      exact ⟨_, _, by simp [Builtin.len_, run_underlying ht, goInt], hk, .imm _ _ (.v _)⟩
    · exact hk.elim
  · rename_i el hti
    have ht := tab_slice hT hti
    have hgo : ∀ A l c, (Builtin.len_ #[t] ty #[.slice A l c]).run P w = .ok (.int .i64 (l : Nat)) w := by
      intro A l c; simp [Builtin.len_, run_underlying ht, goInt]
    split at hk
    · rename_i k es
      rcases rx.sl_inv with ⟨rfl, A, c, rfl⟩ | ⟨b, o, c, u, rfl, _⟩
      · exact ⟨_, _, hgo A 0 c, hk, .imm _ _ (.v _)⟩
      · exact ⟨_, _, hgo _ _ c, hk, .imm _ _ (.v _)⟩
    · rename_i k es
      rcases rx.tsl_inv with ⟨rfl, A, rfl⟩ | ⟨b, o, u, rfl, _⟩
      · exact ⟨_, _, hgo A 0 0, hk, .imm _ _ (.v _)⟩
      · exact ⟨_, _, hgo _ _ _, hk, .imm _ _ (.v _)⟩
    · rename_i id' k lo len
      rcases rx.msl_inv with ⟨b, N, c, _, _, _, rfl⟩ | ⟨rfl, A, rfl⟩
      · exact ⟨_, _, hgo _ _ c, hk, .imm _ _ (.v _)⟩
      · exact ⟨_, _, hgo A 0 0, hk, .imm _ _ (.v _)⟩
    · have hv := rx.v_inv; subst hv
      exact ⟨_, _, hgo none 0 0, hk, .imm _ _ (.v _)⟩
    · exact hk.elim
  · exact hk.elim

theorem minA_sound {op : Builtin} {x y : D} {v u : Value} {KK : D → Prop} (hk : minA op x y KK) (rx : RD h m x v) (ry : RD h m y u) (ts : Array TypeId) (ty : TypeId) (w : World) :
    (op = .min ∧ ∃ z d, (Builtin.min_ ts ty #[v, u]).run P w = .ok z w ∧ KK d ∧ RD h m d z) ∨ (op = .max ∧ ∃ z d, (Builtin.max_ ts ty #[v, u]).run P w = .ok z w ∧ KK d ∧ RD h m d z) := by
  unfold minA at hk
  split at hk
  · have h1 := rx.v_inv; have h2 := ry.v_inv; subst h1; subst h2
    exact .inl ⟨rfl, _, _, by simp [Builtin.min_, Builtin.min2], hk, .imm _ _ (.v _)⟩
  · have h1 := rx.v_inv; have h2 := ry.v_inv; subst h1; subst h2
    exact .inr ⟨rfl, _, _, by simp [Builtin.max_, Builtin.max2], hk, .imm _ _ (.v _)⟩
  · exact hk.elim

theorem copy_sound (hT : TabOk P T) {t u ty : TypeId} {s x : D} {K : D → Nat → Hp → Prop} (hk : copyA T t s x n H K) (r : WR w0 W h m n H w) {vs vx : Value}
    (rs : RD h m s vs) (rx : RD h m x vx) (id : Nat) : ∃ v w', (Builtin.copy_ #[t, u] ty #[vs, vx]).run P w = .ok v w' ∧ OpR w0 W h m n id K v w' := by
  unfold copyA at hk
  split at hk
  rotate_left
  · exact hk.elim
  rename_i sz1 by1 z1 el hti
  split at hk
  · exact hk.elim
  rename_i k by_ z2 kd hei
  have ht := tab_slice hT hti
  obtain ⟨f, z, hf, hfs, hfb, hfz, _, _, _, _, hzk⟩ := tab_info hT hei
  simp only at hfs hfb hzk
  split at hk
  · rename_i id1 l lo len
    obtain ⟨new, ⟨O, hO, hl, hOk, hlen, hK⟩, hs⟩ := src_sound hk r.rh rx
    subst hl
    obtain ⟨hkn, hs⟩ := hs
    have hsame : Nat.min new.length len = 0 → updH H id1 (some ⟨O.ty, O.k, O.es.take lo ++ new.take (Nat.min new.length len) ++ O.es.drop (lo + (new.take (Nat.min new.length len)).length)⟩) = H := by
      intro h0
      rw [h0]; simp only [List.take_zero, List.append_nil, List.length_nil, Nat.add_zero, List.take_append_drop]
      funext j
      by_cases hj : j = id1
      · subst hj; rw [updH_same, hO]
      · rw [updH_ne _ _ hj]
    rcases rs.msl_inv with ⟨b, N, c, hm0, hc, hN, rfl⟩ | ⟨h0, A, rfl⟩
    · rcases hs with ⟨rfl, A, c', rfl⟩ | ⟨ad, c', us, rfl, hul, huc, hur, hu1⟩
      · refine ⟨_, _, run_copy_zero (P := P) w t u ty el f _ A len c 0 c' ht hf (Nat.zero_min _), _, H, m, ?_, MLe.refl _, fun _ _ => rfl, r, .imm _ _ (.v _)⟩
        have h0 : Nat.min ([] : List (List D)).length len = 0 := Nat.zero_min _
        rw [hsame h0] at hK
        rw [h0] at hK
        exact hK
      · by_cases h0 : Nat.min new.length len = 0
        · refine ⟨_, _, run_copy_zero (P := P) w t u ty el f _ (some ad) len c new.length c' ht hf h0, _, H, m, ?_, MLe.refl _, fun _ _ => rfl, r, .imm _ _ (.v _)⟩
          rw [hsame h0] at hK
          rw [h0] at hK
          exact hK
        · obtain ⟨xs, hN', hbl, hlx, hkk, hcx, hf0⟩ := obj_cells r.rh hO hm0
          subst hN'
          rw [hOk] at hlx hkk
          have hq : Nat.min new.length len ≤ new.length := Nat.min_le_left _ _
          have hq2 : Nat.min new.length len ≤ len := Nat.min_le_right _ _
          generalize hqq : Nat.min new.length len = q at *
          have hmq := Nat.mul_le_mul_right l hq
          have hml := Nat.mul_le_mul_right l (show lo + q ≤ O.es.length from by omega)
          rw [Nat.add_mul] at hml
          have hcs : (us.take (q * l)).length = q * l := by rw [List.length_take]; omega
          have hds : (new.take q).length = q := by rw [List.length_take]; omega
          have hkn' : ∀ e ∈ new.take q, e.length = l := fun e he => hkn e (List.mem_of_mem_take he)
          have hdl : (new.take q).flatten.length = q * l := by rw [flat_len _ l hkn', hds]
          have hrun := run_copy_seg (P := P) w t u ty el f b (lo * l) q len c ad new.length c' xs.toArray O.ty (us.take (q * l)) ht hf hbl hqq.symm (by rw [hfs]; exact hcs)
            (fun j v hv => huc j v (by rw [List.getElem?_take] at hv; split at hv; exact hv; cases hv)) (by rw [hcs]; simp; omega) (fun v hv => hu1 v (List.mem_of_mem_take hv))
          obtain ⟨w', hst, hw⟩ := write_sound (P := P) (O' := ⟨O.ty, O.k, O.es.take lo ++ new.take q ++ O.es.drop (lo + (new.take q).length)⟩) r hO hm0 (lo * l) (new.take q).flatten (us.take (q * l))
            (by rw [hcs, hdl]) (fun i x y hx hy => by
              rw [List.getElem?_take] at hy
              split at hy
              · rename_i hi
                have := cut_flat l new hkn 0 q i hi
                simp only [List.drop_zero, Nat.zero_mul, Nat.zero_add] at this
                rw [this] at hx
                exact hur i x y hx hy
              · cases hy) (fun v hv => hu1 v (List.mem_of_mem_take hv)) (by rw [hdl, hOk]; omega) rfl
            (by
              intro e he
              simp only [hOk]
              rcases List.mem_append.1 he with he | he
              · rcases List.mem_append.1 he with he | he
                · exact hkk e (List.mem_of_mem_take he)
                · exact hkn' e he
              · exact hkk e (List.mem_of_mem_drop he))
            (by simp only; rw [seg_len _ _ _ (by rw [hds]; omega)])
            (by
              intro p
              simp only [hdl]
              by_cases hl0 : l = 0
              · have e1 : ∀ es : List (List D), (∀ e ∈ es, e.length = l) → es.flatten[p]? = none := fun es he => List.getElem?_eq_none (by rw [flat_len es l he, hl0]; omega)
                rw [e1 _ (fun e he => by
                  rcases List.mem_append.1 he with he | he
                  · rcases List.mem_append.1 he with he | he
                    · exact hkk e (List.mem_of_mem_take he)
                    · exact hkn' e he
                  · exact hkk e (List.mem_of_mem_drop he)), e1 _ hkk]
                have : ¬ p < lo * l + q * l := by rw [hl0]; omega
                rw [if_neg this]; split <;> rfl
              · obtain ⟨i, j, rfl, hj⟩ := divmod l p (by omega)
                rw [flat_get? l _ (fun e he => by
                  rcases List.mem_append.1 he with he | he
                  · rcases List.mem_append.1 he with he | he
                    · exact hkk e (List.mem_of_mem_take he)
                    · exact hkn' e he
                  · exact hkk e (List.mem_of_mem_drop he)) i j hj, flat_get? l _ hkk i j hj, seg_get _ _ _ (by rw [hds]; omega), hds]
                have e1 : (i * l + j < lo * l) ↔ i < lo := by
                  constructor
                  · intro hlt
                    rcases Nat.lt_or_ge i lo with h' | h'
                    · exact h'
                    · have := Nat.mul_le_mul_right l h'; omega
                  · intro hlt
                    have := Nat.mul_le_mul_right l (show i + 1 ≤ lo from hlt)
                    rw [Nat.add_mul] at this; omega
                have e2 : (i * l + j < lo * l + q * l) ↔ i < lo + q := by
                  rw [← Nat.add_mul]
                  constructor
                  · intro hlt
                    rcases Nat.lt_or_ge i (lo + q) with h' | h'
                    · exact h'
                    · have := Nat.mul_le_mul_right l h'; omega
                  · intro hlt
                    have := Nat.mul_le_mul_right l (show i + 1 ≤ lo + q from hlt)
                    rw [Nat.add_mul] at this; omega
                simp only [e1, e2]
                by_cases h1 : i < lo
                · rw [if_pos h1, if_pos h1]
                · rw [if_neg h1, if_neg h1]
                  by_cases h2 : i < lo + q
                  · rw [if_pos h2, if_pos h2]
                    have h5 := Nat.mul_le_mul_right l (show lo ≤ i from by omega)
                    have h4 : i * l + j - lo * l = (i - lo) * l + j := by
                      rw [Nat.sub_mul]; omega
                    rw [h4, flat_get? l _ hkn' (i - lo) j hj]
                  · rw [if_neg h2, if_neg h2])
          have hst' := run_storeCells_at P b (lo * l) O.ty (us.take (q * l)) 0 xs.toArray w hbl (by rw [hcs]; simp; omega) (fun v hv => hu1 v (List.mem_of_mem_take hv))
          simp only [Nat.add_zero] at hst'
          rw [hst'] at hst
          cases hst
          exact ⟨_, _, hrun, _, _, m, hK, MLe.refl _, fun _ _ => rfl, hw, .imm _ _ (.v _)⟩
    · subst h0
      have h0 : Nat.min new.length 0 = 0 := Nat.min_zero _
      have hz : (Builtin.copy_ #[t, u] ty #[.slice A 0 0, vx]).run P w = .ok (goInt 0) w := by
        rcases hs with ⟨rfl, B, c', rfl⟩ | ⟨ad, c', us, rfl, _⟩
        · exact run_copy_zero (P := P) w t u ty el f A B 0 0 0 c' ht hf rfl
        · exact run_copy_zero (P := P) w t u ty el f A (some ad) 0 0 _ c' ht hf h0
      refine ⟨_, _, hz, _, H, m, ?_, MLe.refl _, fun _ _ => rfl, r, .imm _ _ (.v _)⟩
      rw [hsame h0] at hK
      rw [h0] at hK
      exact hK
  · have hv := rs.v_inv; subst hv
    obtain ⟨new, hK, hkn, hs⟩ := src_sound hk r.rh rx
    have hz : (Builtin.copy_ #[t, u] ty #[.slice none 0 0, vx]).run P w = .ok (goInt 0) w := by
      rcases hs with ⟨rfl, B, c', rfl⟩ | ⟨ad, c', us, rfl, _⟩
      · exact run_copy_zero (P := P) w t u ty el f none B 0 0 0 c' ht hf rfl
      · exact run_copy_zero (P := P) w t u ty el f none (some ad) 0 0 _ c' ht hf (Nat.min_zero _)
    exact ⟨_, _, hz, _, H, m, hK, MLe.refl _, fun _ _ => rfl, r, .imm _ _ (.v _)⟩
  · exact hk.elim
theorem clear_sound (hT : TabOk P T) {t ty : TypeId} {x : D} {K : D → Nat → Hp → Prop} (hz : allOne (zerosOf T t) = true) (hk : clearA T t x n H K) (r : WR w0 W h m n H w) {vx : Value} (rx : RD h m x vx) (id : Nat) :
    ∃ v w', (Builtin.clear_ #[t] ty #[vx]).run P w = .ok v w' ∧ OpR w0 W h m n id K v w' := by
  unfold clearA at hk
  unfold zerosOf at hz
  split at hk
  rotate_left
  · exact hk.elim
  rename_i sz1 by1 z1 el hti
  simp only [hti] at hz
  split at hk
  · exact hk.elim
  rename_i i hei
  simp only [hei] at hz
  have ht := tab_slice hT hti
  obtain ⟨f, z, hf, hfs, hfb, hfz, hzz, _, _, _, hzk⟩ := tab_info hT hei
  split at hk
  rotate_left
  · exact hk.elim
  rename_i id1 k lo len
  obtain ⟨O, hO, hki, hOk, hlen, hK⟩ := hk
  have hnone : len = 0 → updH H id1 (some ⟨O.ty, O.k, O.es.take lo⟩) = H := by
    intro h0
    rw [List.take_of_length_le (by omega)]
    funext j
    by_cases hj : j = id1
    · subst hj; rw [updH_same, hO]
    · rw [updH_ne _ _ hj]
  rcases rx.msl_inv with ⟨b, N, c, hm0, hc, hN, rfl⟩ | ⟨h0, A, rfl⟩
  · by_cases h0 : len = 0
    · refine ⟨.tuple #[], w, ?_, _, H, m, ?_, MLe.refl _, fun _ _ => rfl, r, .imm _ _ (.v _)⟩
      · subst h0; simp [Builtin.clear_, run_underlying ht]
      · rw [hnone h0] at hK; exact hK
    · obtain ⟨xs, hN', hb, hlx, hkk, hcx, hf0⟩ := obj_cells r.rh hO hm0
      subst hN'
      have hzs : z.cells.size = k := by rw [hki]; exact hzk
      have hz1 : ∀ v ∈ z.cells.toList, v.oneCell' = true := by
        intro v hv
        rw [hzz] at hv
        exact allOne_iff hz (.v v) (List.mem_map_of_mem hv)
      have hzl : (Builtin.zeroCells z.cells len).toList.length = len * k := by simp [Builtin.zeroCells, hzs]
      have hv1 : ∀ v ∈ (Builtin.zeroCells z.cells len).toList, v.oneCell' = true := by
        intro v hv
        simp only [Builtin.zeroCells, Array.toList_map, List.mem_map] at hv
        obtain ⟨j, hj, rfl⟩ := hv
        have hj : j < len * z.cells.size := by simpa using hj
        have hpos : 0 < z.cells.size := by
          rcases Nat.eq_zero_or_pos z.cells.size with h | h
          · rw [h] at hj; omega
          · exact h
        have hjm : j % z.cells.size < z.cells.size := Nat.mod_lt _ hpos
        rw [getElem!_pos z.cells _ hjm]
        exact hz1 _ (by rw [Array.mem_toList_iff]; exact Array.getElem_mem hjm)
      have hml := Nat.mul_le_mul_right k (show lo + len ≤ lo + c by omega)
      have hst := run_storeCells_at P b (lo * k) O.ty (Builtin.zeroCells z.cells len).toList 0 xs.toArray w hb (by rw [hzl]; simp; rw [Nat.add_mul] at hml; omega) hv1
      simp only [Nat.add_zero] at hst
      have hyl := seg_len xs (lo * k) (Builtin.zeroCells z.cells len).toList (by rw [hzl]; rw [Nat.add_mul] at hml; omega)
      have htl : (O.es.take lo).length = lo := by rw [List.length_take]; omega
      refine ⟨.tuple #[], _, ?_, _, _, m, hK, MLe.refl _, fun _ _ => rfl, r.write hO hm0 hb hf0 _ hyl rfl ?_ (fun e he => hkk e (List.mem_of_mem_take he)) ?_, .imm _ _ (.v _)⟩
      · obtain ⟨q, rfl⟩ : ∃ q, len = q + 1 := ⟨len - 1, by omega⟩
        simp [Builtin.clear_, run_underlying ht, zeroValue, tab_typeInfo hf, hfz, hst]
      · rw [hyl]
        show (O.es.take lo).length * O.k ≤ xs.length
        rw [htl, hOk]; have := Nat.mul_le_mul_right k (show lo ≤ lo + c by omega); omega
      · intro j d y hd hy
        have hd : (O.es.take lo).flatten[j]? = some d := hd
        have hdl : (O.es.take lo).flatten.length = lo * k := by rw [flat_len _ k (fun e he => by rw [hkk e (List.mem_of_mem_take he), hOk]), htl]
        have hj : j < lo * k := by have := get_lt hd; omega
        have hd' : O.es.flatten[j]? = some d := by
          have e1 : O.es.flatten = (O.es.take lo).flatten ++ (O.es.drop lo).flatten := by rw [← List.flatten_append, List.take_append_drop]
          rw [e1, List.getElem?_append_left (by omega)]; exact hd
        have hjx : j < xs.length := by
          have := Nat.mul_le_mul_right k (show lo ≤ lo + c by omega)
          omega
        have hy' : xs[j]? = some y := by
          rw [List.append_assoc, List.getElem?_append_left (by rw [List.length_take]; omega), List.getElem?_take, if_pos hj] at hy
          exact hy
        exact hcx j d y hd' hy'
  · refine ⟨.tuple #[], w, ?_, _, H, m, ?_, MLe.refl _, fun _ _ => rfl, r, .imm _ _ (.v _)⟩
    · cases A <;> simp [Builtin.clear_, run_underlying ht]
    · rw [hnone h0] at hK; exact hK

theorem conv_sound (hT : TabOk P T) {s t : Nat} {x : D} {K : D → Prop} (hk : convB T s t x H K) (r : RH h m n H w) {vx : Value} (rx : RD h m x vx) :
    ∃ y d, (convert s t vx).run P w = .ok y w ∧ K d ∧ RD h m d y := by
  unfold convB at hk
  split at hk
  · rename_i hs ht
    split at hk
    rotate_left
    · exact hk.elim
    rename_i hel
    have h1 := tab_slice hT hs
    have h2 := tab_str hT ht
    have h3 := tab_int hT hel
    obtain ⟨es, ⟨b, rfl, hK⟩, _, hsr⟩ := src_sound hk r rx
    refine ⟨.string b, _, ?_, hK, .imm _ _ (.v _)⟩
    rcases hsr with ⟨h0, A, c, rfl⟩ | ⟨ad, c, us, rfl, hul, huc, hur, _⟩
    · have hb : b = ⟨#[]⟩ := by
        have h4 : b.data.toList = [] := List.eq_nil_of_length_eq_zero (by have := congrArg List.length h0; simpa [bytesD] using this)
        apply ByteArray.ext
        exact Array.toList_inj.1 h4
      rw [run_convert_bytes_string w s t _ A 0 c h1 h3 h2, hb]
      cases A with
      | none => rfl
      | some a =>
        have := run_bytesToString (P := P) w a 0 c [] (by simp [loadCells, loadCellsFrom])
        exact this
    · have hlen : (bytesD b).length = b.data.toList.length := by simp [bytesD]
      rw [hlen]
      have hfl : (bytesD b).flatten = b.data.toList.map fun q => D.v (.int .u8 q.toNat) := by
        unfold bytesD
        generalize b.data.toList = l
        induction l with
        | nil => rfl
        | cons q l ih => simp only [List.map_cons, List.flatten_cons, ih]; rfl
      refine run_convert_bytes_back w s t _ ad c b.data.toList h1 h3 h2 (fun j hj => ?_)
      have hj2 : j < us.length := by rw [hul, hlen]; omega
      have hu := hur j (.v (.int .u8 (b.data.toList[j].toNat : Int))) us[j] (by rw [hfl, List.getElem?_map, List.getElem?_eq_getElem hj]; rfl) (List.getElem?_eq_getElem hj2)
      rw [huc j us[j] (List.getElem?_eq_getElem hj2), hu.v_inv]
  · unfold convA at hk
    split at hk
    · rename_i k hs ht
      split at hk
      rotate_left
      · exact hk.elim
      have hv := rx.v_inv
      have h1 := tab_int hT hs
      have h2 := tab_int hT ht
      rename_i k2 p
      exact ⟨.int k (wr k p), _, by rw [hv]; simp [convert, run_underlying h1, run_underlying h2, Conv.intToInt, wr_eq], hk, .imm _ _ (.v _)⟩
    · rename_i hs ht
      split at hk
      rotate_left
      · exact hk.elim
      have hv := rx.v_inv
      have h1 := tab_str hT hs
      have h2 := tab_str hT ht
      rename_i p
      exact ⟨.string p, _, by rw [hv]; simp [convert, run_underlying h1, run_underlying h2], hk, .imm _ _ (.v _)⟩
    · exact hk.elim

end
end Bk
