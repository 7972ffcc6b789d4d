/- Appends, copies, makes and slices of slices. -/
import Derived.Test.YtobfdenalhmecaaDoorKe
set_option linter.unusedSimpArgs false
set_option linter.unusedSectionVars false
set_option linter.unusedVariables false
namespace Bk
open Go
variable [Gh]

/-- append(s, x...): elements of type el, k cells, by bytes each -/
def appendA (T : Tab) (t : Nat) (s x : D) (n : Nat) (H : Hp) (id : Nat) (K : D → Nat → Hp → Prop) : Prop :=
  match T.get t with
  | some ⟨_, _, _, .slice el⟩ => match T.get el with
    | none => False
    | some ⟨k, by_, _, _⟩ => match s with
      | .v (.slice none 0 0) => srcA x k H fun new => new.length * by_ ≤ 140737488355328 ∧ new.length ≤ 4611686018427387904 ∧ K (.msl id k 0 new.length) n (updH H id (some ⟨el, k, new⟩))
      | .tsl l es => srcA x k H fun new => l = k ∧ new ≠ [] ∧ (es.length + new.length) * by_ ≤ 140737488355328 ∧ es.length + new.length ≤ 4611686018427387904 ∧ K (.msl id k 0 (es.length + new.length)) n (updH H id (some ⟨el, k, es ++ new⟩))
      | .msl id0 l lo len => srcA x k H fun new => ∃ O, H id0 = some O ∧ l = k ∧ O.k = k ∧ O.ty = el ∧ lo = 0 ∧ len = O.es.length ∧ id0 ≠ id ∧ (len + new.length) * by_ ≤ 140737488355328 ∧ len + new.length ≤ 4611686018427387904 ∧
          K (.msl id k 0 (len + new.length)) n (updH (updH H id0 none) id (some ⟨el, k, O.es ++ new⟩))
      | _ => False
  | _ => False

/-- append(s, x...), x a string -/
def appendS (T : Tab) (t u : Nat) (s x : D) (n : Nat) (H : Hp) (id : Nat) (K : D → Nat → Hp → Prop) : Prop :=
  match T.get t, T.get u with
  | some ⟨_, _, _, .slice el⟩, some ⟨_, _, _, .str⟩ => match T.get el with
    | some ⟨1, 1, _, _⟩ => match x with
      | .v (.string b) => match s with
        | .v (.slice none 0 0) => b.size ≤ 140737488355328 ∧ K (.msl id 1 0 b.size) n (updH H id (some ⟨el, 1, bytesD b⟩))
        | .msl id0 l lo len => ∃ O, H id0 = some O ∧ l = 1 ∧ O.k = 1 ∧ O.ty = el ∧ lo = 0 ∧ len = O.es.length ∧ id0 ≠ id ∧ len + b.size ≤ 140737488355328 ∧ K (.msl id 1 0 (len + b.size)) n (updH (updH H id0 none) id (some ⟨el, 1, O.es ++ bytesD b⟩))
        | _ => False
      | _ => False
    | _ => False
  | _, _ => False

def copyA (T : Tab) (t : Nat) (dst src : D) (n : Nat) (H : Hp) (K : D → Nat → Hp → Prop) : Prop :=
  match T.get t with
  | some ⟨_, _, _, .slice el⟩ => match T.get el with
    | none => False
    | some ⟨k, _, _, _⟩ => match dst with
      | .msl id l lo len => srcA src k H fun new => ∃ O, H id = some O ∧ l = k ∧ O.k = k ∧ lo + len ≤ O.es.length ∧
          K (.v (.int .i64 (Nat.min new.length len : Nat))) n (updH H id (some ⟨O.ty, O.k, O.es.take lo ++ new.take (Nat.min new.length len) ++ O.es.drop (lo + (new.take (Nat.min new.length len)).length)⟩))
      | .v (.slice none 0 0) => srcA src k H fun _ => K (.v (.int .i64 (0 : Nat))) n H
      | _ => False
  | _ => False

/-- clear(s), s an end of what an object is known of: no more is known of that end -/
def clearA (T : Tab) (t : Nat) (x : D) (n : Nat) (H : Hp) (K : D → Nat → Hp → Prop) : Prop :=
  match T.get t with
  | some ⟨_, _, _, .slice el⟩ => match T.get el with
    | none => False
    | some i => match x with
      | .msl id k lo len => ∃ O, H id = some O ∧ k = i.sz ∧ O.k = k ∧ lo + len = O.es.length ∧ K (.v (.tuple #[])) n (updH H id (some ⟨O.ty, O.k, O.es.take lo⟩))
      | _ => False
  | _ => False

section
variable {P : Program} {T : Tab} {w0 w : World} {W : Nat → Prop} {h : FM} {m : BM} {n : Nat} {H : Hp} {e : Env} {a : Act}

/-- what a read slice gives: nothing, or cells that read as its elements -/
def Src (h : FM) (m : BM) (w : World) (k : Nat) (es : List (List D)) (v : Value) : Prop :=
  (∀ e ∈ es, e.length = k) ∧ ((es = [] ∧ ∃ A c, v = .slice A 0 c) ∨ ∃ (ad : Addr) (c : Nat) (us : List Value), v = .slice (some ad) es.length c ∧ us.length = es.length * k ∧ (∀ (j : Nat) u, us[j]? = some u → w.cell? (ad.add j) = some u) ∧
    (∀ (j : Nat) d x, es.flatten[j]? = some d → us[j]? = some x → RD h m d x) ∧ ∀ u ∈ us, u.oneCell' = true)

theorem src_of_imm (r : RH h m n H w) {k b o : Nat} {es : List (List D)} {u : Nat → Value} {c : Nat} (hk : ∀ e ∈ es, e.length = k) (hu : ∀ j, j < es.length * k → h b (o + j) = some (u j) ∧ (u j).oneCell' = true)
    (hr : ∀ (j : Nat) d, es.flatten[j]? = some d → RI h d (u j)) : Src h m w k es (.slice (some ⟨b, o, none⟩) es.length c) := by
  refine ⟨hk, .inr ⟨⟨b, o, none⟩, c, (List.range (es.length * k)).map u, rfl, by simp, fun j x hx => ?_, fun j d x hd hx => ?_, fun x hx => ?_⟩⟩
  · rw [List.getElem?_map] at hx
    by_cases hj : j < es.length * k
    · rw [List.getElem?_range hj] at hx; simp at hx; subst hx
      rw [Addr.add_lit]; exact r.froz _ _ _ (hu j hj).1
    · rw [List.getElem?_eq_none (by simp; omega)] at hx; cases hx
  · have hj := get_lt hd
    rw [flat_len es k hk] at hj
    rw [List.getElem?_map, List.getElem?_range hj] at hx; simp at hx; subst hx
    exact .imm _ _ (hr j d hd)
  · simp only [List.mem_map, List.mem_range] at hx
    obtain ⟨j, hj, rfl⟩ := hx
    exact (hu j hj).2

theorem cut_flat {α : Type} (k : Nat) (es : List (List α)) (hk : ∀ e ∈ es, e.length = k) (lo q : Nat) (j : Nat) (hj : j < q * k) :
    ((es.drop lo).take q).flatten[j]? = es.flatten[lo * k + j]? := by
  have hk0 : 0 < k := by
    rcases Nat.eq_zero_or_pos k with h0 | h0
    · subst h0; omega
    · exact h0
  obtain ⟨i, p, rfl, hp⟩ := divmod k j hk0
  have hi : i < q := by
    rcases Nat.lt_or_ge i q with h' | h'
    · exact h'
    · have := Nat.mul_le_mul_right k h'; omega
  rw [flat_get? k _ (fun e he => hk e (List.mem_of_mem_drop (List.mem_of_mem_take he))) i p hp, List.getElem?_take, if_pos hi, List.getElem?_drop]
  rw [← Nat.add_assoc, ← Nat.add_mul, flat_get? k es hk (lo + i) p hp]

theorem src_sound {k : Nat} {x : D} {v : Value} {K : List (List D) → Prop} (hk : srcA x k H K) (r : RH h m n H w) (rx : RD h m x v) : ∃ es, K es ∧ Src h m w k es v := by
  unfold srcA at hk
  split at hk
  · rename_i l es
    split at hk
    · rename_i hl
      have hl := of_decide_eq_true hl
      subst hl
      refine ⟨es, hk, ?_⟩
      rcases rx.sl_inv with ⟨rfl, A, c, rfl⟩ | ⟨b, o, c, u, rfl, hc, hkk, hu, hr⟩
      · exact ⟨by simp, .inl ⟨rfl, A, c, rfl⟩⟩
      · exact src_of_imm r hkk hu hr
    · exact hk.elim
  · rename_i l es
    split at hk
    · rename_i hl
      have hl := of_decide_eq_true hl
      subst hl
      refine ⟨es, hk, ?_⟩
      rcases rx.tsl_inv with ⟨rfl, A, rfl⟩ | ⟨b, o, u, rfl, hkk, hu, hr⟩
      · exact ⟨by simp, .inl ⟨rfl, A, 0, rfl⟩⟩
      · exact src_of_imm r hkk hu hr
    · exact hk.elim
  · have := rx.v_inv; subst this
    exact ⟨[], hk, by simp, .inl ⟨rfl, none, 0, rfl⟩⟩
  · rename_i id l lo q
    obtain ⟨O, hO, hk', hl, hlen, hK⟩ := hk
    subst hl
    refine ⟨_, hK, ?_⟩
    rcases rx.msl_inv with ⟨b, N, c, hm, hc, hN, rfl⟩ | ⟨h0, A, rfl⟩
    · obtain ⟨xs, hN', hb, hlx, hkk, hcx, hf⟩ := obj_cells r hO hm
      subst hN'
      rw [hk'] at hlx hkk
      have hes : ((O.es.drop lo).take q).length = q := by rw [List.length_take, List.length_drop]; omega
      have hmul : (lo + q) * l ≤ O.es.length * l := Nat.mul_le_mul_right _ hlen
      rw [Nat.add_mul] at hmul
      refine ⟨fun e he => hkk e (List.mem_of_mem_drop (List.mem_of_mem_take he)), .inr ⟨⟨b, lo * l, none⟩, c, (xs.drop (lo * l)).take (q * l), by rw [hes], by rw [hes, List.length_take, List.length_drop]; omega, fun j u hu => ?_, fun j d x hd hx => ?_, fun u hu => ?_⟩⟩
      · rw [List.getElem?_take] at hu
        split at hu
        · rw [List.getElem?_drop] at hu
          rw [Addr.add_lit, cell_iff hb]; exact hu
        · cases hu
      · rw [List.getElem?_take] at hx
        split at hx
        · rename_i hj
          rw [List.getElem?_drop] at hx
          rw [cut_flat l O.es hkk lo q j hj] at hd
          exact (hcx _ d x hd hx).1
        · cases hx
      · obtain ⟨j, hj, rfl⟩ := List.mem_iff_getElem.1 hu
        rw [List.length_take, List.length_drop] at hj
        have hjf : lo * l + j < O.es.flatten.length := by rw [flat_len O.es l hkk]; omega
        have h2 : xs[lo * l + j]? = some (((xs.drop (lo * l)).take (q * l))[j]'(by rw [List.length_take, List.length_drop]; exact hj)) := by
          rw [← List.getElem?_drop, List.getElem_take, ← List.getElem?_eq_getElem]
        exact (hcx _ _ _ (List.getElem?_eq_getElem hjf) h2).2
    · subst h0
      exact ⟨by simp, .inl ⟨by simp, A, 0, rfl⟩⟩
  · exact hk.elim

theorem Src.le {h' : FM} {m' : BM} {k : Nat} {es : List (List D)} {v : Value} (s : Src h m w k es v) (hl : FLe h h') (ml : MLe m m') : Src h' m' w k es v := by
  obtain ⟨hk, hs⟩ := s
  refine ⟨hk, hs.imp id ?_⟩
  rintro ⟨ad, c, us, h1, h2, h3, h4, h5⟩
  exact ⟨ad, c, us, h1, h2, h3, fun j d x hd hx => (h4 j d x hd hx).mono hl ml, h5⟩

theorem run_append_zero (t u ty el : TypeId) (i : TypeInfo) (ht : P.underlying t = some (.slice el)) (hu : P.underlying u = some (.slice el)) (hi : P.info? el = some i) (A B : Option Addr) (s c d : Nat) (hs : s ≤ c) (w : World) :
    (Builtin.append_ #[t, u] ty #[.slice A s c, .slice B 0 d]).run P w = .ok (.slice A s c) w := by
  cases A <;> cases B <;> simp [Builtin.append_, run_underlying ht, run_underlying hu, Go.sizeOf, typeInfo, hi, Builtin.lenOf, Builtin.firstCells, loadCells, loadCellsFrom, hs, storeCells]

/-- append where it must grow, whatever the base -/
theorem run_append_new (t ty el : TypeId) (i : TypeInfo) (z : Value) (ht : P.underlying t = some (.slice el)) (hi : P.info? el = some i) (hz : i.zero = some z)
    (A : Option Addr) (s c : Nat) (olds : List Value) (hlo : olds.length = s * i.size) (hA : A = none → s = 0 ∧ c = 0) (holds : ∀ ad, A = some ad → ∀ (j : Nat) v, olds[j]? = some v → w.cell? (ad.add j) = some v)
    (ad : Addr) (q d : Nat) (news : List Value) (hl : news.length = q * i.size) (hnews : ∀ (j : Nat) v, news[j]? = some v → w.cell? (ad.add j) = some v)
    (hg : c < s + q) (hb : (s + q) * i.bytes ≤ 140737488355328) (h62 : s + q ≤ 4611686018427387904) :
    ∃ (N : Nat) (rest : List Value), s + q ≤ N ∧ rest.length = (N - (s + q)) * z.cells.size ∧ (Builtin.append_ #[t, t] ty #[.slice A s c, .slice (some ad) q d]).run P w =
      .ok (.slice (some ⟨w.heap.size, 0, none⟩) (s + q) N) (w.drew.alloc (.cells (olds ++ news ++ rest).toArray el)) := by
  cases A with
  | none =>
    obtain ⟨rfl, rfl⟩ := hA rfl
    have ho : olds = [] := List.eq_nil_of_length_eq_zero (by simpa using hlo)
    subst ho
    refine ⟨grownCap w q 0 el, (Builtin.zeroCells z.cells (grownCap w q 0 el - q)).toList, by simpa using grownCap_ge w q 0 el, by simp [size_zeroCells], ?_⟩
    have hb' : q * i.bytes ≤ 140737488355328 := by simpa using hb
    rw [run_append_nil (P := P) w t ty el i z ht hi hz ad q d news hl hnews (by omega) (by omega) (by omega)]
    have e1 : news.toArray ++ Builtin.zeroCells z.cells (grownCap w q 0 el - q) = ([] ++ news ++ (Builtin.zeroCells z.cells (grownCap w q 0 el - q)).toList).toArray := by
      apply Array.ext'; simp
    rw [e1]; simp
  | some b =>
    refine ⟨grownCap w (s + q) c el, (Builtin.zeroCells z.cells (grownCap w (s + q) c el - (s + q))).toList, grownCap_ge w _ _ el, by simp [size_zeroCells], ?_⟩
    rw [run_append_grow (P := P) w t ty el i z ht hi hz b s c olds hlo (holds b rfl) ad q d news hl hnews hg (by omega) (growslice_fits (by omega) hb)]
    congr 2
    apply congrArg (fun x => Obj.cells x el (0, 0))
    apply Array.ext'
    simp

/-- the new row of an append -/
theorem grow_sound (r : WR w0 W h m n H w) {id : Nat} (hid : id < n) (hm : m id = none) (el k : Nat) (es : List (List D)) (hk : ∀ e ∈ es, e.length = k) (us rest : List Value) (hl : us.length = es.length * k)
    (hr : ∀ (j : Nat) d x, es.flatten[j]? = some d → us[j]? = some x → RD h m d x) (h1 : ∀ u ∈ us, u.oneCell' = true) :
    WR w0 W h (updM m id (w.heap.size, (us ++ rest).length)) n (updH H id (some ⟨el, k, es⟩)) (w.drew.alloc (.cells (us ++ rest).toArray el)) := by
  have := (r.drew).alloc hid hm ⟨el, k, es⟩ (us ++ rest) (by simp [hl]) hk (fun j d x hd hx => ?_)
  · exact this
  · have hj := get_lt hd
    rw [flat_len es k hk] at hj
    rw [List.getElem?_append_left (by omega)] at hx
    exact ⟨hr j d x hd hx, h1 x (List.mem_of_getElem? hx)⟩

theorem flat_app {es fs : List (List D)} {us vs : List Value} {k : Nat} (hl : us.length = es.length * k) (hke : ∀ e ∈ es, e.length = k)
    (h1 : ∀ (j : Nat) d x, es.flatten[j]? = some d → us[j]? = some x → RD h m d x) (h2 : ∀ (j : Nat) d x, fs.flatten[j]? = some d → vs[j]? = some x → RD h m d x) :
    ∀ (j : Nat) d x, (es ++ fs).flatten[j]? = some d → (us ++ vs)[j]? = some x → RD h m d x := by
  intro j d x hd hx
  have hfl := flat_len es k hke
  rw [List.flatten_append] at hd
  by_cases hj : j < es.length * k
  · rw [List.getElem?_append_left (by omega)] at hd hx
    exact h1 j d x hd hx
  · rw [List.getElem?_append_right (by omega)] at hd hx
    rw [hfl] at hd; rw [hl] at hx
    exact h2 _ d x hd hx

/-- one object gets another name -/
theorem WR.rename (r : WR w0 W h m n H w) {id0 id : Nat} {O : AObj} (hO : H id0 = some O) {b N : Nat} (hm0 : m id0 = some (b, N)) (hid : id < n) (hm : m id = none) :
    WR w0 W h (updM m id (b, N)) n (updH (updH H id0 none) id (some O)) w := by
  have hle := updM_le (b, N) hm
  have hne : id0 ≠ id := by rintro rfl; rw [hm] at hm0; cases hm0
  have look : ∀ i O1, updH (updH H id0 none) id (some O) i = some O1 → (i = id ∧ O1 = O) ∨ (i ≠ id ∧ i ≠ id0 ∧ H i = some O1) := by
    intro i O1 h1
    by_cases e1 : i = id
    · subst e1; rw [updH_same] at h1; cases h1; exact .inl ⟨rfl, rfl⟩
    · rw [updH_ne _ _ e1] at h1
      by_cases e2 : i = id0
      · subst e2; rw [updH_same] at h1; cases h1
      · rw [updH_ne _ _ e2] at h1; exact .inr ⟨e1, e2, h1⟩
  have lm : ∀ i, i ≠ id → updM m id (b, N) i = m i := fun i hi => by unfold updM; rw [if_neg hi]
  have lms : updM m id (b, N) id = some (b, N) := by unfold updM; rw [if_pos rfl]
  refine ⟨⟨r.rh.froz, fun i hi => ?_, fun i O1 h1 => ?_, ?_⟩, r.fr, fun i O1 b' N' h1 h2 => ?_⟩
  · have e1 : i ≠ id := by omega
    rw [lm i e1, updH_ne _ _ e1]
    refine ⟨(r.rh.far i hi).1, ?_⟩
    by_cases e2 : i = id0
    · subst e2; exact updH_same _ _ _
    · rw [updH_ne _ _ e2]; exact (r.rh.far i hi).2
  · rcases look i O1 h1 with ⟨rfl, rfl⟩ | ⟨e1, e2, h1⟩
    · obtain ⟨xs, hN, hb, hlen, hk, hc, hf⟩ := obj_cells r.rh hO hm0
      subst hN
      exact .inr ⟨b, xs, lms, hb, hlen, hk, fun j d x hd hx => ⟨(hc j d x hd hx).1.mono (FLe.refl _) hle, (hc j d x hd hx).2⟩, hf⟩
    · rw [lm i e1]
      rcases r.rh.obj i O1 h1 with h3 | ⟨b', ys, h3, h4, h5, h6, h7, h8⟩
      · exact .inl h3
      · exact .inr ⟨b', ys, h3, h4, h5, h6, fun j d x hd hx => ⟨(h7 j d x hd hx).1.mono (FLe.refl _) hle, (h7 j d x hd hx).2⟩, h8⟩
  · intro i i' O1 O2 b1 N1 N2 h1 h2 h3 h4
    rcases look i O1 h1 with ⟨p1, p2⟩ | ⟨e1, e2, g1⟩
    · rcases look i' O2 h2 with ⟨q1, q2⟩ | ⟨e3, e4, g2⟩
      · rw [p1, q1]
      · rw [p1, lms] at h3; rw [lm i' e3] at h4; cases h3
        exact absurd (r.rh.inj _ _ _ _ _ _ _ hO g2 hm0 h4).symm e4
    · rw [lm i e1] at h3
      rcases look i' O2 h2 with ⟨q1, q2⟩ | ⟨e3, e4, g2⟩
      · rw [q1, lms] at h4; cases h4
        exact absurd (r.rh.inj _ _ _ _ _ _ _ g1 hO h3 hm0) e2
      · rw [lm i' e3] at h4
        exact r.rh.inj _ _ _ _ _ _ _ g1 g2 h3 h4
  · rcases look i O1 h1 with ⟨rfl, rfl⟩ | ⟨e1, e2, h1⟩
    · rw [lms] at h2; cases h2; exact r.wb id0 _ _ _ hO hm0
    · rw [lm i e1] at h2; exact r.wb i O1 b' N' h1 h2
end
end Bk
