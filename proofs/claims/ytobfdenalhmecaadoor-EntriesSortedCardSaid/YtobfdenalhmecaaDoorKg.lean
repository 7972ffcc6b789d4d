/- append and copy, whole. -/
import Derived.Test.YtobfdenalhmecaaDoorKf
import Derived.Lib.AppendStr
set_option linter.unusedSimpArgs false
set_option linter.unusedSectionVars false
set_option linter.unusedVariables false
namespace Bk
open Go
variable [Gh]

section
variable {P : Program} {T : Tab} {w0 w : World} {W : Nat → Prop} {h : FM} {m : BM} {n : Nat} {H : Hp} {e : Env} {a : Act}

/-- what an operation leaves -/
def OpR (w0 : World) (W : Nat → Prop) (h : FM) (m : BM) (n id : Nat) (K : D → Nat → Hp → Prop) (v : Value) (w' : World) : Prop :=
  ∃ d H' m', K d n H' ∧ MLe m m' ∧ (∀ j, j ≠ id → m' j = m j) ∧ WR w0 W h m' n H' w' ∧ RD h m' d v

theorem updM_ne {m : BM} {i j : Nat} (y : Nat × Nat) (hne : j ≠ i) : updM m i y j = m j := by unfold updM; rw [if_neg hne]
theorem updM_same {m : BM} {i : Nat} (y : Nat × Nat) : updM m i y i = some y := by unfold updM; rw [if_pos rfl]

theorem append_new_sound {t ty el : TypeId} {f : TypeInfo} {z : Value} {k by_ : Nat} (ht : P.underlying t = some (.slice el)) (hf : P.info? el = some f) (hz : f.zero = some z) (hsz : f.size = k) (hby : f.bytes = by_) (hzz : z.cells.size = k)
    (r : WR w0 W h m n H w) {id : Nat} (hid : id < n) (hm : m id = none) {olds : List (List D)} {A : Option Addr} {c : Nat} (hke : ∀ e ∈ olds, e.length = k)
    (us : List Value) (hul : us.length = olds.length * k) (hA : A = none → olds = [] ∧ c = 0) (hcell : ∀ ad, A = some ad → ∀ (j : Nat) v, us[j]? = some v → w.cell? (ad.add j) = some v)
    (hr : ∀ (j : Nat) d x, olds.flatten[j]? = some d → us[j]? = some x → RD h m d x) (h1 : ∀ u ∈ us, u.oneCell' = true)
    {new : List (List D)} {vx : Value} (hs : Src h m w k new vx) (hne : new ≠ []) (hgrow : c < olds.length + new.length) (hb : (olds.length + new.length) * by_ ≤ 140737488355328) (h62 : olds.length + new.length ≤ 4611686018427387904)
    {K : D → Nat → Hp → Prop} (hK : K (.msl id k 0 (olds.length + new.length)) n (updH H id (some ⟨el, k, olds ++ new⟩))) :
    ∃ v w', (Builtin.append_ #[t, t] ty #[.slice A olds.length c, vx]).run P w = .ok v w' ∧ OpR w0 W h m n id K v w' := by
  obtain ⟨hkn, hs | ⟨ad, d, vs, rfl, hvl, hvc, hvr, hv1⟩⟩ := hs
  · exact absurd hs.1 hne
  subst hsz; subst hby
  obtain ⟨N, rest, hN, hrl, hrun⟩ := run_append_new (P := P) (w := w) t ty el f z ht hf hz A olds.length c us hul (fun e => by have := hA e; rw [this.1]; exact ⟨rfl, this.2⟩) hcell ad new.length d vs hvl hvc hgrow hb h62
  refine ⟨_, _, hrun, _, _, updM m id (w.heap.size, (us ++ vs ++ rest).length), hK, updM_le _ hm, fun j hj => updM_ne _ hj, ?_, ?_⟩
  · exact grow_sound r hid hm el f.size (olds ++ new) (fun e he => by rcases List.mem_append.1 he with h' | h'; exact hke e h'; exact hkn e h') (us ++ vs) rest (by simp [hul, hvl, Nat.add_mul]) (flat_app hul hke hr hvr)
      (fun u hu => by rcases List.mem_append.1 hu with h' | h'; exact h1 u h'; exact hv1 u h')
  · have hlen : (us ++ vs ++ rest).length = N * f.size := by
      simp only [List.length_append, hul, hvl, hrl, hzz]
      rw [← Nat.add_mul, ← Nat.add_mul]; congr 1; omega
    have := RD.msl (h := h) (m := updM m id (w.heap.size, (us ++ vs ++ rest).length)) id f.size 0 (olds.length + new.length) w.heap.size _ N (updM_same _) hN (by rw [hlen]; simp)
    simpa using this

theorem append_sound (hT : TabOk P T) {t ty : TypeId} {s x : D} {id : Nat} {K : D → Nat → Hp → Prop} (hk : appendA T t s x n H id K) (r : WR w0 W h m n H w) (hid : id < n) (hm : m id = none) {vs vx : Value}
    (rs : RD h m s vs) (rx : RD h m x vx) : ∃ v w', (Builtin.append_ #[t, t] ty #[vs, vx]).run P w = .ok v w' ∧ OpR w0 W h m n id K v w' := by
  unfold appendA at hk
  split at hk
  rotate_left
  · exact hk.elim
  rename_i sz1 by1 z1 el hti
  split at hk
  · exact hk.elim
  rename_i k by_ z2 kd hei
  obtain ⟨_, _, _, _, _, _, _, hkt, _⟩ := tab_info hT hti
  obtain ⟨f, z, hf, hfs, hfb, hfz, _, _, _, _, hzk⟩ := tab_info hT hei
  have ht := kind_slice hkt
  simp only at hfs hfb hzk
  split at hk
  · -- nil
    have := rs.v_inv; subst this
    obtain ⟨new, ⟨hb, h62, hK⟩, hs⟩ := src_sound hk r.rh rx
    by_cases hne : new = []
    · subst hne
      obtain ⟨_, ⟨_, A, c, rfl⟩ | ⟨ad, c, us, rfl, _⟩⟩ := hs
      · exact ⟨_, _, run_append_zero t t ty el f ht ht hf none A 0 0 c (Nat.le_refl _) w, _, _, m, hK, MLe.refl _, fun _ _ => rfl, r.void hid hm _ rfl, .mslE _ _ _ _⟩
      · exact ⟨_, _, run_append_zero t t ty el f ht ht hf none (some ad) 0 0 c (Nat.le_refl _) w, _, _, m, hK, MLe.refl _, fun _ _ => rfl, r.void hid hm _ rfl, .mslE _ _ _ _⟩
    · have hp : 0 < new.length := List.length_pos_iff.2 hne
      have := append_new_sound (ty := ty) (A := none) (c := 0) ht hf hfz hfs hfb hzk r hid hm (olds := []) (by simp) [] (by simp) (fun _ => ⟨rfl, rfl⟩) (by simp) (by simp) (by simp) hs hne (by simp; omega) (by simpa using hb) (by simpa using h62) (K := K) (by simpa using hK)
      simpa using this
  · -- tight
    rename_i l es
    obtain ⟨new, ⟨hl, hne, hb, h62, hK⟩, hs⟩ := src_sound hk r.rh rx
    subst hl
    have hp : 0 < new.length := List.length_pos_iff.2 hne
    rcases rs.tsl_inv with ⟨rfl, A, rfl⟩ | ⟨b, o, u, rfl, hkk, hu, hr⟩
    · exact append_new_sound (ty := ty) (A := A) (c := 0) ht hf hfz hfs hfb hzk r hid hm (olds := []) (by simp) [] (by simp) (fun _ => ⟨rfl, rfl⟩) (by simp) (by simp) (by simp) hs hne (by simp; omega) hb h62 (K := K) hK
    · obtain ⟨_, h' | ⟨ad, c', us, h1, h2, h3, h4, h5⟩⟩ := src_of_imm (m := m) (c := es.length) r.rh hkk hu hr
      · obtain ⟨rfl, A, c, hA⟩ := h'
        exact append_new_sound (ty := ty) (A := some ⟨b, o, none⟩) (c := 0) ht hf hfz hfs hfb hzk r hid hm (olds := []) (by simp) [] (by simp) (fun _ => ⟨rfl, rfl⟩) (by simp) (by simp) (by simp) hs hne (by simp; omega) hb h62 (K := K) hK
      · cases h1
        exact append_new_sound (ty := ty) (A := some ⟨b, o, none⟩) (c := es.length) ht hf hfz hfs hfb hzk r hid hm (olds := es) hkk us h2 (fun e => by cases e) (fun ad had => by cases had; exact h3) h4 h5 hs hne (by omega) hb h62 (K := K) hK
  · -- the walk's own
    rename_i id0 l lo len
    obtain ⟨new, ⟨O, hO, hl, hOk, hOt, hlo, hlen, hne0, hb, h62, hK⟩, hs⟩ := src_sound hk r.rh rx
    subst hl; subst hlo
    rcases rs.msl_inv with ⟨b, N, c, hm0, hc, hN, rfl⟩ | ⟨h0, A, rfl⟩
    · obtain ⟨xs, hN', hbl, hlx, hkk, hcx, hfz0⟩ := obj_cells r.rh hO hm0
      subst hN'
      rw [hOk] at hlx hkk
      simp only [Nat.zero_add] at hN
      have hren := r.rename hO hm0 hid hm
      have hle := updM_le (b, xs.length) hm
      have hus : (xs.take (O.es.length * l)).length = O.es.length * l := by rw [List.length_take]; omega
      have husr : ∀ (j : Nat) d x, O.es.flatten[j]? = some d → (xs.take (O.es.length * l))[j]? = some x → RD h m d x := by
        intro j d x hd hx
        rw [List.getElem?_take] at hx
        split at hx
        · exact (hcx j d x hd hx).1
        · cases hx
      have hus1 : ∀ u ∈ xs.take (O.es.length * l), u.oneCell' = true := by
        intro u hu
        obtain ⟨j, hj, rfl⟩ := List.mem_iff_getElem.1 hu
        have hj' : j < O.es.flatten.length := by rw [flat_len O.es l hkk]; omega
        have hx : xs[j]? = some ((xs.take (O.es.length * l))[j]) := by rw [List.getElem_take, ← List.getElem?_eq_getElem]
        exact (hcx j _ _ (List.getElem?_eq_getElem hj') hx).2
      have husc : ∀ (j : Nat) v, (xs.take (O.es.length * l))[j]? = some v → w.cell? ((⟨b, 0 * l, none⟩ : Addr).add j) = some v := by
        intro j v hv
        rw [List.getElem?_take] at hv
        split at hv
        · rw [Addr.add_lit, cell_iff hbl]; simpa using hv
        · cases hv
      by_cases hne : new = []
      · subst hne
        have hrz : (Builtin.append_ #[t, t] ty #[.slice (some ⟨b, 0 * l, none⟩) len c, vx]).run P w = .ok (.slice (some ⟨b, 0 * l, none⟩) len c) w := by
          obtain ⟨_, ⟨_, A, c', rfl⟩ | ⟨ad, c', us, rfl, _⟩⟩ := hs
          · exact run_append_zero t t ty el f ht ht hf _ A len c c' hc w
          · exact run_append_zero t t ty el f ht ht hf _ (some ad) len c c' hc w
        refine ⟨_, _, hrz, _, _, updM m id (b, xs.length), hK, hle, fun j hj => updM_ne _ hj, ?_, .msl id l 0 (len + 0) b xs.length c (updM_same _) (by omega) (by simpa using hN)⟩
        have : (⟨el, l, O.es ++ []⟩ : AObj) = O := by cases O; simp at hOk hOt ⊢; exact ⟨hOt.symm, hOk.symm⟩
        rw [this]; exact hren
      · by_cases hfit : len + new.length ≤ c
        · obtain ⟨hkn, hs | ⟨ad, d, us, rfl, hul, huc, hur, hu1⟩⟩ := hs
          · exact absurd hs.1 hne
          have hcap : (len + new.length) * l ≤ xs.length := Nat.le_trans (Nat.mul_le_mul_right _ hfit) hN
          rw [Nat.add_mul] at hcap
          have hrun := run_append_room (P := P) w t ty el f ht hf b len c xs.toArray (by rw [← hOt]; exact hbl) ad new.length d us (by rw [hfs]; exact hul) huc hu1 hfit (by rw [hfs]; simp; omega)
          rw [hfs] at hrun
          simp only [Nat.zero_mul] at hrun ⊢
          refine ⟨_, _, hrun, _, _, updM m id (b, xs.length), hK, hle, fun j hj => updM_ne _ hj, ?_, ?_⟩
          · have hO' : updH (updH H id0 none) id (some O) id = some O := updH_same _ _ _
            have hlen' : (xs.take (len * l) ++ us ++ xs.drop (len * l + us.length)).length = xs.length := seg_len xs (len * l) us (by omega)
            have := hren.write hO' (updM_same _) hbl hfz0 (xs.take (len * l) ++ us ++ xs.drop (len * l + us.length)) hlen' (O' := ⟨el, l, O.es ++ new⟩) hOt.symm
              (by rw [hlen']; simp only [List.length_append]; rw [Nat.add_mul]; rw [hlen] at hcap; exact hcap)
              (fun e he => by rcases List.mem_append.1 he with h' | h'; exact hkk e h'; exact hkn e h') ?_
            · have e2 : updH (updH (updH H id0 none) id (some O)) id (some ⟨el, l, O.es ++ new⟩) = updH (updH H id0 none) id (some ⟨el, l, O.es ++ new⟩) := by
                funext j
                by_cases hj : j = id
                · subst hj; rw [updH_same, updH_same]
                · rw [updH_ne _ _ hj, updH_ne _ _ hj, updH_ne _ _ hj]
              rw [e2] at this; exact this
            · intro j d' x' hd' hx'
              rw [seg_get xs (len * l) us (by omega) j] at hx'
              have hfl := flat_len O.es l hkk
              rw [List.flatten_append] at hd'
              by_cases hj : j < len * l
              · rw [if_pos hj] at hx'
                rw [List.getElem?_append_left (by rw [hfl, ← hlen]; exact hj)] at hd'
                exact ⟨((hcx j d' x' hd' hx').1).mono (FLe.refl _) hle, (hcx j d' x' hd' hx').2⟩
              · rw [if_neg hj] at hx'
                rw [List.getElem?_append_right (by rw [hfl, ← hlen]; omega), hfl, ← hlen] at hd'
                have hj2 := get_lt hd'
                rw [flat_len new l hkn] at hj2
                rw [if_pos (by omega)] at hx'
                exact ⟨(hur _ d' x' hd' hx').mono (FLe.refl _) hle, hu1 x' (List.mem_of_getElem? hx')⟩
          · have := RD.msl (h := h) (m := updM m id (b, xs.length)) id l 0 (len + new.length) b xs.length c (updM_same _) hfit (by simpa using hN)
            simpa using this
        · have := append_new_sound (ty := ty) (A := some ⟨b, 0 * l, none⟩) (c := c) ht hf hfz hfs hfb hzk (r.kill id0) hid hm (olds := O.es) hkk (xs.take (O.es.length * l)) hus (fun e => by cases e) (fun ad had => by cases had; exact husc) husr hus1
            hs hne (by omega) (by rw [← hlen]; exact hb) (by rw [← hlen]; exact h62) (K := K) (by rw [← hlen]; exact hK)
          rw [← hlen] at this; exact this
    · subst h0
      have hes : O.es = [] := List.eq_nil_of_length_eq_zero hlen.symm
      by_cases hne : new = []
      · subst hne
        have hrz : (Builtin.append_ #[t, t] ty #[.slice A 0 0, vx]).run P w = .ok (.slice A 0 0) w := by
          obtain ⟨_, ⟨_, B, c', rfl⟩ | ⟨ad, c', us, rfl, _⟩⟩ := hs
          · exact run_append_zero t t ty el f ht ht hf _ B 0 0 c' (Nat.le_refl _) w
          · exact run_append_zero t t ty el f ht ht hf _ (some ad) 0 0 c' (Nat.le_refl _) w
        exact ⟨_, _, hrz, _, _, m, hK, MLe.refl _, fun _ _ => rfl, (r.kill id0).void hid hm _ (by simp [hes]), .mslE _ _ _ _⟩
      · have := append_new_sound (ty := ty) (A := A) (c := 0) ht hf hfz hfs hfb hzk (r.kill id0) hid hm (olds := []) (by simp) [] (by simp) (fun _ => ⟨rfl, rfl⟩) (by simp) (by simp) (by simp) hs hne (by simp; exact List.length_pos_iff.2 hne) (by simpa using hb) (by simpa using h62) (K := K) (by rw [hes] at hK; simpa using hK)
        simpa using this
  · exact hk.elim

/-! ### append of a string -/
theorem bytesD_len (b : ByteArray) : (bytesD b).length = b.size := by rw [bytesD, List.length_map]; rfl
theorem bytesD_k (b : ByteArray) : ∀ e ∈ bytesD b, e.length = 1 := by
  intro e he
  obtain ⟨x, _, rfl⟩ := List.mem_map.1 he
  rfl
theorem bytesD_flat (b : ByteArray) : (bytesD b).flatten = (Lib.strCells b).map D.v := by
  unfold bytesD Lib.strCells
  induction b.data.toList with
  | nil => rfl
  | cons x l ih => simp only [List.map_cons, List.flatten_cons, ih]; rfl
theorem bytesD_rel (b : ByteArray) : ∀ (j : Nat) d x, (bytesD b).flatten[j]? = some d → (Lib.strCells b)[j]? = some x → RD h m d x := by
  intro j d x hd hx
  rw [bytesD_flat, List.getElem?_map, hx] at hd
  simp only [Option.map_some, Option.some.injEq] at hd
  subst hd; exact .imm _ _ (.v _)

theorem run_append_zeroS (t u ty el : TypeId) (f : TypeInfo) (ht : P.underlying t = some (.slice el)) (hu : P.underlying u = some .string) (hf : P.info? el = some f) (A : Option Addr) (s c : Nat) (hs : s ≤ c) (b : ByteArray) (hb : b.size = 0) :
    (Builtin.append_ #[t, u] ty #[.slice A s c, .string b]).run P w = .ok (.slice A s c) w := by
  have hf' := Lib.run_firstCells_string (P := P) w f.size b
  rw [hb] at hf'
  have e : Lib.strCells b = [] := List.eq_nil_of_length_eq_zero (by rw [Lib.strCells_length, hb])
  rw [e] at hf'
  cases A <;> simp [Builtin.append_, run_underlying ht, run_underlying hu, Go.sizeOf, typeInfo, hf, Builtin.lenOf, hb, hf', hs, storeCells]

theorem appendS_sound (hT : TabOk P T) {t u ty : TypeId} {s x : D} {id : Nat} {K : D → Nat → Hp → Prop} (hk : appendS T t u s x n H id K) (r : WR w0 W h m n H w) (hid : id < n) (hm : m id = none) {vs vx : Value}
    (rs : RD h m s vs) (rx : RD h m x vx) : ∃ v w', (Builtin.append_ #[t, u] ty #[vs, vx]).run P w = .ok v w' ∧ OpR w0 W h m n id K v w' := by
  unfold appendS at hk
  split at hk
  rotate_left
  · exact hk.elim
  rename_i sz1 by1 z1 el sz3 by3 z3 hti hui
  split at hk
  rotate_left
  · exact hk.elim
  rename_i z2 kd hei
  split at hk
  rotate_left
  · exact hk.elim
  rename_i b
  obtain ⟨_, _, _, _, _, _, _, hkt, _⟩ := tab_info hT hti
  obtain ⟨_, _, _, _, _, _, _, hku, _⟩ := tab_info hT hui
  obtain ⟨f, z, hf, hfs, hfb, hfz, _, _, _, _, hzk⟩ := tab_info hT hei
  have ht := kind_slice hkt
  have hu := kind_str hku
  simp only at hfs hfb hzk
  have := rx.v_inv; subst this
  have hsl := Lib.strCells_length b
  -- where it must grow
  have grow : ∀ (A : Option Addr) (c : Nat) (olds : List (List D)) (us : List Value), (∀ e ∈ olds, e.length = 1) → us.length = olds.length → (A = none → olds = [] ∧ c = 0) → (∀ ad, A = some ad → ∀ (j : Nat) v, us[j]? = some v → w.cell? (ad.add j) = some v) →
      (∀ (j : Nat) d x, olds.flatten[j]? = some d → us[j]? = some x → RD h m d x) → (∀ u ∈ us, u.oneCell' = true) → c < olds.length + b.size → olds.length + b.size ≤ 140737488355328 → ∀ (H1 : Hp), WR w0 W h m n H1 w →
      K (.msl id 1 0 (olds.length + b.size)) n (updH H1 id (some ⟨el, 1, olds ++ bytesD b⟩)) → ∃ v w', (Builtin.append_ #[t, u] ty #[.slice A olds.length c, .string b]).run P w = .ok v w' ∧ OpR w0 W h m n id K v w' := by
    intro A c olds us hke hul hA hcell hr h1 hgrow hb H1 r1 hK
    have run : ∃ (N : Nat) (rest : List Value), olds.length + b.size ≤ N ∧ rest.length = N - (olds.length + b.size) ∧ (Builtin.append_ #[t, u] ty #[.slice A olds.length c, .string b]).run P w =
        .ok (.slice (some ⟨w.heap.size, 0, none⟩) (olds.length + b.size) N) (w.drew.alloc (.cells (us ++ Lib.strCells b ++ rest).toArray el)) := by
      cases A with
      | none =>
        obtain ⟨rfl, rfl⟩ := hA rfl
        have ho : us = [] := List.eq_nil_of_length_eq_zero (by simpa using hul)
        subst ho
        refine ⟨grownCap w b.size 0 el, (Builtin.zeroCells z.cells (grownCap w b.size 0 el - b.size)).toList, by simpa using grownCap_ge w b.size 0 el, by simp [size_zeroCells, hzk], ?_⟩
        have := run_append_nil_string (P := P) w t u ty el f z ht hu hf hfz b (by simpa using hgrow) (by simp at hb; omega) (by rw [hfb]; simp at hb; omega)
        simp only [List.length_nil, Nat.zero_add]
        rw [this]
        congr 2
        apply congrArg (fun x => Obj.cells x el (0, 0))
        apply Array.ext'
        simp [Lib.strCells]
      | some ad =>
        refine ⟨grownCap w (olds.length + b.size) c el, (Builtin.zeroCells z.cells (grownCap w (olds.length + b.size) c el - (olds.length + b.size))).toList, grownCap_ge w _ _ el, by simp [size_zeroCells, hzk], ?_⟩
        rw [Lib.run_append_grow_string (P := P) w t u ty el f z ht hu hf hfz ad olds.length c us (by rw [hfs, Nat.mul_one]; exact hul) (hcell ad rfl) b hgrow (by omega) (growslice_fits (by omega) (by rw [hfb, Nat.mul_one]; exact hb))]
        congr 2
        apply congrArg (fun x => Obj.cells x el (0, 0))
        apply Array.ext'
        simp
    obtain ⟨N, rest, hN, hrl, hrun⟩ := run
    refine ⟨_, _, hrun, _, _, updM m id (w.heap.size, (us ++ Lib.strCells b ++ rest).length), hK, updM_le _ hm, fun j hj => updM_ne _ hj, ?_, ?_⟩
    · exact grow_sound r1 hid hm el 1 (olds ++ bytesD b) (fun e he => by rcases List.mem_append.1 he with h' | h'; exact hke e h'; exact bytesD_k b e h') (us ++ Lib.strCells b) rest (by simp [hul, hsl, bytesD_len]) (flat_app (k := 1) (by rw [Nat.mul_one]; exact hul) hke hr (bytesD_rel b))
        (fun u hu => by rcases List.mem_append.1 hu with h' | h'; exact h1 u h'; exact Lib.strCells_oneCell b u h')
    · have hlen : (us ++ Lib.strCells b ++ rest).length = N := by
        simp only [List.length_append, hul, hsl, hrl]; omega
      have := RD.msl (h := h) (m := updM m id (w.heap.size, (us ++ Lib.strCells b ++ rest).length)) id 1 0 (olds.length + b.size) w.heap.size _ N (updM_same _) hN (by rw [hlen]; simp)
      simpa using this
  split at hk
  · have := rs.v_inv; subst this
    obtain ⟨hb, hK⟩ := hk
    by_cases h0 : b.size = 0
    · have e : bytesD b = [] := List.eq_nil_of_length_eq_zero (by rw [bytesD_len, h0])
      rw [h0, e] at hK
      exact ⟨_, _, run_append_zeroS t u ty el f ht hu hf none 0 0 (Nat.le_refl _) b h0, _, _, m, hK, MLe.refl _, fun _ _ => rfl, r.void hid hm _ rfl, .mslE _ _ _ _⟩
    · have := grow none 0 [] [] (by simp) rfl (fun _ => ⟨rfl, rfl⟩) (by simp) (by simp) (by simp) (by simp; omega) (by simpa using hb) H r (by simpa using hK)
      simpa using this
  · rename_i id0 l lo len
    obtain ⟨O, hO, hl, hOk, hOt, hlo, hlen, hne0, hb, hK⟩ := hk
    subst hl; subst hlo
    rcases rs.msl_inv with ⟨bk, N, c, hm0, hc, hN, rfl⟩ | ⟨h0, A, rfl⟩
    · obtain ⟨xs, hN', hbl, hlx, hkk, hcx, hfz0⟩ := obj_cells r.rh hO hm0
      subst hN'
      rw [hOk] at hlx hkk
      simp only [Nat.zero_add, Nat.mul_one] at hN hlx
      have hren := r.rename hO hm0 hid hm
      have hle := updM_le (bk, xs.length) hm
      by_cases hfit : len + b.size ≤ c
      · have hrun := Lib.run_append_room_string (P := P) w t u ty el f ht hu hf hfs bk len c xs.toArray (by rw [← hOt]; exact hbl) b hfit (by simp; omega)
        simp only [Nat.zero_mul] at hrun ⊢
        refine ⟨_, _, hrun, _, _, updM m id (bk, xs.length), hK, hle, fun j hj => updM_ne _ hj, ?_, ?_⟩
        · have hO' : updH (updH H id0 none) id (some O) id = some O := updH_same _ _ _
          have hlen' : (xs.take len ++ Lib.strCells b ++ xs.drop (len + b.size)).length = xs.length := by
            have := seg_len xs len (Lib.strCells b) (by omega)
            rw [hsl] at this; exact this
          have hget := seg_get xs len (Lib.strCells b) (by omega)
          rw [hsl] at hget
          have := hren.write hO' (updM_same _) hbl hfz0 (xs.take len ++ Lib.strCells b ++ xs.drop (len + b.size)) hlen' (O' := ⟨el, 1, O.es ++ bytesD b⟩) hOt.symm
            (by rw [hlen']; simp only [List.length_append, bytesD_len, Nat.mul_one]; omega)
            (fun e he => by rcases List.mem_append.1 he with h' | h'; exact hkk e h'; exact bytesD_k b e h') ?_
          · have e2 : updH (updH (updH H id0 none) id (some O)) id (some ⟨el, 1, O.es ++ bytesD b⟩) = updH (updH H id0 none) id (some ⟨el, 1, O.es ++ bytesD b⟩) := by
              funext j
              by_cases hj : j = id
              · subst hj; rw [updH_same, updH_same]
              · rw [updH_ne _ _ hj, updH_ne _ _ hj, updH_ne _ _ hj]
            rw [e2] at this; exact this
          · intro j d' x' hd' hx'
            rw [hget j] at hx'
            have hfl := flat_len O.es 1 hkk
            rw [Nat.mul_one] at hfl
            rw [List.flatten_append] at hd'
            by_cases hj : j < len
            · rw [if_pos hj] at hx'
              rw [List.getElem?_append_left (by rw [hfl, ← hlen]; exact hj)] at hd'
              exact ⟨((hcx j d' x' hd' hx').1).mono (FLe.refl _) hle, (hcx j d' x' hd' hx').2⟩
            · rw [if_neg hj] at hx'
              rw [List.getElem?_append_right (by rw [hfl, ← hlen]; omega), hfl, ← hlen] at hd'
              have hj2 := get_lt hd'
              rw [flat_len (bytesD b) 1 (bytesD_k b), bytesD_len] at hj2
              rw [if_pos (by omega)] at hx'
              exact ⟨bytesD_rel b _ d' x' hd' hx', Lib.strCells_oneCell b x' (List.mem_of_getElem? hx')⟩
        · have := RD.msl (h := h) (m := updM m id (bk, xs.length)) id 1 0 (len + b.size) bk xs.length c (updM_same _) hfit (by simpa using hN)
          simpa using this
      · have hus : (xs.take O.es.length).length = O.es.length := by rw [List.length_take]; omega
        have := grow (some ⟨bk, 0 * 1, none⟩) c O.es (xs.take O.es.length) hkk hus (fun e => by cases e) (fun ad had => by
            cases had
            intro j v hv
            rw [List.getElem?_take] at hv
            split at hv
            · rw [Addr.add_lit, cell_iff hbl]; simpa using hv
            · cases hv)
          (fun j d x hd hx => by
            rw [List.getElem?_take] at hx
            split at hx
            · exact (hcx j d x hd hx).1
            · cases hx)
          (fun u hu => by
            obtain ⟨j, hj, rfl⟩ := List.mem_iff_getElem.1 hu
            have hj' : j < O.es.flatten.length := by rw [flat_len O.es 1 hkk]; omega
            have hx : xs[j]? = some ((xs.take O.es.length)[j]) := by rw [List.getElem_take, ← List.getElem?_eq_getElem]
            exact (hcx j _ _ (List.getElem?_eq_getElem hj') hx).2)
          (by omega) (by omega) _ (r.kill id0) (by rw [← hlen]; exact hK)
        rw [← hlen] at this
        exact this
    · subst h0
      have hes : O.es = [] := List.eq_nil_of_length_eq_zero hlen.symm
      by_cases h0 : b.size = 0
      · have e : bytesD b = [] := List.eq_nil_of_length_eq_zero (by rw [bytesD_len, h0])
        rw [h0, e, hes] at hK
        exact ⟨_, _, run_append_zeroS t u ty el f ht hu hf A 0 0 (Nat.le_refl _) b h0, _, _, m, hK, MLe.refl _, fun _ _ => rfl, (r.kill id0).void hid hm _ rfl, .mslE _ _ _ _⟩
      · have := grow A 0 [] [] (by simp) rfl (fun _ => ⟨rfl, rfl⟩) (by simp) (by simp) (by simp) (by simp; omega) (by simpa using hb) _ (r.kill id0) (by rw [hes] at hK; simpa using hK)
        simpa using this
  · exact hk.elim

theorem run_copy_seg (w : World) (dT sT ty elem : TypeId) (f : TypeInfo) (g o q dLen dCap : Nat) (ad : Addr) (sLen sCap : Nat) (cur : Array Value) (t : TypeId) (cs : List Value)
    (hu : P.underlying dT = some (.slice elem)) (hs : P.info? elem = some f) (hg : w.heap[g]? = some (.cells cur t (0, 0))) (hq : q = Nat.min sLen dLen) (hn : cs.length = q * f.size)
    (hsrc : ∀ j v, cs[j]? = some v → w.cell? (ad.add j) = some v) (hfit : o + cs.length ≤ cur.size) (h1 : ∀ v ∈ cs, v.oneCell' = true) :
    (Builtin.copy_ #[dT, sT] ty #[.slice (some ⟨g, o, none⟩) dLen dCap, .slice (some ad) sLen sCap]).run P w =
      .ok (goInt q) (w.setRow g (cur.toList.take o ++ cs ++ cur.toList.drop (o + cs.length)).toArray) := by
  have hl := run_firstCells_some (P := P) w f.size q ad sLen sCap cs hn hsrc
  have hst := run_storeCells_at P g o t cs 0 cur w hg (by simpa using hfit) h1
  simp only [Nat.add_zero] at hst
  subst hq
  simp [Builtin.copy_, run_underlying hu, Go.sizeOf, typeInfo, hs, Builtin.lenOf, hl, hst]

theorem run_copy_zero (w : World) (dT sT ty elem : TypeId) (f : TypeInfo) (A B : Option Addr) (dLen dCap sLen sCap : Nat) (hu : P.underlying dT = some (.slice elem)) (hs : P.info? elem = some f)
    (h0 : Nat.min sLen dLen = 0) : (Builtin.copy_ #[dT, sT] ty #[.slice A dLen dCap, .slice B sLen sCap]).run P w = .ok (goInt 0) w := by
  cases A <;> cases B <;> simp [Builtin.copy_, run_underlying hu, Go.sizeOf, typeInfo, hs, Builtin.lenOf, h0, Builtin.firstCells, loadCells, loadCellsFrom, storeCells]
end
end Bk
