/- The world of a walk: what a new block, a store, a draw and a forgotten object do to it. -/
import Derived.Test.YtobfdenalhmecaaDoorKa
set_option linter.unusedSimpArgs false
set_option linter.unusedSectionVars false
set_option linter.unusedVariables false
namespace Bk
open Go

section lists
variable {α : Type}
theorem flat_len (es : List (List α)) (k : Nat) (hk : ∀ e ∈ es, e.length = k) : es.flatten.length = es.length * k := by
  induction es with
  | nil => simp
  | cons e es ih =>
    have h1 := hk e (by simp)
    have h2 := ih (fun x hx => hk x (by simp [hx]))
    simp [List.length_flatten] at h2 ⊢
    rw [h1, h2, Nat.add_mul]; omega

theorem flat_get (k : Nat) : ∀ (es : List (List α)), (∀ e ∈ es, e.length = k) → ∀ (i j : Nat) (c : List α), es[i]? = some c → j < k → es.flatten[i * k + j]? = c[j]?
  | [], _, i, j, c, hi, _ => by simp at hi
  | e :: es, hk, 0, j, c, hi, hj => by
    simp at hi; subst hi
    have h1 := hk e (by simp)
    rw [List.flatten_cons, List.getElem?_append_left (by omega)]; simp
  | e :: es, hk, i + 1, j, c, hi, hj => by
    have h1 := hk e (by simp)
    have ih := flat_get k es (fun x hx => hk x (by simp [hx])) i j c (by simpa using hi) hj
    rw [List.flatten_cons, List.getElem?_append_right (by rw [h1, Nat.add_mul]; omega), h1, ← ih]
    congr 1
    rw [Nat.add_mul]; omega

theorem flat_inv (k : Nat) : ∀ (es : List (List α)), (∀ e ∈ es, e.length = k) → ∀ (p : Nat) (d : α), es.flatten[p]? = some d →
    ∃ i j c, p = i * k + j ∧ j < k ∧ es[i]? = some c ∧ c[j]? = some d
  | [], _, p, d, h => by simp at h
  | e :: es, hk, p, d, h => by
    have h1 := hk e (by simp)
    by_cases hp : p < k
    · rw [List.flatten_cons, List.getElem?_append_left (by omega)] at h
      exact ⟨0, p, e, by omega, hp, by simp, h⟩
    · rw [List.flatten_cons, List.getElem?_append_right (by omega), h1] at h
      obtain ⟨i, j, c, hij, hj, hi, hc⟩ := flat_inv k es (fun x hx => hk x (by simp [hx])) (p - k) d h
      refine ⟨i + 1, j, c, by rw [Nat.add_mul]; omega, hj, by simpa using hi, hc⟩
end lists

def updM (m : BM) (i : Nat) (y : Nat × Nat) : BM := fun j => if j = i then some y else m j

theorem updM_le {m : BM} {i : Nat} (y : Nat × Nat) (h : m i = none) : MLe m (updM m i y) := by
  intro id z hz
  unfold updM
  split
  · subst_vars; rw [h] at hz; cases hz
  · exact hz

theorem cell_iff {w : World} {b : Nat} {xs : List Value} {t : Nat} (hb : w.heap[b]? = some (.cells xs.toArray t (0, 0))) (o : Nat) : w.cell? ⟨b, o, none⟩ = xs[o]? := by
  rw [cell_of_row w b o _ t (0, 0) hb]; simp

theorem block_lt_of_get {w : World} {b : Nat} {o : Obj} (hb : w.heap[b]? = some o) : b < w.heap.size := by
  rcases Nat.lt_or_ge b w.heap.size with h | h
  · exact h
  · rw [Array.getElem?_eq_none h] at hb; cases hb

section
variable {w0 w : World} {W : Nat → Prop} {h : FM} {m : BM} {n : Nat} {H : Hp}

/-- another world with the same old blocks, and no block of the walk turned -/
theorem RH.keep {w' : World} (r : RH h m n H w) (hk : ∀ b, b < w.heap.size → w'.heap[b]? = w.heap[b]?) : RH h m n H w' := by
  refine ⟨fun b o x e => ?_, r.far, fun id O hO => ?_, r.inj⟩
  · have hc := r.froz b o x e
    have hlt := block_lt_of_cell hc
    rw [← hc]; exact World.cell?_of_block (hk b hlt)
  · rcases r.obj id O hO with hn | ⟨b, xs, h1, h2, h3⟩
    · exact .inl hn
    · exact .inr ⟨b, xs, h1, (hk b (block_lt_of_get h2)).trans h2, h3⟩

theorem RH.block_lt (r : RH h m n H w) {b o : Nat} {x : Value} (e : h b o = some x) : b < w.heap.size := block_lt_of_cell (r.froz b o x e)

theorem FR.alloc (r : FR w0 W w) (o : Obj) : FR w0 W (w.alloc o) :=
  ⟨r.os, r.tape, r.output, by simp; exact Nat.le_succ_of_le r.size, fun b hb hn => by
    rw [heap_alloc_old w o (Nat.lt_of_lt_of_le hb r.size)]; exact r.block b hb hn⟩
theorem FR.drew (r : FR w0 W w) : FR w0 W w.drew := ⟨r.os, r.tape, r.output, r.size, r.block⟩
theorem FR.setRow (r : FR w0 W w) {g : Nat} {cs : Array Value} (hg : w0.heap.size ≤ g ∨ W g) : FR w0 W (w.setRow g cs) :=
  ⟨r.os, r.tape, r.output, by simp; exact r.size, fun b hb hn => by
    rw [setRow_other w g b cs (by rintro rfl; rcases hg with h | h; omega; exact hn h)]; exact r.block b hb hn⟩

theorem WR.drew (r : WR w0 W h m n H w) : WR w0 W h m n H w.drew := ⟨r.rh.keep fun _ _ => rfl, r.fr.drew, r.wb⟩

theorem WR.alloc (r : WR w0 W h m n H w) {id : Nat} (hid : id < n) (hm : m id = none) (O : AObj) (xs : List Value)
    (hlen : O.es.length * O.k ≤ xs.length) (hk : ∀ e ∈ O.es, e.length = O.k) (hc : ∀ (j : Nat) d x, O.es.flatten[j]? = some d → xs[j]? = some x → RD h m d x ∧ x.oneCell' = true) :
    WR w0 W h (updM m id (w.heap.size, xs.length)) n (updH H id (some O)) (w.alloc (.cells xs.toArray O.ty)) := by
  have hle := updM_le (w.heap.size, xs.length) hm
  have hfresh : ∀ o, h w.heap.size o = none := by
    intro o
    cases e : h w.heap.size o with
    | none => rfl
    | some x => have := r.rh.block_lt e; omega
  refine ⟨⟨fun b o x e => ?_, fun i hi => ?_, fun i O' hO' => ?_, ?_⟩, r.fr.alloc _, fun i O' b N hO' hm' => ?_⟩
  · rw [World.cell?_alloc_lt _ _ _ (r.rh.block_lt e)]; exact r.rh.froz b o x e
  · have hne : i ≠ id := by omega
    rw [updH_ne _ _ hne]
    exact ⟨by unfold updM; rw [if_neg hne]; exact (r.rh.far i hi).1, (r.rh.far i hi).2⟩
  · by_cases hi : i = id
    · subst hi
      rw [updH_same] at hO'; cases hO'
      refine .inr ⟨w.heap.size, xs, by simp [updM], heap_alloc_new w _, hlen, hk, fun j d x hd hx => ⟨(hc j d x hd hx).1.mono (FLe.refl _) hle, (hc j d x hd hx).2⟩, hfresh⟩
    · rw [updH_ne _ _ hi] at hO'
      rcases r.rh.obj i O' hO' with ⟨h1, h2⟩ | ⟨b, ys, h1, h2, h3, h4, h5, h6⟩
      · exact .inl ⟨by unfold updM; rw [if_neg hi]; exact h1, h2⟩
      · refine .inr ⟨b, ys, by unfold updM; rw [if_neg hi]; exact h1, ?_, h3, h4, fun j d x hd hx => ⟨(h5 j d x hd hx).1.mono (FLe.refl _) hle, (h5 j d x hd hx).2⟩, h6⟩
        rw [heap_alloc_old w _ (block_lt_of_get h2)]; exact h2
  · intro i i' O1 O2 b N N' h1 h2 h3 h4
    by_cases e1 : i = id
    · by_cases e2 : i' = id
      · rw [e1, e2]
      · subst e1
        rw [updH_ne _ _ e2] at h2
        unfold updM at h3 h4
        rw [if_pos rfl] at h3; rw [if_neg e2] at h4
        cases h3
        rcases r.rh.obj i' O2 h2 with ⟨h5, _⟩ | ⟨b', ys, h5, h6, _⟩
        · rw [h5] at h4; cases h4
        · rw [h5] at h4; cases h4; have := block_lt_of_get h6; omega
    · by_cases e2 : i' = id
      · subst e2
        rw [updH_ne _ _ e1] at h1
        unfold updM at h3 h4
        rw [if_pos rfl] at h4; rw [if_neg e1] at h3
        cases h4
        rcases r.rh.obj i O1 h1 with ⟨h5, _⟩ | ⟨b', ys, h5, h6, _⟩
        · rw [h5] at h3; cases h3
        · rw [h5] at h3; cases h3; have := block_lt_of_get h6; omega
      · rw [updH_ne _ _ e1] at h1; rw [updH_ne _ _ e2] at h2
        unfold updM at h3 h4
        rw [if_neg e1] at h3; rw [if_neg e2] at h4
        exact r.rh.inj i i' O1 O2 b N N' h1 h2 h3 h4
  · by_cases hi : i = id
    · subst hi
      unfold updM at hm'; rw [if_pos rfl] at hm'; cases hm'
      exact .inl r.fr.size
    · rw [updH_ne _ _ hi] at hO'
      unfold updM at hm'; rw [if_neg hi] at hm'
      exact r.wb i O' b N hO' hm'

/-- a name that holds nothing in memory -/
theorem WR.void (r : WR w0 W h m n H w) {id : Nat} (hid : id < n) (hm : m id = none) (O : AObj) (hO : O.es = []) : WR w0 W h m n (updH H id (some O)) w := by
  refine ⟨⟨r.rh.froz, fun i hi => ?_, fun i O' hO' => ?_, ?_⟩, r.fr, fun i O' b N hO' hm' => ?_⟩
  · rw [updH_ne _ _ (show i ≠ id by omega)]; exact r.rh.far i hi
  · by_cases hi : i = id
    · subst hi; rw [updH_same] at hO'; cases hO'; exact .inl ⟨hm, hO⟩
    · rw [updH_ne _ _ hi] at hO'; exact r.rh.obj i O' hO'
  · intro i i' O1 O2 b N N' h1 h2 h3 h4
    have e1 : i ≠ id := by rintro rfl; rw [hm] at h3; cases h3
    have e2 : i' ≠ id := by rintro rfl; rw [hm] at h4; cases h4
    rw [updH_ne _ _ e1] at h1; rw [updH_ne _ _ e2] at h2
    exact r.rh.inj i i' O1 O2 b N N' h1 h2 h3 h4
  · have e1 : i ≠ id := by rintro rfl; rw [hm] at hm'; cases hm'
    rw [updH_ne _ _ e1] at hO'; exact r.wb i O' b N hO' hm'

/-- an object is forgotten -/
theorem WR.kill (r : WR w0 W h m n H w) (id : Nat) : WR w0 W h m n (updH H id none) w := by
  refine ⟨⟨r.rh.froz, fun i hi => ⟨(r.rh.far i hi).1, ?_⟩, fun i O' hO' => ?_, ?_⟩, r.fr, fun i O' b N hO' hm' => ?_⟩
  · by_cases e : i = id
    · subst e; exact updH_same _ _ _
    · rw [updH_ne _ _ e]; exact (r.rh.far i hi).2
  · have e : i ≠ id := by rintro rfl; rw [updH_same] at hO'; cases hO'
    rw [updH_ne _ _ e] at hO'; exact r.rh.obj i O' hO'
  · intro i i' O1 O2 b N N' h1 h2 h3 h4
    have e1 : i ≠ id := by rintro rfl; rw [updH_same] at h1; cases h1
    have e2 : i' ≠ id := by rintro rfl; rw [updH_same] at h2; cases h2
    rw [updH_ne _ _ e1] at h1; rw [updH_ne _ _ e2] at h2
    exact r.rh.inj i i' O1 O2 b N N' h1 h2 h3 h4
  · have e : i ≠ id := by rintro rfl; rw [updH_same] at hO'; cases hO'
    rw [updH_ne _ _ e] at hO'; exact r.wb i O' b N hO' hm'

/-- the cells of an object are written -/
theorem WR.write (r : WR w0 W h m n H w) {id : Nat} {O O' : AObj} {b : Nat} {xs : List Value} (hO : H id = some O) (hm : m id = some (b, xs.length)) (hb : w.heap[b]? = some (.cells xs.toArray O.ty (0, 0)))
    (hf : ∀ o, h b o = none) (ys : List Value) (hy : ys.length = xs.length) (ht : O'.ty = O.ty) (hlen : O'.es.length * O'.k ≤ ys.length) (hk : ∀ e ∈ O'.es, e.length = O'.k)
    (hc : ∀ (j : Nat) d x, O'.es.flatten[j]? = some d → ys[j]? = some x → RD h m d x ∧ x.oneCell' = true) :
    WR w0 W h m n (updH H id (some O')) (w.setRow b ys.toArray) := by
  have hoth : ∀ k, k ≠ b → (w.setRow b ys.toArray).heap[k]? = w.heap[k]? := fun k hk => setRow_other w b k _ hk
  refine ⟨⟨fun b' o x e => ?_, fun i hi => ?_, fun i O1 hO1 => ?_, ?_⟩, r.fr.setRow (r.wb id O b _ hO hm), fun i O1 b' N hO1 hm' => ?_⟩
  · have hne : b' ≠ b := by rintro rfl; rw [hf] at e; cases e
    rw [World.cell?_of_block (w := w) (hoth b' hne)]; exact r.rh.froz b' o x e
  · have hne : i ≠ id := by rintro rfl; rw [(r.rh.far i hi).1] at hm; cases hm
    rw [updH_ne _ _ hne]; exact r.rh.far i hi
  · by_cases hi : i = id
    · subst hi
      rw [updH_same] at hO1; cases hO1
      refine .inr ⟨b, ys, by rw [hy]; exact hm, ?_, hlen, hk, hc, hf⟩
      rw [ht]; exact setRow_heap w b _ _ _ _ hb
    · rw [updH_ne _ _ hi] at hO1
      rcases r.rh.obj i O1 hO1 with h1 | ⟨b', zs, h1, h2, h3⟩
      · exact .inl h1
      · have hne : b' ≠ b := by rintro rfl; exact hi (r.rh.inj i id O1 O _ _ _ hO1 hO h1 hm)
        exact .inr ⟨b', zs, h1, (hoth b' hne).trans h2, h3⟩
  · intro i i' O1 O2 b1 N N' h1 h2 h3 h4
    have get : ∀ i O1, updH H id (some O') i = some O1 → ∃ O2, H i = some O2 := by
      intro i O1 h1
      by_cases e : i = id
      · subst e; exact ⟨O, hO⟩
      · rw [updH_ne _ _ e] at h1; exact ⟨O1, h1⟩
    obtain ⟨P1, p1⟩ := get i O1 h1
    obtain ⟨P2, p2⟩ := get i' O2 h2
    exact r.rh.inj i i' P1 P2 b1 N N' p1 p2 h3 h4
  · by_cases e : i = id
    · subst e; exact r.wb i O b' N hO hm'
    · rw [updH_ne _ _ e] at hO1; exact r.wb i O1 b' N hO1 hm'
end
end Bk
