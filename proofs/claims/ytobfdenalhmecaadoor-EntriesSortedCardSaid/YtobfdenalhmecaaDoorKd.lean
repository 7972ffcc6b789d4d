/- Loads, stores and reckoning: each as the abstract machine says. -/
import Derived.Test.YtobfdenalhmecaaDoorKc
set_option linter.unusedSimpArgs false
set_option linter.unusedSectionVars false
set_option linter.unusedVariables false
namespace Bk
open Go
variable [Gh]

section
variable {P : Program} {T : Tab} {w0 w : World} {W : Nat → Prop} {h : FM} {m : BM} {n : Nat} {H : Hp} {e : Env} {a : Act}

theorem tab_info (hT : TabOk P T) {t : Nat} {i : TI} (hi : T.get t = some i) :
    ∃ f z, P.info? t = some f ∧ f.size = i.sz ∧ f.bytes = i.bytes ∧ f.zero = some z ∧ z.cells.toList = i.zero ∧ kindFits i.kind (P.underlying t) = true ∧ P.stoodInHeld t = false ∧ P.eqGuardType P.depth t = false ∧ z.cells.size = i.sz := by
  have := hT t i hi
  unfold tiFits at this
  split at this
  · rename_i f hf
    simp only [Bool.and_eq_true, decide_eq_true_eq, Bool.not_eq_true'] at this
    obtain ⟨⟨⟨⟨⟨⟨h1, h2⟩, h3⟩, h4⟩, h5⟩, h6⟩, h7⟩ := this
    split at h3
    · rename_i z hz
      have h3 := veqL_sound h3
      exact ⟨f, z, hf, h1, h2, hz, h3, h4, h5, h6, by rw [← Array.length_toList, h3, h7]⟩
    · cases h3
  · cases this

theorem kind_slice {e' : Nat} {d : Option TypeDesc} (hk : kindFits (.slice e') d = true) : d = some (.slice e') := by
  cases d with
  | none => simp [kindFits] at hk
  | some d => cases d <;> simp [kindFits] at hk; rw [hk]
theorem kind_int {k : IntKind} {d : Option TypeDesc} (hk : kindFits (.int k) d = true) : d = some (.int k) := by
  cases d with
  | none => simp [kindFits] at hk
  | some d => cases d <;> simp [kindFits] at hk; rw [hk]
theorem kind_bool {d : Option TypeDesc} (hk : kindFits .bool d = true) : d = some .bool := by
  cases d with
  | none => simp [kindFits] at hk
  | some d => cases d <;> simp [kindFits] at hk; rfl
theorem kind_str {d : Option TypeDesc} (hk : kindFits .str d = true) : d = some .string := by
  cases d with
  | none => simp [kindFits] at hk
  | some d => cases d <;> simp [kindFits] at hk; rfl
theorem kind_ptr {e' : Nat} {d : Option TypeDesc} (hk : kindFits (.ptr e') d = true) : d = some (.pointer e') := by
  cases d with
  | none => simp [kindFits] at hk
  | some d => cases d <;> simp [kindFits] at hk; rw [hk]
theorem kind_array {n' e' : Nat} {d : Option TypeDesc} (hk : kindFits (.array n' e') d = true) : d = some (.array n' e') := by
  cases d with
  | none => simp [kindFits] at hk
  | some d => cases d <;> simp [kindFits] at hk; rw [hk.1, hk.2]
theorem kind_struct {fs : List (Nat × Nat)} {d : Option TypeDesc} (hk : kindFits (.struct fs) d = true) :
    ∃ gs, d = some (.struct gs) ∧ gs.toList.map (fun g => (g.offset, g.type)) = fs ∧ ∀ g ∈ gs.toList, (g.name != "_") = true := by
  cases d with
  | none => simp [kindFits] at hk
  | some d =>
    cases d <;> simp only [kindFits] at hk <;> try (cases hk; done)
    rename_i gs
    simp only [Bool.and_eq_true, decide_eq_true_eq, List.all_eq_true] at hk
    exact ⟨gs, rfl, hk.1, hk.2⟩

theorem kind_agg {k : TK} {d : Option TypeDesc} (hk : kindFits k d = true) : ∃ d', d = some d' ∧ (match d' with | .struct _ | .array _ _ => true | _ => false) = k.agg := by
  cases k <;> cases d <;> simp [kindFits] at hk <;> rename_i d <;> cases d <;> simp [kindFits] at hk <;> exact ⟨_, rfl, rfl⟩

theorem tab_isAgg {t : Nat} {i : TI} (hT : TabOk P T) (hi : T.get t = some i) (w : World) : (isAgg t).run P w = .ok i.kind.agg w := by
  obtain ⟨f, z, _, _, _, _, _, hk, _⟩ := tab_info hT hi
  obtain ⟨d, hd, ha⟩ := kind_agg hk
  unfold isAgg
  rw [Sem.run_bind, run_underlying hd w, ← ha]
  cases d <;> simp
theorem tab_sizeOf {t : Nat} {i : TI} (hT : TabOk P T) (hi : T.get t = some i) (w : World) : (Go.sizeOf t).run P w = .ok i.sz w := by
  obtain ⟨f, z, hf, hs, _⟩ := tab_info hT hi
  simp [Go.sizeOf, typeInfo, hf, hs]
theorem tab_typeInfo {t : Nat} {f : TypeInfo} (hf : P.info? t = some f) (w : World) : (typeInfo t).run P w = .ok f w := by
  simp [typeInfo, hf]

/-- how the machine's slots read -/
structure ER (h : FM) (m : BM) (e : Env) (a : Act) : Prop where
  gl : FLe Gh.gh h
  sl : ∀ t, RD h m (e t) (a.tmps.getD t undef)

theorem ER.ev (r : ER h m e a) (x : Operand) : RD h m (ev e x) (a.eval x) := by
  cases x with
  | tmp t => exact r.sl t
  | const v => exact .imm _ _ (.v v)
  | global g => exact .imm _ _ (.v _)
  | func f => exact .imm _ _ (.fn _ [] [] [] [] rfl rfl (by simp) (by simp))

theorem drop_cons {α : Type} {l r : List α} {d : α} {j : Nat} (hd : l.drop j = d :: r) : l[j]? = some d := by
  have : (l.drop j)[0]? = some d := by rw [hd]; rfl
  simpa using this

/-- a variable is loaded whose cells are known -/
theorem pack_sound (hT : TabOk P T) {t : Nat} {i : TI} (hi : T.get t = some i) {cells : List D} {j : Nat} {K : D → Prop} (hk : packA i cells j K)
    (b o : Nat) (u : Nat → Value) (hu : ∀ x, x < cells.length → w.cell? ⟨b, o + x, none⟩ = some (u x)) (hr : ∀ (x : Nat) d, cells[x]? = some d → RD h m d (u x)) :
    ∃ d x, (Instr.loadAt t (.pointer (some ⟨b, o + j, none⟩))).run P w = .ok x w ∧ K d ∧ RD h m d x := by
  unfold packA at hk
  have hagg := tab_isAgg hT hi w
  split at hk
  · rename_i ha
    rw [ha] at hagg
    split at hk
    · rename_i hl
      have hl := lenL_iff hl
      rw [List.length_take, List.length_drop] at hl
      have hc : ∀ x, x < i.sz → w.cell? ((⟨b, o + j, none⟩ : Addr).add x) = some (u (j + x)) := by
        intro x hx
        rw [Addr.add_lit, Nat.add_assoc]; exact hu (j + x) (by omega)
      refine ⟨_, _, ?_, hk, .agg _ ((List.range i.sz).map fun x => u (j + x)) (by rw [List.length_take, List.length_drop]; simp; omega) ?_⟩
      · simp only [Instr.loadAt, Instr.sureAddr, loadVar, Sem.run_bind, Sem.run_pure, Result.andThen_ok, hagg, if_true, tab_sizeOf hT hi, run_loadCells w _ i.sz _ hc]
      · intro x d y hd hy
        rw [List.getElem?_take] at hd
        split at hd
        · rename_i hx
          rw [List.getElem?_drop] at hd
          rw [List.getElem?_map, List.getElem?_range hx] at hy
          simp at hy; subst hy
          exact hr _ d hd
        · cases hd
    · exact hk.elim
  · rename_i ha
    rw [ha] at hagg
    split at hk
    · rename_i d r hd
      have hj := drop_cons hd
      have hjl : j < cells.length := by
        rcases Nat.lt_or_ge j cells.length with h' | h'
        · exact h'
        · rw [List.getElem?_eq_none h'] at hj; cases hj
      refine ⟨d, u j, ?_, hk, hr j d hj⟩
      simp [Instr.loadAt, Instr.sureAddr, loadVar, hagg, hu j hjl]
    · exact hk.elim

theorem obj_cells (r : RH h m n H w) {id : Nat} {O : AObj} (hO : H id = some O) {b N : Nat} (hm : m id = some (b, N)) :
    ∃ xs : List Value, N = xs.length ∧ w.heap[b]? = some (.cells xs.toArray O.ty (0, 0)) ∧ O.es.length * O.k ≤ xs.length ∧ (∀ e ∈ O.es, e.length = O.k) ∧
      (∀ (j : Nat) d x, O.es.flatten[j]? = some d → xs[j]? = some x → RD h m d x ∧ x.oneCell' = true) ∧ (∀ o, h b o = none) := by
  rcases r.obj id O hO with ⟨h1, _⟩ | ⟨b', xs, h1, h2⟩
  · rw [h1] at hm; cases hm
  · rw [h1] at hm; cases hm; exact ⟨xs, rfl, h2⟩

/-- one element of an object, cell by cell -/
theorem obj_elem (r : RH h m n H w) {id : Nat} {O : AObj} (hO : H id = some O) {b N : Nat} (hm : m id = some (b, N)) {x : Nat} {c : List D} (hx : O.es[x]? = some c) :
    c.length = O.k ∧ ∃ u : Nat → Value, (∀ y, y < c.length → w.cell? ⟨b, x * O.k + y, none⟩ = some (u y)) ∧ (∀ (y : Nat) d, c[y]? = some d → RD h m d (u y)) ∧ ∀ y, y < c.length → (u y).oneCell' = true := by
  obtain ⟨xs, hN, hb, hlen, hk, hc, hf⟩ := obj_cells r hO hm
  have hcl : c.length = O.k := hk c (List.mem_of_getElem? hx)
  have hxl : x < O.es.length := by
    rcases Nat.lt_or_ge x O.es.length with h' | h'
    · exact h'
    · rw [List.getElem?_eq_none h'] at hx; cases hx
  have hin : ∀ y, y < c.length → x * O.k + y < xs.length := by
    intro y hy
    have : (x + 1) * O.k ≤ O.es.length * O.k := Nat.mul_le_mul_right _ hxl
    rw [Nat.add_mul] at this; omega
  have hget : ∀ y (hy : y < c.length), xs[x * O.k + y]? = some (xs.getD (x * O.k + y) undef) := by
    intro y hy
    rw [List.getElem?_eq_getElem (hin y hy)]; simp [List.getD, List.getElem?_eq_getElem (hin y hy)]
  refine ⟨hcl, fun y => xs.getD (x * O.k + y) undef, fun y hy => by rw [cell_iff hb]; exact hget y hy, fun y d hd => ?_, fun y hy => ?_⟩
  · have hy : y < c.length := by
      rcases Nat.lt_or_ge y c.length with h' | h'
      · exact h'
      · rw [List.getElem?_eq_none h'] at hd; cases hd
    exact (hc _ d _ (by rw [flat_get O.k O.es hk x y c hx (by omega)]; exact hd) (hget y hy)).1
  · obtain ⟨d, hd⟩ : ∃ d, c[y]? = some d := ⟨_, List.getElem?_eq_getElem hy⟩
    exact (hc _ d _ (by rw [flat_get O.k O.es hk x y c hx (by omega)]; exact hd) (hget y hy)).2

theorem RI.fp_inv {cells : List D} {j : Nat} {v : Value} (r : RI h (.fp cells j) v) : ∃ (b o : Nat) (u : Nat → Value), v = .pointer (some ⟨b, o + j, none⟩) ∧ (∀ i, i < cells.length → h b (o + i) = some (u i) ∧ (u i).oneCell' = true) ∧ ∀ (i : Nat) d, cells[i]? = some d → RI h d (u i) := by
  cases r with
  | fp _ _ b o p u hp hu hr => subst hp; exact ⟨b, o, u, rfl, hu, hr⟩
theorem RD.fp_inv {cells : List D} {j : Nat} {v : Value} (r : RD h m (.fp cells j) v) : ∃ (b o : Nat) (u : Nat → Value), v = .pointer (some ⟨b, o + j, none⟩) ∧ (∀ i, i < cells.length → h b (o + i) = some (u i) ∧ (u i).oneCell' = true) ∧ ∀ (i : Nat) d, cells[i]? = some d → RI h d (u i) := by
  cases r with
  | imm _ _ r => exact r.fp_inv
theorem RD.ptr_inv {id j : Nat} {v : Value} (r : RD h m (.ptr id j) v) : ∃ b N, m id = some (b, N) ∧ v = .pointer (some ⟨b, j, none⟩) := by
  cases r with
  | imm _ _ r => cases r
  | ptr _ _ b N hm => exact ⟨b, N, hm, rfl⟩
theorem RD.eptr_inv {id k i j : Nat} {v : Value} (r : RD h m (.eptr id k i j) v) : ∃ b N, m id = some (b, N) ∧ v = .pointer (some ⟨b, i * k + j, none⟩) := by
  cases r with
  | imm _ _ r => cases r
  | eptr _ _ _ _ b N o hm ho => subst ho; exact ⟨b, N, hm, rfl⟩
theorem RD.v_inv {x v : Value} (r : RD h m (.v x) v) : v = x := by
  cases r with
  | imm _ _ r => cases r; rfl
theorem RD.msl_inv {id k lo len : Nat} {v : Value} (r : RD h m (.msl id k lo len) v) :
    (∃ b N c, m id = some (b, N) ∧ len ≤ c ∧ (lo + c) * k ≤ N ∧ v = .slice (some ⟨b, lo * k, none⟩) len c) ∨ (len = 0 ∧ ∃ A, v = .slice A 0 0) := by
  cases r with
  | imm _ _ r => cases r
  | msl _ _ _ _ b N c hm hc hN => exact .inl ⟨b, N, c, hm, hc, hN, rfl⟩
  | mslE _ _ _ A => exact .inr ⟨rfl, A, rfl⟩
theorem RD.sl_inv {k : Nat} {es : List (List D)} {v : Value} (r : RD h m (.sl k es) v) :
    (es = [] ∧ ∃ A c, v = .slice A 0 c) ∨ ∃ (b o c : Nat) (u : Nat → Value), v = .slice (some ⟨b, o, none⟩) es.length c ∧ es.length ≤ c ∧ (∀ e ∈ es, e.length = k) ∧ (∀ j, j < es.length * k → h b (o + j) = some (u j) ∧ (u j).oneCell' = true) ∧ ∀ (j : Nat) d, es.flatten[j]? = some d → RI h d (u j) := by
  cases r with
  | imm _ _ r =>
    cases r with
    | slE _ A c => exact .inl ⟨rfl, A, c, rfl⟩
    | sl _ _ b o n c u hk hn hc hu hr => subst hn; exact .inr ⟨b, o, c, u, rfl, hc, hk, hu, hr⟩
theorem RD.tsl_inv {k : Nat} {es : List (List D)} {v : Value} (r : RD h m (.tsl k es) v) :
    (es = [] ∧ ∃ A, v = .slice A 0 0) ∨ ∃ (b o : Nat) (u : Nat → Value), v = .slice (some ⟨b, o, none⟩) es.length es.length ∧ (∀ e ∈ es, e.length = k) ∧ (∀ j, j < es.length * k → h b (o + j) = some (u j) ∧ (u j).oneCell' = true) ∧ ∀ (j : Nat) d, es.flatten[j]? = some d → RI h d (u j) := by
  cases r with
  | imm _ _ r =>
    cases r with
    | tslE _ A => exact .inl ⟨rfl, A, rfl⟩
    | tsl _ _ b o n u hk hn hu hr => subst hn; exact .inr ⟨b, o, u, rfl, hk, hu, hr⟩

theorem ghL_sound {b : Nat} : ∀ {o n : Nat} {K : List D → Prop}, ghL b o n K → ∃ xs : List Value, xs.length = n ∧ (∀ i, i < n → Gh.gh b (o + i) = xs[i]?) ∧ K (xs.map D.v)
  | o, 0, K, hk => ⟨[], rfl, by simp, hk⟩
  | o, n + 1, K, hk => by
    simp only [ghL] at hk
    split at hk
    · rename_i x hx
      obtain ⟨xs, h1, h2, h3⟩ := ghL_sound hk
      refine ⟨x :: xs, by simp [h1], fun i hi => ?_, h3⟩
      cases i with
      | zero => exact hx
      | succ i =>
        have := h2 i (by omega)
        rw [show o + (i + 1) = o + 1 + i by omega, this]; rfl
    · exact hk.elim

theorem load_sound (hT : TabOk P T) {t : Nat} {p : D} {v : Value} {K : D → Prop} (hk : loadA T t p H K) (r : RH h m n H w) (hg : FLe Gh.gh h) (rp : RD h m p v) :
    ∃ d x, (Instr.loadAt t v).run P w = .ok x w ∧ K d ∧ RD h m d x := by
  unfold loadA at hk
  split at hk
  · exact hk.elim
  rename_i i hi
  split at hk
  · rename_i cells j
    obtain ⟨b, o, u, rfl, hu, hr⟩ := rp.fp_inv
    exact pack_sound hT hi hk b o u (fun x hx => r.froz _ _ _ (hu x hx).1) (fun x d hd => .imm _ _ (hr x d hd))
  · rename_i id j
    split at hk
    · rename_i ty k cells hO
      obtain ⟨b, N, hm, rfl⟩ := rp.ptr_inv
      obtain ⟨_, u, hu, hr, _⟩ := obj_elem r hO hm (x := 0) (c := cells) rfl
      have := pack_sound (w := w) hT hi hk b 0 u (fun x hx => by have := hu x hx; simpa using this) hr
      simpa using this
    · exact hk.elim
  · rename_i id k x j
    obtain ⟨O, c, hO, hk', hc, hp⟩ := hk
    obtain ⟨b, N, hm, rfl⟩ := rp.eptr_inv
    obtain ⟨_, u, hu, hr, _⟩ := obj_elem r hO hm hc
    subst hk'
    exact pack_sound hT hi hp b (x * O.k) u hu hr
  · rename_i b o
    have := rp.v_inv
    subst this
    obtain ⟨xs, h1, h2, h3⟩ := ghL_sound hk
    have := pack_sound (h := h) (m := m) (w := w) hT hi h3 b o (fun j => xs.getD j undef) (fun x hx => ?_) (fun x d hd => ?_)
    · simpa using this
    · have hx : x < xs.length := by simpa using hx
      rw [List.getD_eq_getElem?_getD, List.getElem?_eq_getElem hx]
      refine r.froz _ _ _ (hg _ _ _ ?_)
      rw [h2 x (by omega), List.getElem?_eq_getElem hx]; rfl
    · rw [List.getElem?_map] at hd
      cases hq : xs[x]? with
      | none => rw [hq] at hd; simp at hd
      | some y =>
        rw [hq] at hd; simp at hd; subst hd
        rw [List.getD_eq_getElem?_getD, hq]; exact .imm _ _ (.v _)
  · exact hk.elim
end
end Bk
