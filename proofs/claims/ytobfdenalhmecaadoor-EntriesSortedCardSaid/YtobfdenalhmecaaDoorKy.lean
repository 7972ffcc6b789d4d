/- Functions. -/
import Derived.Test.YtobfdenalhmecaaDoorKx
set_option linter.unusedSimpArgs false
set_option linter.unusedSectionVars false
set_option linter.unusedVariables false
namespace Bk
open Go
variable [Gh]

def resA (T : Tab) : List ResultVar → Env → Hp → (List D → Prop) → Prop
  | [], _, _, K => K []
  | .tmp t :: r, e, H, K => forceD (e t) fun d => resA T r e H fun ds => K (d :: ds)
  | .cell a t :: r, e, H, K => loadA T t (e a) H fun d => resA T r e H fun ds => K (d :: ds)
def oneD : List D → D
  | [d] => d
  | ds => .tuple ds

def getL : List D → Nat → D
  | [], _ => .v (.tuple #[])
  | d :: _, 0 => d
  | _ :: l, n + 1 => getL l n

/-- what a body that has ended owes -/
def bodyQ (T : Tab) (rs : List ResultVar) (K : D → Nat → Hp → Prop) : Exit → Env → Nat → Hp → Prop
  | .normal => fun e n H => resA T rs e H fun ds => K (oneD ds) n H
  | .ret => fun e n H => resA T rs e H fun ds => K (oneD ds) n H
  | _ => fun _ _ _ => False

def frzA (H : Hp) (d : D) (K : D → Prop) : Prop :=
  match d with
  | .msl id k lo len => ∃ O, H id = some O ∧ O.k = k ∧ lo + len ≤ O.es.length ∧ (∀ c ∈ O.es, isIL c = true) ∧ K (.sl k ((O.es.drop lo).take len))
  | .ptr id j => ∃ O cells, H id = some O ∧ O.es = [cells] ∧ isIL cells = true ∧ K (.fp cells j)
  | d => match isI d with | true => K d | false => False
def frzL (H : Hp) : List D → (List D → Prop) → Prop
  | [], K => K []
  | d :: ds, K => frzA H d fun d' => frzL H ds fun ds' => K (d' :: ds')
def frzT (H : Hp) (d : D) (K : D → Prop) : Prop :=
  match d with
  | .tuple ds => frzL H ds fun ds' => K (.tuple ds')
  | .agg ds => frzL H ds fun ds' => K (.agg ds')
  | d => frzA H d K

section
variable {P : Program} {T : Tab} {w0 w : World} {W : Nat → Prop} {h : FM} {m : BM} {n : Nat} {H : Hp} {e : Env} {a : Act}

theorem res_sound (hT : TabOk P T) (r : RH h m n H w) (re : ER h m e a) : ∀ (rs : List ResultVar) {K : List D → Prop}, resA T rs e H K →
    ∃ ds vs, (rs.mapM (m := Sem) fun | .tmp t => pure (a.tmps.getD t undef) | .cell b t => do loadVar t (← asAddr (a.tmps.getD b undef))).run P w = .ok vs w ∧ K ds ∧ ds.length = vs.length ∧ (∀ (i : Nat) d x, ds[i]? = some d → vs[i]? = some x → RD h m d x)
  | [], K, hk => ⟨[], [], by simp, hk, rfl, by simp⟩
  | .tmp t :: rs, K, hk => by
    simp only [resA, forceD_eq] at hk
    obtain ⟨ds, vs, h1, h2, h3, h4⟩ := res_sound hT r re rs hk
    refine ⟨e t :: ds, a.tmps.getD t undef :: vs, ?_, h2, by simp [h3], ?_⟩
    · rw [List.mapM_cons]
      simp only [Sem.run_bind, Sem.run_pure, Result.andThen_ok, h1]
    · intro i d x hd hx
      cases i with
      | zero => simp only [List.getElem?_cons_zero, Option.some.injEq] at hd hx; subst hd; subst hx; exact re.sl t
      | succ i => exact h4 i d x (by simpa using hd) (by simpa using hx)
  | .cell b t :: rs, K, hk => by
    obtain ⟨d, x, hrun, hk, hd⟩ := load_sound hT hk r re.gl (re.sl b)
    obtain ⟨ds, vs, h1, h2, h3, h4⟩ := res_sound hT r re rs hk
    refine ⟨d :: ds, x :: vs, ?_, h2, by simp [h3], ?_⟩
    · rw [List.mapM_cons]
      have h5 : (do loadVar t (← asAddr (a.tmps.getD b undef)) : Sem Value).run P w = .ok x w := by
        rw [← hrun]
        unfold Instr.loadAt
        cases hv : a.tmps.getD b undef with
        | pointer p =>
          cases p with
          | some q => simp [asAddr, Instr.sureAddr]
          | none => rw [hv] at hrun; simp [Instr.loadAt, Instr.sureAddr] at hrun
        | _ => rw [hv] at hrun; simp [Instr.loadAt, Instr.sureAddr] at hrun
      rw [Sem.run_bind, h5]
      simp only [Sem.run_bind, Sem.run_pure, Result.andThen_ok, h1]
    · intro i d' x' hd' hx'
      cases i with
      | zero => simp only [List.getElem?_cons_zero, Option.some.injEq] at hd' hx'; subst hd'; subst hx'; exact hd
      | succ i => exact h4 i d' x' (by simpa using hd') (by simpa using hx')

theorem results_sound (hT : TabOk P T) (r : RH h m n H w) (re : ER h m e a) {fn : Func} {K : D → Prop} (hk : resA T fn.results.toList e H fun ds => K (oneD ds)) :
    ∃ d v, (results fn a.tmps).run P w = .ok v w ∧ K d ∧ RD h m d v := by
  obtain ⟨ds, vs, h1, h2, h3, h4⟩ := res_sound hT r re _ hk
  unfold results
  have h5 : (fn.results.mapM (m := Sem) fun | .tmp t => pure (a.tmps.getD t undef) | .cell b t => do loadVar t (← asAddr (a.tmps.getD b undef))).run P w = .ok vs.toArray w := by
    rw [Array.mapM_eq_mapM_toList, Sem.run_map, h1]
    rfl
  refine ⟨oneD ds, if h : vs.toArray.size = 1 then vs.toArray[0] else .tuple vs.toArray, ?_, h2, ?_⟩
  · rw [Sem.run_bind]
    refine (congrArg (fun r => Result.andThen r _) h5).trans ?_
    simp
  · match ds, vs, h3, h4 with
    | [], [], _, _ => exact .tuple [] [] rfl (by simp)
    | [d], [v], _, h4 => exact h4 0 d v rfl rfl
    | d1 :: d2 :: ds, v1 :: v2 :: vs, h3, h4 =>
      have : ¬ ((v1 :: v2 :: vs).toArray.size = 1) := by simp
      rw [dif_neg this]
      exact .tuple _ _ h3 h4

theorem env0_rel {args : List D} {vals : List Value} (hg : FLe Gh.gh h) (hl : args.length = vals.length) (hr : ∀ (i : Nat) d x, args[i]? = some d → vals[i]? = some x → RD h m d x) (k : Nat) :
    ER h m (getL args) { tmps := vals.toArray ++ Array.replicate k undef, defers := [] } := by
  have key : ∀ (args : List D) (vals : List Value), args.length = vals.length → (∀ (i : Nat) d x, args[i]? = some d → vals[i]? = some x → RD h m d x) → ∀ t, RD h m (getL args t) ((vals ++ List.replicate k undef).getD t undef) := by
    intro args
    induction args with
    | nil =>
      intro vals hl hr t
      cases vals with
      | nil =>
        have : ([] ++ List.replicate k undef).getD t undef = undef := by
          rw [List.nil_append, List.getD_eq_getElem?_getD, List.getElem?_replicate]; split <;> rfl
        rw [this]; exact .imm _ _ (.v _)
      | cons v vs => simp at hl
    | cons d ds ih =>
      intro vals hl hr t
      cases vals with
      | nil => simp at hl
      | cons v vs =>
        cases t with
        | zero => exact hr 0 d v rfl rfl
        | succ t => exact ih vs (by simpa using hl) (fun i d x hd hx => hr (i + 1) d x (by simpa using hd) (by simpa using hx)) t
  refine ⟨hg, fun t => ?_⟩
  have := key args vals hl hr t
  have e1 : (vals.toArray ++ Array.replicate k undef).getD t undef = (vals ++ List.replicate k undef).getD t undef := by
    rw [Array.getD_eq_getD_getElem?, List.getD_eq_getElem?_getD, ← Array.getElem?_toList]
    simp
  show RD h m _ ((vals.toArray ++ Array.replicate k undef).getD t undef)
  rw [e1]; exact this

theorem callA_body (hT : TabOk P T) (hmix : P.follows .mixedOrders = true) {f : Nat} {fn : Func} {c : Code} (hf : P.funcs[f]? = some fn) (hname : (fn.name == "runtime.NumGoroutine") = false) (hb : fn.body = some c) (hc : chkC c = true) {args : List D} {N : Nat} (hN : fn.ntmps = N) (hlen : args.length ≤ N) {rs : List ResultVar} (hrs : fn.results.toList = rs)
    {n : Nat} {H : Hp} {K : D → Nat → Hp → Prop} (hk : exA P T N n c (bodyQ T rs K) (getL args) n H) : CallA P f args n H K := by
  refine ⟨⟨fn, c, hf, hname, hb⟩, fun h m w vals hg r hl hr => ?_⟩
  refine calls_of_wp hf hb ?_
  have hsr : SR N w (Bl m H) h m n (getL args) n H { tmps := vals.toArray ++ Array.replicate (fn.ntmps - vals.toArray.size) undef, defers := [] } w :=
    ⟨h, m, FLe.refl _, fun b o x hx => .inl hx, fun _ _ => rfl, Nat.le_refl _, ⟨r, FR.refl _ _, fun id O b N' h1 h2 => .inr ⟨id, O, N', h1, h2⟩⟩, env0_rel hg hl hr _, by simp; omega, rfl⟩
  refine wp_mono (exA_sound hT hmix c hc hk w (Bl m H) h m _ w hsr) ?_
  rintro ex a' w' ⟨e', n', H', hq, h', m', hle, hnew, hm', hn', hw', re', hs', hd'⟩
  have fin : resA T rs e' H' (fun ds => K (oneD ds) n' H') → a'.defers = [] ∧ ∃ v, (results fn a'.tmps).run P w' = .ok v w' ∧ ∃ v_1 d n' H' h' m', Ending.returned v = .returned v_1 ∧ K d n' H' ∧ FLe h h' ∧ (∀ b o x, h' b o = some x → h b o = some x ∨ w.heap.size ≤ b ∨ Bl m H b) ∧ (∀ id, id < n → m' id = m id) ∧ n ≤ n' ∧ WR w (Bl m H) h' m' n' H' w' ∧ RD h' m' d v_1 := by
    intro hq
    obtain ⟨d, v, h1, h2, h3⟩ := results_sound hT hw'.rh re' (K := fun d => K d n' H') (by rw [hrs]; exact hq)
    exact ⟨hd', v, h1, v, d, n', H', h', m', rfl, h2, hle, hnew, hm', hn', hw', h3⟩
  cases ex with
  | normal => exact fin hq
  | ret => exact fin hq
  | _ => exact hq.elim

/-! ### What a call of values without identity hands back is frozen -/
open Classical in
noncomputable def hot (h : FM) (w0 w : World) : FM := fun b o => match h b o with
  | some x => some x
  | none => if w0.heap.size ≤ b then w.cell? ⟨b, o, none⟩ else none

theorem hot_le (h : FM) (w0 w : World) : FLe h (hot h w0 w) := by
  intro b o x hx; unfold hot; rw [hx]
theorem hot_new {b o : Nat} {x : Value} (hx : hot h w0 w b o = some x) : h b o = some x ∨ w0.heap.size ≤ b := by
  unfold hot at hx
  split at hx
  · rename_i y hy; left; rw [hy]; exact hx
  · split at hx
    · exact .inr (by assumption)
    · cases hx
theorem hot_froz (r : Froz h w) : Froz (hot h w0 w) w := by
  intro b o x hx
  unfold hot at hx
  split at hx
  · rename_i y hy; cases hx; exact r _ _ _ hy
  · split at hx
    · exact hx
    · cases hx
theorem hot_get (r : Froz h w) {b o : Nat} {x : Value} (hb : w0.heap.size ≤ b) (hx : w.cell? ⟨b, o, none⟩ = some x) : hot h w0 w b o = some x := by
  unfold hot
  split
  · rename_i y hy; rw [r _ _ _ hy] at hx; exact hx
  · rw [if_pos hb]; exact hx

theorem frzA_sound (r : RH h m n H w) {h2 : FM} (hl : FLe h h2) (hg : ∀ id O b N, H id = some O → m id = some (b, N) → ∀ o x, w.cell? ⟨b, o, none⟩ = some x → h2 b o = some x) {d : D} {v : Value} (rd : RD h m d v) {K : D → Prop} (hk : frzA H d K) : ∃ d', K d' ∧ RI h2 d' v := by
  unfold frzA at hk
  split at hk
  · rename_i id k lo len
    obtain ⟨O, hO, hk', hlo, hI, hK⟩ := hk
    subst hk'
    refine ⟨_, hK, ?_⟩
    obtain ⟨es, rfl, hlen, hs⟩ := src_sound (x := .msl id O.k lo len) (k := O.k) (K := (· = (O.es.drop lo).take len)) ⟨O, hO, rfl, rfl, hlo, rfl⟩ r rd
    have hII : ∀ d ∈ ((O.es.drop lo).take len).flatten, isI d = true := by
      intro d hd
      obtain ⟨c, hc, hd⟩ := List.mem_flatten.1 hd
      exact isIL_mem (hI c (List.mem_of_mem_drop (List.mem_of_mem_take hc))) d hd
    rcases hs with ⟨h1, A, c, rfl⟩ | ⟨ad, c, us, rfl, h2, h3, h4, h5⟩
    · rw [h1]; exact .slE _ _ _
    · have hL : ((O.es.drop lo).take len).length ≤ len := List.length_take_le _ _
      rcases rd.msl_inv with ⟨b, N, c', hm, hc, hN, he⟩ | ⟨h0, A, he⟩
      · injection he with e1 e2 e3
        have e1 := Option.some.inj e1
        subst e1
        refine .sl _ _ b (lo * O.k) _ _ (fun j => us.getD j undef) hlen rfl (by omega) (fun j hj => ?_) (fun j d hd => ?_)
        · have hj' : j < us.length := by rw [h2]; exact hj
          rw [List.getD_eq_getElem?_getD, List.getElem?_eq_getElem hj']
          refine ⟨hg id O b N hO hm _ _ ?_, h5 _ (List.getElem_mem hj')⟩
          have := h3 j _ (List.getElem?_eq_getElem hj')
          rw [Addr.add_lit] at this
          exact this
        · have hj' : j < us.length := by
            have := get_lt hd
            rw [flat_len _ O.k hlen] at this
            omega
          rw [List.getD_eq_getElem?_getD, List.getElem?_eq_getElem hj']
          exact (isI_sound d _ (hII d (List.mem_of_getElem? hd)) (h4 j d _ hd (List.getElem?_eq_getElem hj'))).mono hl
      · have h6 : ((O.es.drop lo).take len) = [] := List.eq_nil_of_length_eq_zero (by omega)
        rw [h6]; exact .slE _ _ _
  · rename_i id j
    obtain ⟨O, cells, hO, hes, hI, hK⟩ := hk
    refine ⟨_, hK, ?_⟩
    obtain ⟨b, N, hm, rfl⟩ := rd.ptr_inv
    obtain ⟨_, u, hu, hr, h1⟩ := obj_elem r hO hm (x := 0) (c := cells) (by rw [hes]; rfl)
    refine .fp cells j b 0 j u (by omega) (fun i hi => ⟨hg id O b N hO hm _ _ (by have := hu i hi; simpa using this), h1 i hi⟩) (fun i d hd => ?_)
    exact (isI_sound d _ (isIL_mem hI d (List.mem_of_getElem? hd)) (hr i d hd)).mono hl
  · split at hk
    · rename_i h1; exact ⟨d, hk, (isI_sound d v h1 rd).mono hl⟩
    · exact hk.elim

theorem frzL_sound (r : RH h m n H w) {h2 : FM} (hl : FLe h h2) (hg : ∀ id O b N, H id = some O → m id = some (b, N) → ∀ o x, w.cell? ⟨b, o, none⟩ = some x → h2 b o = some x) : ∀ (ds : List D) (vs : List Value) {K : List D → Prop}, ds.length = vs.length → (∀ (i : Nat) d x, ds[i]? = some d → vs[i]? = some x → RD h m d x) → frzL H ds K →
    ∃ ds', K ds' ∧ ds'.length = vs.length ∧ (∀ (i : Nat) d x, ds'[i]? = some d → vs[i]? = some x → RI h2 d x)
  | [], [], K, _, _, hk => ⟨[], hk, rfl, by simp⟩
  | [], _ :: _, _, hll, _, _ => by simp at hll
  | _ :: _, [], _, hll, _, _ => by simp at hll
  | d :: ds, v :: vs, K, hll, hr, hk => by
    obtain ⟨d', hk, h1⟩ := frzA_sound r hl hg (hr 0 d v rfl rfl) hk
    obtain ⟨ds', hk, h2, h3⟩ := frzL_sound r hl hg ds vs (by simpa using hll) (fun i d x hd hx => hr (i + 1) d x (by simpa using hd) (by simpa using hx)) hk
    refine ⟨d' :: ds', hk, by simp [h2], fun i d x hd hx => ?_⟩
    cases i with
    | zero => simp at hd hx; subst hd; subst hx; exact h1
    | succ i => exact h3 i d x (by simpa using hd) (by simpa using hx)

theorem frzT_sound (r : WR w0 (fun _ => False) h m n H w) {d : D} {v : Value} (rd : RD h m d v) {K : D → Prop} (hk : frzT H d K) : ∃ d', K d' ∧ RI (hot h w0 w) d' v := by
  have hl := hot_le h w0 w
  have hg : ∀ id O b N, H id = some O → m id = some (b, N) → ∀ o x, w.cell? ⟨b, o, none⟩ = some x → hot h w0 w b o = some x := fun id O b N h1 h2 o x hx => hot_get r.rh.froz ((r.wb id O b N h1 h2).resolve_right (fun h => h)) hx
  unfold frzT at hk
  split at hk
  · obtain ⟨xs, rfl, hll, hr⟩ := rd.tuple_inv
    obtain ⟨ds', hk, h1, h2⟩ := frzL_sound r.rh hl hg _ xs hll hr hk
    exact ⟨_, hk, .tuple _ _ h1 h2⟩
  · obtain ⟨xs, rfl, hll, hr⟩ := rd.agg_inv
    obtain ⟨ds', hk, h1, h2⟩ := frzL_sound r.rh hl hg _ xs hll hr hk
    exact ⟨_, hk, .agg _ _ h1 h2⟩
  · exact frzA_sound r.rh hl hg rd hk

def H0 : Hp := fun _ => none

/-- a function of values without identity, by its body -/
theorem pc_callA {f : Nat} {args : List D} {d : D} (hI : isIL args = true) (hk : CallA P f args 0 H0 fun d' _ H' => frzT H' d' (· = d)) : PC P f args d := by
  obtain ⟨hb, hc⟩ := hk
  refine ⟨hb, hI, fun h w vals hg hz hl hr => ?_⟩
  have r : RH h (fun _ => none) 0 H0 w := ⟨hz, fun _ _ => ⟨rfl, rfl⟩, fun id O hO => (by cases hO), fun id id' O O' b N N' hO => (by cases hO)⟩
  refine (hc h _ w vals hg r hl (fun i d x hd hx => .imm _ _ (hr i d x hd hx))).mono ?_
  rintro en w' ⟨v, d', n', H', h', m', rfl, hK, hle, hnew, hm', hn', hw', hd⟩
  have hB : ∀ b, ¬ Bl (fun _ => none) H0 b := fun b ⟨_, _, _, h1, _⟩ => by cases h1
  have hw2 : WR w (fun _ => False) h' m' n' H' w' :=
    ⟨hw'.rh, ⟨hw'.fr.os, hw'.fr.tape, hw'.fr.output, hw'.fr.size, fun b hb' _ => hw'.fr.block b hb' (hB b)⟩, fun id O b N h1 h2 => (hw'.wb id O b N h1 h2).imp (fun h => h) (fun h => hB b h)⟩
  obtain ⟨d2, rfl, hri⟩ := frzT_sound hw2 hd hK
  refine ⟨v, hot h' w w', rfl, hle.trans (hot_le _ _ _), fun b o x hx => ?_, hot_froz hw2.rh.froz, hri, hw2.fr⟩
  rcases hot_new hx with h1 | h1
  · rcases hnew b o x h1 with h2 | h2 | h2
    · exact .inl h2
    · exact .inr h2
    · exact absurd h2 (hB b)
  · exact .inr h1

theorem callA_pc {f : Nat} {args : List D} {d : D} (hp : PC P f args d) {K : D → Nat → Hp → Prop} (hK : K d n H) : CallA P f args n H K := by
  obtain ⟨hb, hI, hc⟩ := hp
  refine ⟨hb, fun h m w vals hg r hl hr => ?_⟩
  refine (hc h w vals hg r.froz hl (isIL_sound args vals hI hr)).mono ?_
  rintro en w' ⟨v, h', rfl, hle, hnew, hfz, hd, hfr⟩
  have hbk : ∀ b, b < w.heap.size → w'.heap[b]? = w.heap[b]? := fun b hb => hfr.block b hb (fun h => h)
  have r' := r.keep hbk
  have hrh : RH h' m n H w' := by
    refine ⟨hfz, r'.far, fun j O hO => ?_, r'.inj⟩
    rcases r'.obj j O hO with h1 | ⟨b, xs, h1, h2, h3, h4, h5, h6⟩
    · exact .inl h1
    · refine .inr ⟨b, xs, h1, h2, h3, h4, fun q d x hd hx => ⟨(h5 q d x hd hx).1.mono hle (MLe.refl _), (h5 q d x hd hx).2⟩, fun o => ?_⟩
      cases hq : h' b o with
      | none => rfl
      | some x =>
        rcases hnew b o x hq with h7 | h7
        · rw [h6 o] at h7; cases h7
        · rcases r.obj j O hO with ⟨h8, _⟩ | ⟨b', ys, h8, h9, _⟩
          · rw [h8] at h1; cases h1
          · rw [h8] at h1
            have h10 := (Prod.mk.inj (Option.some.inj h1)).1
            have := block_lt_of_get h9; omega
  refine ⟨v, d, n, H, h', m, rfl, hK, hle, fun b o x hx => ?_, fun _ _ => rfl, Nat.le_refl _, ⟨hrh, ⟨hfr.os, hfr.tape, hfr.output, hfr.size, fun b hb' _ => hbk b hb'⟩, fun id O b N h1 h2 => .inr ⟨id, O, N, h1, h2⟩⟩, .imm _ _ hd⟩
  rcases hnew b o x hx with h1 | h1
  · exact .inl h1
  · exact .inr (.inl h1)

/-- a value that names nothing -/
def flatV : List D → Bool
  | [] => true
  | .v _ :: l => flatV l
  | _ => false
def flatL : List D → Bool
  | [] => true
  | .v _ :: l => flatL l
  | .agg ds :: l => flatV ds && flatL l
  | _ => false
def flat : D → Bool
  | .v _ => true
  | .agg ds => flatL ds
  | .tuple ds => flatL ds
  | _ => false

theorem flatV_any {h h2 : FM} : ∀ {ds : List D} {xs : List Value}, flatV ds = true → (∀ (i : Nat) d x, ds[i]? = some d → xs[i]? = some x → RI h d x) → ∀ (i : Nat) d x, ds[i]? = some d → xs[i]? = some x → RI h2 d x
  | [], _, _, _ => by intro i d x hd; simp at hd
  | d :: ds, [], _, _ => by intro i d x hd hx; simp at hx
  | d :: ds, y :: ys, hf, hr => by
    intro i d' x' h3 h4
    cases d <;> simp only [flatV] at hf <;> try cases hf
    cases i with
    | zero =>
      have := hr 0 _ y rfl rfl
      simp at h3 h4; subst h3; subst h4
      cases this; exact .v _
    | succ i => exact flatV_any hf (fun i d x h5 h6 => hr (i + 1) d x (by simpa using h5) (by simpa using h6)) i d' x' (by simpa using h3) (by simpa using h4)
theorem flatL_any {h h2 : FM} : ∀ {ds : List D} {xs : List Value}, flatL ds = true → (∀ (i : Nat) d x, ds[i]? = some d → xs[i]? = some x → RI h d x) → ∀ (i : Nat) d x, ds[i]? = some d → xs[i]? = some x → RI h2 d x
  | [], _, _, _ => by intro i d x hd; simp at hd
  | d :: ds, [], _, _ => by intro i d x hd hx; simp at hx
  | d :: ds, y :: ys, hf, hr => by
    intro i d' x' h3 h4
    have tail : flatL ds = true → ∀ (i : Nat) d x, ds[i]? = some d → ys[i]? = some x → RI h2 d x := fun hf => flatL_any hf (fun i d x h5 h6 => hr (i + 1) d x (by simpa using h5) (by simpa using h6))
    cases d <;> simp only [flatL] at hf <;> try cases hf
    · cases i with
      | zero =>
        have := hr 0 _ y rfl rfl
        simp at h3 h4; subst h3; subst h4
        cases this; exact .v _
      | succ i => exact tail hf i d' x' (by simpa using h3) (by simpa using h4)
    · rw [Bool.and_eq_true] at hf
      cases i with
      | zero =>
        have := hr 0 _ y rfl rfl
        simp at h3 h4; subst h3; subst h4
        cases this with
        | agg _ xs hl r => exact .agg _ xs hl (flatV_any hf.1 r)
      | succ i => exact tail hf.2 i d' x' (by simpa using h3) (by simpa using h4)
theorem flat_any {h h2 : FM} {d : D} {x : Value} (hf : flat d = true) (r : RI h d x) : RI h2 d x := by
  cases d <;> simp only [flat] at hf <;> try cases hf
  · cases r; exact .v _
  · cases r with
    | agg _ xs hl r => exact .agg _ xs hl (flatL_any hf r)
  · cases r with
    | tuple _ xs hl r => exact .tuple _ xs hl (flatL_any hf r)

/-- a call of a function of values without identity, with objects that stand still meanwhile; the result names none of them -/
theorem callA_thaw {f : Nat} {args : List D} {d : D} (hz : frzL H args fun args' => PC P f args' d) (hf : flat d = true) (hb : HasBody P f) {K : D → Nat → Hp → Prop} (hK : K d n H) : CallA P f args n H K := by
  refine ⟨hb, fun h m w vals hg r hl hr => ?_⟩
  let h2 : FM := fun b o => w.cell? ⟨b, o, none⟩
  have hle : FLe h h2 := fun b o x hx => r.froz b o x hx
  obtain ⟨args', ⟨_, hI, hc⟩, hl', hr'⟩ := frzL_sound r hle (fun _ _ _ _ _ _ _ _ hx => hx) args vals hl hr hz
  refine (hc h2 w vals (hg.trans hle) (fun _ _ _ hx => hx) hl' hr').mono ?_
  rintro en w' ⟨v, h', rfl, _, _, _, hd, hfr⟩
  have hbk : ∀ b, b < w.heap.size → w'.heap[b]? = w.heap[b]? := fun b hb => hfr.block b hb (fun h => h)
  exact ⟨v, d, n, H, h, m, rfl, hK, FLe.refl _, fun b o x hx => .inl hx, fun _ _ => rfl, Nat.le_refl _, ⟨r.keep hbk, ⟨hfr.os, hfr.tape, hfr.output, hfr.size, fun b hb' _ => hbk b hb'⟩, fun id O b N h1 h2 => .inr ⟨id, O, N, h1, h2⟩⟩, .imm _ _ (flat_any hf hd)⟩

/-- a contract of the kit's make, of plain values -/
theorem pc_of_calls {f : Nat} {xs : List Value} {v : Value} (hb : HasBody P f) (hc : ∀ w, Calls P f xs.toArray w fun e w' => e = .returned v ∧ w' = w) : PC P f (xs.map D.v) (.v v) := by
  refine ⟨hb, ?_, fun h w vals _ hz hl hr => ?_⟩
  · clear hc
    induction xs with
    | nil => rfl
    | cons x xs ih => simp only [List.map_cons, isIL, isI]; exact ih
  · have : vals = xs := by
      apply List.ext_getElem?
      intro i
      rcases Nat.lt_or_ge i xs.length with h1 | h1
      · have h2 : i < vals.length := by simp at hl; omega
        have := hr i (.v xs[i]) vals[i] (by rw [List.getElem?_map, List.getElem?_eq_getElem h1]; rfl) (List.getElem?_eq_getElem h2)
        rw [List.getElem?_eq_getElem h1, List.getElem?_eq_getElem h2, (RD.imm (m := fun _ => none) _ _ this).v_inv]
      · rw [List.getElem?_eq_none h1, List.getElem?_eq_none (by simp at hl; omega)]
    subst this
    refine (hc w).mono ?_
    rintro e w' ⟨rfl, rfl⟩
    exact ⟨v, h, rfl, FLe.refl _, fun b o x hx => .inl hx, hz, .v _, FR.refl _ _⟩

theorem hasBody_of {f : Nat} {args : List D} {d : D} (h : PC P f args d) : HasBody P f := h.1

end
end Bk
