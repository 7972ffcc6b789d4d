/- Each operation; a region of them. -/
import Derived.Test.YtobfdenalhmecaaDoorKn
import Derived.Conc.MuLone
set_option linter.unusedSimpArgs false
set_option linter.unusedSectionVars false
set_option linter.unusedVariables false
namespace Bk
open Go
variable [Gh]

section
variable {P : Program} {T : Tab} {w0 w : World} {W : Nat → Prop} {h : FM} {m : BM} {n : Nat} {H : Hp} {e : Env} {a : Act}
variable {id : Nat} {K : D → Nat → Hp → Prop} {Q : Exit → Act → World → Prop}

theorem list_rel (re : ER h m e a) (l : List Operand) : ∀ (i : Nat) d x, (l.map (ev e))[i]? = some d → (l.map a.eval)[i]? = some x → RD h m d x := by
  intro i d x hd hx
  rw [List.getElem?_map] at hd hx
  cases hl : l[i]? with
  | none => rw [hl] at hd; simp at hd
  | some o => rw [hl] at hd hx; simp at hd hx; subst hd; subst hx; exact re.ev o

theorem app_rel {xs ys : List D} {us vs : List Value} (hl : xs.length = us.length) (h1 : ∀ (i : Nat) d x, xs[i]? = some d → us[i]? = some x → RD h m d x) (h2 : ∀ (i : Nat) d x, ys[i]? = some d → vs[i]? = some x → RD h m d x) :
    ∀ (i : Nat) d x, (xs ++ ys)[i]? = some d → (us ++ vs)[i]? = some x → RD h m d x := by
  intro i d x hd hx
  by_cases hi : i < xs.length
  · rw [List.getElem?_append_left (by omega)] at hd hx
    exact h1 i d x hd hx
  · rw [List.getElem?_append_right (by omega)] at hd hx
    rw [← hl] at hx
    exact h2 _ d x hd hx

theorem RD.fn_inv {f : Fn} {first cap : List D} {v : Value} (r : RD h m (.fn f first cap) v) : ∃ xs ys : List Value, v = .func f xs.toArray ys.toArray ∧ first.length = xs.length ∧ cap.length = ys.length ∧
    (∀ (i : Nat) d x, first[i]? = some d → xs[i]? = some x → RD h m d x) ∧ (∀ (i : Nat) d x, cap[i]? = some d → ys[i]? = some x → RD h m d x) := by
  cases r with
  | imm _ _ r => cases r with
    | fn _ _ _ xs ys hx hy rx ry => exact ⟨xs, ys, rfl, hx, hy, fun i d x h1 h2 => .imm _ _ (rx i d x h1 h2), fun i d x h1 h2 => .imm _ _ (ry i d x h1 h2)⟩
  | fn _ _ _ xs ys hx hy rx ry => exact ⟨xs, ys, rfl, hx, hy, rx, ry⟩

theorem call_goal {dst : Option Tmp} {f : Operand} {args : Array Operand} {ats : Array TypeId} {ty : TypeId} {pos : String} {af : Array Edge} {gd : Option (Nat × Bool)}
    (hk : opA T (CallA P) (.call ⟨.value f, args, ats⟩) e n H id K) (r : WR w0 W h m n H w) (re : ER h m e a) :
    OpGoal P ⟨dst, .call ⟨.value f, args, ats⟩, ty, pos, af, gd⟩ a w w0 W h m n id K Q := by
  simp only [opA] at hk
  split at hk
  rotate_left
  · exact hk.elim
  rename_i g x y hf
  have rf := re.ev f
  rw [hf] at rf
  obtain ⟨us, vs, hv, hxl, hyl, hxr, hyr⟩ := rf.fn_inv
  obtain ⟨⟨fn, c, hfn, hname, hbody⟩, hc⟩ := hk
  intro next hn
  have hrun : (execOp a.eval ⟨dst, .call ⟨.value f, args, ats⟩, ty, pos, af, gd⟩).run P w = .ok (.enter g (us ++ args.toList.map a.eval ++ vs).toArray) w := by
    have e1 : (us.toArray ++ args.map a.eval ++ vs.toArray) = (us ++ args.toList.map a.eval ++ vs).toArray := by
      apply Array.ext'; simp
    simp only [execOp, resolve, hv, Deferred.ofValue, Sem.run_bind, Sem.run_pure, Result.andThen_ok, invoke, Go.MuLone.run_callFunc_enter hfn hname hbody, e1]
  unfold Oper.wp
  rw [hrun, Oper.upon_enter]
  have hcall := hc h m w (us ++ args.toList.map a.eval ++ vs) re.gl r.rh (by simp [hxl, hyl]) (app_rel (by simp [hxl]) (app_rel hxl hxr (list_rel re _)) hyr)
  refine hcall.mono ?_
  rintro en w' ⟨v, d, n', H', h', m', rfl, hK, hle, hnew, hm', hnn, hw, hd⟩
  have hfar : ∀ j, n ≤ j → m j = none := fun j hj => (r.rh.far j hj).1
  have ml : MLe m m' := by
    intro j z hz
    have hj : j < n := by
      rcases Nat.lt_or_ge j n with h1 | h1
      · exact h1
      · rw [hfar j h1] at hz; cases hz
    rw [hm' j hj]; exact hz
  have hB : ∀ b, Bl m H b → w0.heap.size ≤ b ∨ W b := fun b ⟨i, O, N, h1, h2⟩ => r.wb i O b N h1 h2
  refine hn d n' H' h' m' w' v hK hle (fun b o x e => ?_) (fun j hj _ => hm' j hj) hnn ⟨hw.rh, r.fr.trans hw.fr (fun b hb hbl => ?_), fun i O b N h1 h2 => ?_⟩ ml hd
  · rcases hnew b o x e with h1 | h1 | h1
    · exact .inl h1
    · exact .inr (.inl (Nat.le_trans r.fr.size h1))
    · exact .inr (hB b h1)
  · rcases hB b hbl with h1 | h1
    · omega
    · exact h1
  · rcases hw.wb i O b N h1 h2 with h3 | h3
    · exact .inl (Nat.le_trans r.fr.size h3)
    · exact hB b h3

theorem op_sound (hT : TabOk P T) (o : Oper) (hk : opA T (CallA P) o.op e n H id K) (r : WR w0 W h m n H w) (re : ER h m e a) (hid : id < n) (hm : m id = none) : OpGoal P o a w w0 W h m n id K Q := by
  obtain ⟨dst, op, ty, pos, af, gd⟩ := o
  cases op with
  | move x => exact goal_of_pure (by simp [execOp]) r (re.ev x) hk
  | assign x => exact goal_of_pure (by simp [execOp]) r (re.ev x) hk
  | pick c x y =>
    simp only [opA] at hk
    split at hk
    rotate_left
    · exact hk.elim
    rename_i t hc
    have rc := re.ev c
    rw [hc] at rc
    have hv := rc.v_inv
    cases t with
    | true => exact goal_of_pure (v := a.eval x) (by simp [execOp, hv, asBool]) r (re.ev x) hk
    | false => exact goal_of_pure (v := a.eval y) (by simp [execOp, hv, asBool]) r (re.ev y) hk
  | alloc t => exact alloc_goal hT hk r hid hm
  | box t x => exact box_goal hk r re hid hm
  | build t ps => exact build_goal hT hk r re
  | buildSlice t l ps => exact buildSlice_goal hT hk r re hid hm
  | insert => exact hk.elim
  | load t x =>
    simp only [opA] at hk
    obtain ⟨d, y, hrun, hK, hd⟩ := load_sound hT hk r.rh re.gl (re.ev x)
    exact goal_of_pure (v := y) (by simp [execOp, hrun]) r hd hK
  | store t x y =>
    simp only [opA] at hk
    obtain ⟨w', H', hrun, hK, hw⟩ := store_sound hT hk r (re.ev x) (re.ev y)
    exact goal_of_run (v := undef) (.inr ⟨by simp [execOp, hrun], rfl⟩) ⟨_, _, m, hK, MLe.refl _, fun _ _ => rfl, hw, .any _⟩
  | ready => exact hk.elim
  | waits => exact hk.elim
  | nilCheck x =>
    simp only [opA] at hk
    have rx := re.ev x
    split at hk
    · rename_i i j hx
      rw [hx] at rx
      obtain ⟨b, N, _, hv⟩ := rx.ptr_inv
      exact goal_of_pure (v := a.eval x) (by simp [execOp, hv]) r rx hk
    · rename_i i k y j hx
      rw [hx] at rx
      obtain ⟨b, N, _, hv⟩ := rx.eptr_inv
      exact goal_of_pure (v := a.eval x) (by simp [execOp, hv]) r rx hk
    · rename_i c j hx
      rw [hx] at rx
      obtain ⟨b, o, u, hv, _⟩ := rx.fp_inv
      exact goal_of_pure (v := a.eval x) (by simp [execOp, hv]) r rx hk
    · rename_i f y z hx
      rw [hx] at rx
      obtain ⟨us, vs, hv, _⟩ := rx.fn_inv
      exact goal_of_pure (v := a.eval x) (by simp [execOp, hv]) r rx hk
    · exact hk.elim
  | binOp op t x y yt =>
    simp only [opA] at hk
    obtain ⟨v, d, hrun, hK, hd⟩ := binA_sound hT hk re w
    exact goal_of_pure hrun r hd hK
  | unOp op t x =>
    simp only [opA, unA] at hk
    have rx := re.ev x
    split at hk
    · rename_i b hx
      rw [hx] at rx
      have hv := rx.v_inv
      exact goal_of_pure (v := .bool (notB b)) (by simp [execOp, hv, Op.unary, notB_eq]) r (.imm _ _ (.v _)) hk
    · rename_i k p hx
      rw [hx] at rx
      have hv := rx.v_inv
      exact goal_of_pure (v := .int k (wr k (0 - p))) (by simp [execOp, hv, Op.unary, Op.intArith, wr_eq]) r (.imm _ _ (.v _)) hk
    · exact hk.elim
  | convert s t x =>
    simp only [opA] at hk
    obtain ⟨y, d, hrun, hK, hd⟩ := conv_sound hT hk r.rh (re.ev x)
    exact goal_of_pure (v := y) (by simp [execOp, hrun]) r hd hK
  | sliceToArrayPointer => exact hk.elim
  | makeInterface t x =>
    simp only [opA] at hk
    split at hk
    · exact hk.elim
    · rename_i i hni hi
      obtain ⟨_, _, _, _, _, _, _, hkt, _⟩ := tab_info hT hi
      have hrun : (Instr.makeInterface t (a.eval x)).run P w = .ok (.iface t (a.eval x)) w := by
        refine run_makeInterface w t _ ?_
        unfold Program.concrete
        obtain ⟨sz, by_, z, kd⟩ := i
        cases hu : P.underlying t with
        | none => rw [hu] at hkt; cases kd <;> simp [kindFits] at hkt
        | some d =>
          rw [hu] at hkt
          cases d <;> first | rfl | (cases kd <;> simp [kindFits] at hkt; exact absurd rfl (hni _ _ _))
      exact goal_of_pure (v := .iface t (a.eval x)) (by simp [execOp, hrun]) r (.iface _ _ _ (re.ev x)) hk
    · exact hk.elim
  | makeFunc f x y =>
    simp only [opA] at hk
    refine goal_of_pure (v := .func f (x.toList.map a.eval).toArray (y.toList.map a.eval).toArray) ?_ r (.fn f _ _ _ _ (by simp) (by simp) (list_rel re _) (list_rel re _)) hk
    have e1 : ∀ z : Array Operand, z.map a.eval = (z.toList.map a.eval).toArray := fun z => by apply Array.ext'; simp
    simp only [execOp, Instr.makeFunc, Sem.run_bind, Sem.run_pure, Result.andThen_ok, e1]
  | makeMap => exact hk.elim
  | makeChan => exact hk.elim
  | makeSlice t l c => exact makeSlice_goal hT hk r re hid hm
  | slice t x lo hi mx => exact slice_goal hT hk r re
  | fieldAddr t x f => exact fieldAddr_goal hT hk r re
  | field t x f => exact field_goal hT hk r re
  | indexAddr t x i => exact indexAddr_goal hT hk r re
  | index t x i => exact index_goal hT hk r re
  | lookup => exact hk.elim
  | mapUpdate => exact hk.elim
  | mapEntry => exact hk.elim
  | entryStore => exact hk.elim
  | range => exact hk.elim
  | next => exact hk.elim
  | entry => exact hk.elim
  | typeAssert => exact hk.elim
  | extract x i =>
    simp only [opA] at hk
    split at hk
    rotate_left
    · exact hk.elim
    rename_i ds hx
    have rx := re.ev x
    rw [hx] at rx
    obtain ⟨xs, hv, hl, hr⟩ := rx.tuple_inv
    split at hk
    rotate_left
    · exact hk.elim
    rename_i d hd
    have hi : i < xs.length := by rw [← hl]; exact get_lt hd
    exact goal_of_pure (v := xs[i]) (by simp [execOp, hv, Instr.extract, hi]) r (hr i d _ hd (List.getElem?_eq_getElem hi)) hk
  | call c =>
    obtain ⟨cal, args, ats⟩ := c
    cases cal with
    | value f => exact call_goal hk r re
    | invoke => exact hk.elim
    | builtin b =>
      have fin : ∀ {v : Value} {w' : World}, (builtin b ats ty (args.map fun | .const _ => true | _ => false) (args.map a.eval)).run P w = .ok (.value v) w' → OpR w0 W h m n id K v w' → OpGoal P ⟨dst, .call ⟨.builtin b, args, ats⟩, ty, pos, af, gd⟩ a w w0 W h m n id K Q := by
        intro v w' h1 h2
        refine goal_of_run (.inl ?_) h2
        simp only [execOp, resolve, Sem.run_bind, Sem.run_pure, Result.andThen_ok, invoke]
        exact h1
      have one : ∀ {x : Operand} {t : TypeId}, args.toList = [x] → ats.toList = [t] → args.map a.eval = #[a.eval x] ∧ ats = #[t] := by
        intro x t h1 h2
        exact ⟨by apply Array.ext'; simp [h1], by apply Array.ext'; simp [h2]⟩
      have two : ∀ {x y : Operand}, args.toList = [x, y] → args.map a.eval = #[a.eval x, a.eval y] := by
        intro x y h1
        apply Array.ext'; simp [h1]
      cases b with
      | len =>
        simp only [opA] at hk
        split at hk
        rotate_left
        · exact hk.elim
        rename_i x t hx ht
        obtain ⟨e1, e2⟩ := one hx ht
        obtain ⟨y, d, hrun, hK, hd⟩ := lenA_sound hT hk (re.ev x) ty w
        exact fin (by rw [e1, e2]; simp [builtin, hrun]) ⟨d, H, m, hK, MLe.refl _, fun _ _ => rfl, r, hd⟩
      | append =>
        simp only [opA] at hk
        split at hk
        rotate_left
        · exact hk.elim
        rename_i s x t u hx ht
        split at hk
        rotate_left
        · have e2 : ats = #[t, u] := by apply Array.ext'; simp [ht]
          obtain ⟨v, w', hrun, hR⟩ := appendS_sound (ty := ty) hT hk r hid hm (re.ev s) (re.ev x)
          exact fin (by rw [two hx, e2]; simp [builtin, hrun]) hR
        rename_i htu
        have htu := Nat.eq_of_beq_eq_true htu
        subst htu
        have e2 : ats = #[t, t] := by apply Array.ext'; simp [ht]
        obtain ⟨v, w', hrun, hR⟩ := append_sound (ty := ty) hT hk r hid hm (re.ev s) (re.ev x)
        exact fin (by rw [two hx, e2]; simp [builtin, hrun]) hR
      | copy =>
        simp only [opA] at hk
        split at hk
        rotate_left
        · exact hk.elim
        rename_i s x t u hx ht
        have e2 : ats = #[t, u] := by apply Array.ext'; simp [ht]
        obtain ⟨v, w', hrun, hR⟩ := copy_sound (u := u) (ty := ty) hT hk r (re.ev s) (re.ev x) id
        exact fin (by rw [two hx, e2]; simp [builtin, hrun]) hR
      | clear =>
        simp only [opA] at hk
        split at hk
        rotate_left
        · exact hk.elim
        rename_i x t hx ht
        split at hk
        rotate_left
        · exact hk.elim
        rename_i hz
        obtain ⟨e1, e2⟩ := one hx ht
        obtain ⟨v, w', hrun, hR⟩ := clear_sound (ty := ty) hT hz hk r (re.ev x) id
        exact fin (by rw [e1, e2]; simp [builtin, hrun]) hR
      | min =>
        simp only [opA] at hk
        split at hk
        rotate_left
        · exact hk.elim
        rename_i x y hx
        rcases minA_sound (P := P) hk (re.ev x) (re.ev y) ats ty w with ⟨_, z, d, hrun, hK, hd⟩ | ⟨h0, _⟩
        · exact fin (by rw [two hx]; simp [builtin, hrun]) ⟨d, H, m, hK, MLe.refl _, fun _ _ => rfl, r, hd⟩
        · cases h0
      | max =>
        simp only [opA] at hk
        split at hk
        rotate_left
        · exact hk.elim
        rename_i x y hx
        rcases minA_sound (P := P) hk (re.ev x) (re.ev y) ats ty w with ⟨h0, _⟩ | ⟨_, z, d, hrun, hK, hd⟩
        · cases h0
        · exact fin (by rw [two hx]; simp [builtin, hrun]) ⟨d, H, m, hK, MLe.refl _, fun _ _ => rfl, r, hd⟩
      | _ => exact hk.elim
  | go => exact hk.elim
  | defer => exact hk.elim
  | panic => exact hk.elim
  | send => exact hk.elim
  | recv => exact hk.elim
  | select => exact hk.elim
end
end Bk
