/- The operations of a region that draws its order are sound. -/
import Derived.Test.YtobfdenalhmecaaDoorKs
set_option linter.unusedSimpArgs false
set_option linter.unusedSectionVars false
set_option linter.unusedVariables false
namespace Bk
open Go
variable [Gh]

section
variable {P : Program} {T : Tab} {w0 w : World} {W : Nat → Prop} {h : FM} {m : BM} {n : Nat} {H : Hp} {e e' : Env} {a : Act}
variable {id : Nat} {K : D → Prop} {Q : Exit → Act → World → Prop}

theorem opN_sound (hT : TabOk P T) (o : Oper) (hk : opN P T o.op e n H K) (r : WR w0 W h m n H w) (re : ER h m e a) (hid : id < n) (hm : m id = none) :
    OpGoal P o a w w0 W h m n id (fun d n' H' => K d ∧ n' = n ∧ H' = H) Q := by
  by_cases ho : stillB o.op = true
  · rw [opN_still ho] at hk
    exact op_sound hT o (opA_still (c' := CallA P) (i' := id) ho hk) r re hid hm
  · obtain ⟨dst, op, ty, pos, af, gd⟩ := o
    cases op with
    | binOp op t x y yt =>
      simp only [opN] at hk
      split at hk
      · exact hk.elim
      · exact hk.elim
      · obtain ⟨v, d, hrun, hK, hd⟩ := binA_sound hT hk re w
        exact goal_of_pure hrun r hd ⟨hK, rfl, rfl⟩
    | buildSlice t len parts =>
      simp only [opN] at hk
      split at hk
      rotate_left
      · exact hk.elim
      rename_i sz by_ z0 el hti
      split at hk
      rotate_left
      · exact hk.elim
      rename_i i hei
      split at hk
      rotate_left
      · exact hk.elim
      rename_i es hes
      split at hk
      rotate_left
      · exact hk.elim
      rename_i hll hbb hI
      rw [forceLL_eq] at hk
      have hll := lenL_iff hll
      have hbb := Nat.le_of_ble_eq_true hbb
      obtain ⟨us, hrun, i4, i1, i6, i7⟩ := buildSlice_run (dst := dst) (ty := ty) (pos := pos) (af := af) (gd := gd) hT hti hei hes hll hbb re w
      intro next hn
      have hr := r.layFrozen us el
      have hle : FLe h (addF h w.heap.size us) := addF_le us (fresh_none r)
      have hrd : RI (addF h w.heap.size us) (.sl i.sz es) (.slice (some ⟨w.heap.size, 0, none⟩) len len) := by
        refine .sl i.sz es w.heap.size 0 len len (fun j => us.getD j undef) i1 hll (Nat.le_refl _) (fun j hj => ?_) (fun j d hd => ?_)
        · have hj : j < us.length := by rw [i4, hll]; exact hj
          rw [Nat.zero_add, addF_self, List.getD_eq_getElem?_getD, List.getElem?_eq_getElem hj]
          exact ⟨rfl, i7 _ (List.getElem_mem hj)⟩
        · have hj : j < us.length := by
            have := get_lt hd
            rw [flat_len es i.sz i1] at this
            omega
          rw [List.getD_eq_getElem?_getD, List.getElem?_eq_getElem hj]
          exact (isI_sound d _ (isILL_flat hI d (List.mem_of_getElem? hd)) (i6 j d _ hd (List.getElem?_eq_getElem hj))).mono hle
      have := hn (.sl i.sz es) n H (addF h w.heap.size us) m _ _ ⟨hk, rfl, rfl⟩ hle (fun b o x hx => ?_) (fun _ _ _ => rfl) (Nat.le_refl _) hr (MLe.refl _) (.imm _ _ hrd)
      · unfold Oper.wp; rw [hrun, Oper.upon_value]; exact this
      · rcases addF_new hx with h1 | h1
        · exact .inl h1
        · exact .inr (.inl (by rw [h1]; exact r.fr.size))
    | call cl =>
      obtain ⟨cal, args, ats⟩ := cl
      cases cal with
      | value f =>
        simp only [opN] at hk
        split at hk
        rotate_left
        · exact hk.elim
        rename_i g x y hf
        have rf := re.ev f
        rw [hf] at rf
        obtain ⟨us, vs, hv, hxl, hyl, hxr, hyr⟩ := rf.fn_inv
        obtain ⟨d, ⟨⟨fn, c, hfn, hname, hbody⟩, hI, hc⟩, hK⟩ := hk
        intro next hn
        have hrun : (execOp a.eval ⟨dst, .call ⟨.value f, args, ats⟩, ty, pos, af, gd⟩).run P w = .ok (.enter g (us ++ args.toList.map a.eval ++ vs).toArray) w := by
          have e1 : (us.toArray ++ args.map a.eval ++ vs.toArray) = (us ++ args.toList.map a.eval ++ vs).toArray := by
            apply Array.ext'; simp
          simp only [execOp, resolve, hv, Deferred.ofValue, Sem.run_bind, Sem.run_pure, Result.andThen_ok, invoke, Go.MuLone.run_callFunc_enter hfn hname hbody, e1]
        unfold Oper.wp
        rw [hrun, Oper.upon_enter]
        have hrel := isIL_sound _ (us ++ args.toList.map a.eval ++ vs) hI (app_rel (by simp [hxl]) (app_rel hxl hxr (list_rel re _)) hyr)
        have hcall := hc h w (us ++ args.toList.map a.eval ++ vs) re.gl r.rh.froz (by simp [hxl, hyl]) hrel
        refine hcall.mono ?_
        rintro en w' ⟨v, h', rfl, hle, hnew, hfz, hd, hfr⟩
        have hb : ∀ b, b < w.heap.size → w'.heap[b]? = w.heap[b]? := fun b hb => hfr.block b hb (fun h => h)
        have r' := r.rh.keep hb
        have hrh : RH h' m n H w' := by
          refine ⟨hfz, r'.far, fun j O hO => ?_, r'.inj⟩
          rcases r'.obj j O hO with h1 | ⟨b, xs, h1, h2, h3, h4, h5, h6⟩
          · exact .inl h1
          · refine .inr ⟨b, xs, h1, h2, h3, h4, fun q d x hd hx => ⟨(h5 q d x hd hx).1.mono hle (MLe.refl _), (h5 q d x hd hx).2⟩, fun o => ?_⟩
            cases hq : h' b o with
            | none => rfl
            | some x =>
              rcases hnew b o x hq with h7 | h7
              · rw [h6 o] at h7; cases h7
              · rcases r.rh.obj j O hO with ⟨h8, _⟩ | ⟨b', ys, h8, h9, _⟩
                · rw [h8] at h1; cases h1
                · rw [h8] at h1
                  have h10 := (Prod.mk.inj (Option.some.inj h1)).1
                  have := block_lt_of_get h9; omega
        refine hn d n H h' m w' v ⟨hK, rfl, rfl⟩ hle (fun b o x hx => ?_) (fun _ _ _ => rfl) (Nat.le_refl _) ⟨hrh, r.fr.trans hfr (fun _ _ h => h.elim), fun j O b N h1 h2 => r.wb j O b N h1 h2⟩ (MLe.refl _) (.imm _ _ hd)
        rcases hnew b o x hx with h1 | h1
        · exact .inl h1
        · exact .inr (.inl (Nat.le_trans r.fr.size h1))
      | invoke => exact hk.elim
      | builtin b => cases b <;> first | exact absurd rfl ho | exact hk.elim
    | _ => first | exact absurd rfl ho | exact hk.elim

end
end Bk
