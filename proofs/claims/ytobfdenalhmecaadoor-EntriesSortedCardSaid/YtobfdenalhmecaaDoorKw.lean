/- Regions; code. -/
import Derived.Test.YtobfdenalhmecaaDoorKv
set_option linter.unusedSimpArgs false
set_option linter.unusedSectionVars false
set_option linter.unusedVariables false
namespace Bk
open Go
variable [Gh]

section
variable {P : Program} {T : Tab} {N nb : Nat} {ops : Array Oper} {w0 : World} {W : Nat → Prop} {Q : Exit → Act → World → Prop} {K : Env → Nat → Hp → Prop}

theorem want_sound {o : Oper} {e : Env} {g : Bool} {h : FM} {m : BM} {a : Act} (hg : wantA ops o e g) (re : ER h m e a) : Region.wanted o (yielded ops a.tmps) = g := by
  unfold wantA at hg
  split at hg
  · rename_i h1; rw [wanted_none h1, hg]
  · rename_i j b h1
    obtain ⟨g', h2, h3⟩ := guard_sound hg re
    rw [wanted_some h1, h3, h2]

theorem anyA_sound (hT : TabOk P T) : ∀ (fuel : Nat) {listed : Array Bool} {e : Env} {n : Nat} {H : Hp} {h : FM} {m : BM} {a : Act} {w : World}, anyA P T N nb ops K fuel listed e n H →
    WR w0 W h m n H w → ER h m e a → a.tmps.size = N → a.defers = [] → nb + ops.size ≤ n → (∀ j, j < ops.size → listed.getD j true = false → m (nb + j) = none) → After N n nb w0 W h m K Q → wpAny P .any ops Q fuel listed a w
  | 0, listed, e, n, H, h, m, a, w, hk, r, re, hs, hdf, hnl, hm, hQ =>
    ⟨hk.1, hQ e n H h m a w hk.2 (FLe.refl _) (fun b o x hx => .inl hx) (fun _ _ => rfl) (Nat.le_refl _) r re hs hdf⟩
  | fuel + 1, listed, e, n, H, h, m, a, w, hk, r, re, hs, hdf, hnl, hm, hQ => by
    refine ⟨fun h0 => hQ e n H h m a w (hk.1 h0) (FLe.refl _) (fun b o x hx => .inl hx) (fun _ _ => rfl) (Nat.le_refl _) r re hs hdf, fun i hi => ?_⟩
    obtain ⟨hun, o, ho, _⟩ := mem_ready.1 hi
    have hil : i < ops.size := (Array.getElem?_eq_some_iff.1 ho).1
    have hst := hk.2 i hi o ho
    have hlist : ∀ j, (listed.setIfInBounds i true).getD j true = false → j ≠ i ∧ listed.getD j true = false := by
      intro j hj
      by_cases hji : j = i
      · subst hji
        rcases Nat.lt_or_ge j listed.size with h' | h'
        · simp [h'] at hj
        · simp [Array.getElem?_eq_none, h'] at hj
      · rw [getD_set_ne true (Ne.symm hji)] at hj; exact ⟨hji, hj⟩
    have next : ∀ d n' H' h' m' w' v, dstB N o.dst = true → anyA P T N nb ops K fuel (listed.setIfInBounds i true) (Bk.put e o.dst d) n' H' → FLe h h' → (∀ b o x, h' b o = some x → h b o = some x ∨ w0.heap.size ≤ b ∨ W b) → (∀ j, j < n → j ≠ nb + i → m' j = m j) → n ≤ n' → WR w0 W h' m' n' H' w' → MLe m m' → RD h' m' d v →
        wpAny P .any ops Q fuel (listed.setIfInBounds i true) (a.put o.dst v) w' := by
      intro d n' H' h' m' w' v hdst hk' hle hnew hm' hn' hw' ml hd
      refine anyA_sound hT fuel hk' hw' ((re.mono hle ml).put hdst hs hd) (by rw [put_size]; exact hs) (by rw [put_defers]; exact hdf) (by omega) (fun j hj hlj => ?_) (hQ.step hle hnew (fun j hj => hm' j (by omega) (by omega)) hn')
      obtain ⟨hji, hlj'⟩ := hlist j hlj
      rw [hm' (nb + j) (by omega) (by omega)]
      exact hm j hj hlj'
    have hid : nb + i < n := by omega
    have hmi := hm i hil hun
    unfold wpOp
    simp only [ho]
    unfold stepX at hst
    split at hst
    · obtain ⟨d, H', ⟨hdst, g, hg, h1, h2⟩, hK⟩ := hst
      rw [want_sound hg re]
      cases g with
      | false =>
        obtain ⟨rfl, rfl⟩ := h2 rfl
        exact next _ n H' h m w undef hdst hK (FLe.refl _) (fun b o x hx => .inl hx) (fun _ _ _ => rfl) (Nat.le_refl _) r (MLe.refl _) (.imm _ _ (.v _))
      | true =>
        have h1 := h1 rfl
        refine .inl ?_
        split at h1
        · refine op_sound hT o h1 r re hid hmi (Q := Q) _ ?_
          rintro d' n' H2 h' m' w' v ⟨rfl, rfl, rfl⟩ hle hnew hm' hn' hw' ml hd
          exact next _ _ _ h' m' w' v hdst hK hle hnew hm' hn' hw' ml hd
        · obtain ⟨h1, rfl⟩ := h1
          refine opN_sound hT o h1 r re hid hmi (Q := Q) _ ?_
          rintro d' n' H2 h' m' w' v ⟨rfl, rfl, rfl⟩ hle hnew hm' hn' hw' ml hd
          exact next _ _ _ h' m' w' v hdst hK hle hnew hm' hn' hw' ml hd
    · rename_i hsb
      obtain ⟨hdst, g, hg, h1, h2⟩ := hst
      rw [want_sound hg re]
      cases g with
      | false =>
        exact next _ n H h m w undef hdst (h2 rfl) (FLe.refl _) (fun b o x hx => .inl hx) (fun _ _ _ => rfl) (Nat.le_refl _) r (MLe.refl _) (.imm _ _ (.v _))
      | true =>
        have h1 := h1 rfl
        have hb : barB o.op = true := by unfold strictB at hsb; simp at hsb; exact hsb.1
        unfold opK at h1
        simp only [hb] at h1
        refine .inl ?_
        refine op_sound hT o h1 r re hid hmi (Q := Q) _ ?_
        intro d' n' H2 h' m' w' v hK hle hnew hm' hn' hw' ml hd
        exact next _ _ _ h' m' w' v hdst hK hle hnew hm' hn' hw' ml hd

end

/-! ### Code -/
def drawChk (dr : Bool) (ops : Array Oper) : Bool := match dr with | false => true | true => drawB ops

def thenQ (K : Env → Nat → Hp → Prop) (Q : Exit → Env → Nat → Hp → Prop) : Exit → Env → Nat → Hp → Prop
  | .normal => K
  | e => Q e
def blockQ (id : Nat) (Q : Exit → Env → Nat → Hp → Prop) : Exit → Env → Nat → Hp → Prop
  | .exit id' => match Nat.beq id' id with | true => Q .normal | false => Q (.exit id')
  | e => Q e

structure LoopA (P : Program) (N n0 : Nat) (c : Code) (Q : Exit → Env → Nat → Hp → Prop) (e : Env) (n : Nat) (H : Hp) : Prop where
  run : AW P N n0 (.loop c) Q e n H

/-- the draws of a code, each in order -/
def chkC : Code → Bool
  | .region _ ops dr => drawChk dr ops
  | .seq a b => match chkC a with | true => chkC b | false => false
  | .cond _ a b => match chkC a with | true => chkC b | false => false
  | .block _ c => chkC c
  | .loop c => chkC c
  | _ => true

/-- a great region that draws its order: the run stops ahead of it -/
structure CutA (P : Program) (N n0 : Nat) (c : Code) (Q : Exit → Env → Nat → Hp → Prop) (e : Env) (n : Nat) (H : Hp) : Prop where
  run : AW P N n0 c Q e n H
def bigB (N id : Nat) (ops : Array Oper) (dr : Bool) : Bool := match Gh.cut N id with
  | true => true
  | false => match dr with
    | false => false
    | true => Nat.ble 25 ops.size

def exA (P : Program) (T : Tab) (N n0 : Nat) : Code → (Exit → Env → Nat → Hp → Prop) → Env → Nat → Hp → Prop
  | .skip, Q => Q .normal
  | .region id ops dr, Q => fun e n H => match bigB N id ops dr with
    | true => CutA P N n0 (.region id ops dr) Q e n H
    | false => forceN (n + ops.size) fun n' => opsA P T N n dr ops 0 ops.toList e n' H (Q .normal)
  | .seq a b, Q => exA P T N n0 a (thenQ (exA P T N n0 b Q) Q)
  | .cond c a b, Q => fun e n H => match ev e c with
    | .v (.bool t) => iteP t (exA P T N n0 a Q e n H) (exA P T N n0 b Q e n H)
    | _ => False
  | .block id c, Q => exA P T N n0 c (blockQ id Q)
  | .exit id, Q => Q (.exit id)
  | .ret, Q => Q .ret
  | .loop c, Q => LoopA P N n0 c Q
  | _, _ => fun _ _ _ => False

section
variable {P : Program} {T : Tab} {N n0 : Nat}

theorem RH.more {h : FM} {m : BM} {n n' : Nat} {H : Hp} {w : World} (r : RH h m n H w) (hn : n ≤ n') : RH h m n' H w :=
  ⟨r.froz, fun id hid => r.far id (Nat.le_trans hn hid), r.obj, r.inj⟩

theorem SR.next {w0 : World} {W : Nat → Prop} {h0 : FM} {m0 : BM} {e' : Env} {n n' : Nat} {H' : Hp} {h h' : FM} {m m' : BM} {a' : Act} {w' : World} (hl : FLe h0 h) (hnew : ∀ b o x, h b o = some x → h0 b o = some x ∨ w0.heap.size ≤ b ∨ W b) (hm : ∀ id, id < n0 → m id = m0 id) (hn : n0 ≤ n)
    (hl' : FLe h h') (hnew' : ∀ b o x, h' b o = some x → h b o = some x ∨ w0.heap.size ≤ b ∨ W b) (hm' : ∀ j, j < n → m' j = m j) (hn' : n ≤ n') (r : WR w0 W h' m' n' H' w') (re : ER h' m' e' a') (hs : a'.tmps.size = N) (hd : a'.defers = []) : SR N w0 W h0 m0 n0 e' n' H' a' w' := by
  refine ⟨h', m', hl.trans hl', fun b o x hx => ?_, fun id hid => (hm' id (by omega)).trans (hm id hid), by omega, r, re, hs, hd⟩
  rcases hnew' b o x hx with h1 | h1
  · exact hnew b o x h1
  · exact .inr h1

theorem DC_none {ops : Array Oper} : DC ops (Array.replicate ops.size false) := by
  intro j o ho hl
  have := (Array.getElem?_eq_some_iff.1 ho).1
  simp [this] at hl

theorem region_aw (hT : TabOk P T) (hm : P.follows .mixedOrders = true) {id : Nat} {ops : Array Oper} {dr : Bool} {Q : Exit → Env → Nat → Hp → Prop} {e : Env} {n : Nat} {H : Hp} (hc : chkC (.region id ops dr) = true)
    (hk : forceN (n + ops.size) fun n' => opsA P T N n dr ops 0 ops.toList e n' H (Q .normal)) : AW P N n0 (.region id ops dr) Q e n H := by
  intro w0 W h0 m0 a w hs
  obtain ⟨h, m, hl, hnew, hmm, hn, r, re, hsz, hd⟩ := hs
  have r2 : WR w0 W h m (n + ops.size) H w := ⟨r.rh.more (by omega), r.fr, r.wb⟩
  have hfar : ∀ j, n ≤ j → m j = none := fun j hj => (r.rh.far j hj).1
  have hQ : After N (n + ops.size) n w0 W h m (Q .normal) (fun x a' w' => ∃ e' n' H', Q x e' n' H' ∧ SR N w0 W h0 m0 n0 e' n' H' a' w') := by
    intro e' n' H' h' m' a' w' hK hle hnew' hm' hn' hw' re' hs' hd'
    exact ⟨e', n', H', hK, SR.next hl hnew hmm hn hle hnew' hm' (by omega) hw' re' hs' hd'⟩
  simp only [forceN_eq] at hk
  cases dr with
  | false => exact wp_region_list (opsA_sound hT ops.toList 0 hk r2 re hsz hd (by simp) (fun j hj _ => hfar j (by omega)) hQ)
  | true =>
    simp only [chkC, drawChk] at hc
    obtain ⟨M, hc1, hc2⟩ := drawB_spec hc
    have hany := anyA_lex (M := M) hc1 ops.toList 0 (Array.replicate ops.size false) e (n + ops.size) H (by simp) DC_none (by simpa using hc2) hk
    refine wp_region_any hm ?_
    have := anyA_sound (w := w.drew) hT ops.toList.length hany r2.drew re hsz hd (by simp) (fun j _ _ => hfar _ (by omega)) hQ
    simpa using this

theorem exA_sound (hT : TabOk P T) (hm : P.follows .mixedOrders = true) : ∀ (c : Code) {Q : Exit → Env → Nat → Hp → Prop} {e : Env} {n : Nat} {H : Hp}, chkC c = true → exA P T N n0 c Q e n H → AW P N n0 c Q e n H
  | .skip, Q, e, n, H, _, hk => by
    intro w0 W h0 m0 a w hs
    exact wp_skip ⟨e, n, H, hk, hs⟩
  | .ret, Q, e, n, H, _, hk => by
    intro w0 W h0 m0 a w hs
    exact wp_ret ⟨e, n, H, hk, hs⟩
  | .exit id, Q, e, n, H, _, hk => by
    intro w0 W h0 m0 a w hs
    exact wp_exit ⟨e, n, H, hk, hs⟩
  | .loop c, Q, e, n, H, _, hk => hk.run
  | .seq x y, Q, e, n, H, hc, hk => by
    intro w0 W h0 m0 a w hs
    simp only [chkC] at hc
    split at hc
    · rename_i hcx
      refine wp_seq (wp_mono (exA_sound hT hm x hcx hk w0 W h0 m0 a w hs) ?_)
      rintro ex a' w' ⟨e', n', H', hq, hs'⟩
      cases ex with
      | normal => exact exA_sound hT hm y hc hq w0 W h0 m0 a' w' hs'
      | _ => exact ⟨e', n', H', hq, hs'⟩
    · cases hc
  | .cond c x y, Q, e, n, H, hc, hk => by
    intro w0 W h0 m0 a w hs
    simp only [chkC] at hc
    split at hc
    · rename_i hcx
      simp only [exA] at hk
      split at hk
      · rename_i t ht
        obtain ⟨h, m, _, _, _, _, _, re, _, _⟩ := id hs
        have rc := re.ev c
        rw [ht] at rc
        have hv := rc.v_inv
        refine wp_cond hv ?_
        cases t with
        | true => exact exA_sound hT hm x hcx hk w0 W h0 m0 a w hs
        | false => exact exA_sound hT hm y hc hk w0 W h0 m0 a w hs
      · exact hk.elim
    · cases hc
  | .block id c, Q, e, n, H, hc, hk => by
    intro w0 W h0 m0 a w hs
    refine wp_block (wp_mono (exA_sound hT hm c hc hk w0 W h0 m0 a w hs) ?_)
    rintro ex a' w' ⟨e', n', H', hq, hs'⟩
    cases ex with
    | exit id' =>
      simp only [blockQ] at hq
      cases hb : Nat.beq id' id with
      | true =>
        rw [hb] at hq
        have := Nat.eq_of_beq_eq_true hb
        subst this
        simp only [Exit.inBlock, if_true]
        exact ⟨e', n', H', hq, hs'⟩
      | false =>
        rw [hb] at hq
        have hne : id' ≠ id := fun he => by subst he; simp at hb
        simp only [Exit.inBlock, hne, if_false]
        exact ⟨e', n', H', hq, hs'⟩
    | _ => exact ⟨e', n', H', hq, hs'⟩
  | .region id ops dr, Q, e, n, H, hc, hk => by
    simp only [exA] at hk
    split at hk
    · exact hk.run
    · exact region_aw hT hm hc hk
  | .rangeFunc _ _ _ _, Q, e, n, H, _, hk => hk.elim
  | .scope _, Q, e, n, H, _, hk => hk.elim
  | .label _, Q, e, n, H, _, hk => hk.elim
  | .goto _, Q, e, n, H, _, hk => hk.elim
end
end Bk
