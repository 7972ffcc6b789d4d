/- Names turned; functions; loops. -/
import Derived.Test.YtobfdenalhmecaaDoorKw
set_option linter.unusedSimpArgs false
set_option linter.unusedSectionVars false
set_option linter.unusedVariables false
namespace Bk
open Go
variable [Gh]

mutual
def ren (f : Nat → Nat) : D → D
  | .msl id k lo len => .msl (f id) k lo len
  | .ptr id j => .ptr (f id) j
  | .eptr id k i j => .eptr (f id) k i j
  | .fn g a b => .fn g (renL f a) (renL f b)
  | .iface t d => .iface t (ren f d)
  | .agg ds => .agg (renL f ds)
  | .tuple ds => .tuple (renL f ds)
  | .any => .any
  | .v x => .v x
  | .sl k es => .sl k es
  | .tsl k es => .tsl k es
  | .fp c j => .fp c j
def renL (f : Nat → Nat) : List D → List D
  | [] => []
  | d :: ds => ren f d :: renL f ds
end

theorem renL_eq (f : Nat → Nat) : ∀ l : List D, renL f l = l.map (ren f)
  | [] => rfl
  | d :: ds => by rw [renL, renL_eq f ds]; rfl
theorem renL_length (f : Nat → Nat) (l : List D) : (renL f l).length = l.length := by rw [renL_eq]; simp

theorem rel_fwd {h : FM} {m m' : BM} {f : Nat → Nat} {ds : List D} {xs : List Value} (ih : ∀ (i : Nat) d x, ds[i]? = some d → xs[i]? = some x → RD h m' (ren f d) x) :
    ∀ (i : Nat) d x, (renL f ds)[i]? = some d → xs[i]? = some x → RD h m' d x := by
  intro i d x hd hx
  rw [renL_eq, List.getElem?_map] at hd
  cases hq : ds[i]? with
  | none => rw [hq] at hd; simp at hd
  | some y => rw [hq] at hd; simp at hd; subst hd; exact ih i y x hq hx

theorem RI.toRen {h : FM} {m : BM} (f : Nat → Nat) {d : D} {x : Value} (r : RI h d x) : RD h m (ren f d) x := by
  induction r with
  | v x => exact .imm _ _ (.v x)
  | slE k A c => exact .imm _ _ (.slE k A c)
  | sl k es b o n c u hk hn hc hu hr ih => exact .imm _ _ (.sl k es b o n c u hk hn hc hu hr)
  | tslE k A => exact .imm _ _ (.tslE k A)
  | tsl k es b o n u hk hn hu hr ih => exact .imm _ _ (.tsl k es b o n u hk hn hu hr)
  | fp cells j b o p u hp hu hr ih => exact .imm _ _ (.fp cells j b o p u hp hu hr)
  | fn g first cap xs ys hx hy rx ry ihx ihy => exact .fn g _ _ xs ys (by rw [renL_length]; exact hx) (by rw [renL_length]; exact hy) (rel_fwd (m := m) ihx) (rel_fwd (m := m) ihy)
  | iface t d x r ih => exact .iface t _ x ih
  | agg ds xs hl r ih => exact .agg _ xs (by rw [renL_length]; exact hl) (rel_fwd (m := m) ih)
  | tuple ds xs hl r ih => exact .tuple _ xs (by rw [renL_length]; exact hl) (rel_fwd (m := m) ih)

theorem RD.toRen {h : FM} {m m' : BM} {f : Nat → Nat} (hm : ∀ id y, m id = some y → m' (f id) = some y) {d : D} {x : Value} (r : RD h m d x) : RD h m' (ren f d) x := by
  induction r with
  | any x => exact .any x
  | imm d x r => exact r.toRen f
  | msl id k lo len b N c h1 hc hN => exact .msl (f id) k lo len b N c (hm _ _ h1) hc hN
  | mslE id k lo A => exact .mslE (f id) k lo A
  | ptr id j b N h1 => exact .ptr (f id) j b N (hm _ _ h1)
  | eptr id k i j b N o h1 ho => exact .eptr (f id) k i j b N o (hm _ _ h1) ho
  | fn g first cap xs ys hx hy rx ry ihx ihy => exact .fn g _ _ xs ys (by rw [renL_length]; exact hx) (by rw [renL_length]; exact hy) (rel_fwd (m := m) ihx) (rel_fwd (m := m) ihy)
  | iface t d x r ih => exact .iface t _ x ih
  | agg ds xs hl r ih => exact .agg _ xs (by rw [renL_length]; exact hl) (rel_fwd (m := m) ih)
  | tuple ds xs hl r ih => exact .tuple _ xs (by rw [renL_length]; exact hl) (rel_fwd (m := m) ih)

mutual
theorem RD.unren {h : FM} {m : BM} {f : Nat → Nat} : ∀ (d : D) (x : Value), RD h m (ren f d) x → RD h (fun id => m (f id)) d x
  | .any, x, _ => .any x
  | .v y, x, r => by cases r with | imm _ _ r => exact .imm _ _ r
  | .sl k es, x, r => by cases r with | imm _ _ r => exact .imm _ _ r
  | .tsl k es, x, r => by cases r with | imm _ _ r => exact .imm _ _ r
  | .fp c j, x, r => by cases r with | imm _ _ r => exact .imm _ _ r
  | .msl id k lo len, x, r => by
    simp only [ren] at r
    generalize hx : f id = q at r
    cases r with
    | imm _ _ r => cases r
    | msl _ _ _ _ b N c h1 hc hN => subst hx; exact .msl id k lo len b N c h1 hc hN
    | mslE _ _ _ A => exact .mslE id k lo A
  | .ptr id j, x, r => by
    simp only [ren] at r
    generalize hx : f id = q at r
    cases r with
    | imm _ _ r => cases r
    | ptr _ _ b N h1 => subst hx; exact .ptr id j b N h1
  | .eptr id k i j, x, r => by
    simp only [ren] at r
    generalize hx : f id = q at r
    cases r with
    | imm _ _ r => cases r
    | eptr _ _ _ _ b N o h1 ho => subst hx; exact .eptr id k i j b N o h1 ho
  | .fn g a b, x, r => by
    simp only [ren] at r
    obtain ⟨xs, ys, rfl, hx, hy, rx, ry⟩ := r.fn_inv
    exact .fn g a b xs ys (by rw [← hx, renL_length]) (by rw [← hy, renL_length]) (RD.unrenL a xs rx) (RD.unrenL b ys ry)
  | .iface t d, x, r => by
    simp only [ren] at r
    generalize hx : ren f d = q at r
    cases r with
    | imm _ _ r =>
      cases r with
      | iface _ _ y r => subst hx; exact .iface t d y (RD.unren d y (.imm _ _ r))
    | iface _ _ y r => subst hx; exact .iface t d y (RD.unren d y r)
  | .agg ds, x, r => by
    simp only [ren] at r
    obtain ⟨xs, rfl, hl, hr⟩ := r.agg_inv
    exact .agg ds xs (by rw [← hl, renL_length]) (RD.unrenL ds xs hr)
  | .tuple ds, x, r => by
    simp only [ren] at r
    obtain ⟨xs, rfl, hl, hr⟩ := r.tuple_inv
    exact .tuple ds xs (by rw [← hl, renL_length]) (RD.unrenL ds xs hr)
theorem RD.unrenL {h : FM} {m : BM} {f : Nat → Nat} : ∀ (ds : List D) (xs : List Value), (∀ (i : Nat) d x, (renL f ds)[i]? = some d → xs[i]? = some x → RD h m d x) → ∀ (i : Nat) d x, ds[i]? = some d → xs[i]? = some x → RD h (fun id => m (f id)) d x
  | [], _, _ => by intro i d x hd; simp at hd
  | d :: ds, [], _ => by intro i d x hd hx; simp at hx
  | d :: ds, x :: xs, r => by
    intro i d' x' h2 h3
    cases i with
    | zero => simp at h2 h3; subst h2; subst h3; exact RD.unren d x (r 0 _ x rfl rfl)
    | succ i => exact RD.unrenL ds xs (fun i d x h4 h5 => r (i + 1) d x (by simpa [renL] using h4) (by simpa using h5)) i d' x' (by simpa using h2) (by simpa using h3)
end

/-- an object whose names are turned -/
def renO (f : Nat → Nat) (O : AObj) : AObj := ⟨O.ty, O.k, O.es.map (renL f)⟩

theorem flat_ren (f : Nat → Nat) (es : List (List D)) : (es.map (renL f)).flatten = renL f es.flatten := by
  rw [renL_eq, List.map_flatten]
  congr 1
  exact List.map_congr_left fun l _ => renL_eq f l

mutual
theorem ren_isI (f : Nat → Nat) : ∀ d : D, isI d = true → ren f d = d
  | .any, h => by simp [isI] at h
  | .v _, _ => rfl
  | .sl _ _, _ => rfl
  | .tsl _ _, _ => rfl
  | .fp _ _, _ => rfl
  | .msl _ _ _ _, h => by simp [isI] at h
  | .ptr _ _, h => by simp [isI] at h
  | .eptr _ _ _ _, h => by simp [isI] at h
  | .fn g a b, h => by
    simp only [isI] at h
    split at h
    · rename_i h1; simp only [ren, renL_isIL f a h1, renL_isIL f b h]
    · cases h
  | .iface t d, h => by simp only [isI] at h; simp only [ren, ren_isI f d h]
  | .agg ds, h => by simp only [isI] at h; simp only [ren, renL_isIL f ds h]
  | .tuple ds, h => by simp only [isI] at h; simp only [ren, renL_isIL f ds h]
theorem renL_isIL (f : Nat → Nat) : ∀ ds : List D, isIL ds = true → renL f ds = ds
  | [], _ => rfl
  | d :: ds, h => by
    simp only [isIL] at h
    split at h
    · rename_i h1; simp only [renL, ren_isI f d h1, renL_isIL f ds h]
    · cases h
end
theorem renO_isILL (f : Nat → Nat) (O : AObj) (h : ∀ c ∈ O.es, isIL c = true) : renO f O = O := by
  obtain ⟨ty, k, es⟩ := O
  unfold renO
  congr 1
  conv => rhs; rw [← List.map_id es]
  exact List.map_congr_left fun l hl => renL_isIL f l (h l hl)

end Bk
