/- The words of the abstract machine: abstract values, how they read in a world, and the state of a walk. -/
import Derived.WalkKit
import Derived.WalkLawsBesides
import Derived.Orders
set_option linter.unusedSimpArgs false
set_option linter.unusedSectionVars false
set_option linter.unusedVariables false
namespace Bk
open Go

/-- abstract values -/
inductive D where
  | any
  | v (x : Value)
  | sl (k : Nat) (es : List (List D))
  | tsl (k : Nat) (es : List (List D))
  | fp (cells : List D) (j : Nat)
  | msl (id k lo len : Nat)
  | ptr (id j : Nat)
  | eptr (id k i j : Nat)
  | fn (f : Fn) (first cap : List D)
  | iface (t : TypeId) (d : D)
  | agg (ds : List D)
  | tuple (ds : List D)

structure AObj where
  ty : Nat
  k : Nat
  es : List (List D)

abbrev Env := Nat → D
abbrev Hp := Nat → Option AObj
abbrev FM := Nat → Nat → Option Value
abbrev BM := Nat → Option (Nat × Nat)

def upd (e : Env) (i : Nat) (d : D) : Env := fun j => match Nat.beq j i with | true => d | false => e j
def updH (H : Hp) (i : Nat) (o : Option AObj) : Hp := fun j => match Nat.beq j i with | true => o | false => H j

theorem upd_same (e : Env) (i : Nat) (d : D) : upd e i d i = d := by simp [upd]
theorem upd_ne (e : Env) {i j : Nat} (d : D) (h : j ≠ i) : upd e i d j = e j := by
  cases hb : Nat.beq j i
  · simp [upd, hb]
  · exact absurd (Nat.eq_of_beq_eq_true hb) h
theorem updH_same (H : Hp) (i : Nat) (o : Option AObj) : updH H i o i = o := by simp [updH]
theorem updH_ne (H : Hp) {i j : Nat} (o : Option AObj) (h : j ≠ i) : updH H i o j = H j := by
  cases hb : Nat.beq j i
  · simp [updH, hb]
  · exact absurd (Nat.eq_of_beq_eq_true hb) h

/-- a value without identity: it reads by the frozen cells alone -/
inductive RI (h : FM) : D → Value → Prop
  | v (x) : RI h (.v x) x
  | slE (k A c) : RI h (.sl k []) (.slice A 0 c)
  | sl (k : Nat) (es : List (List D)) (b o n c : Nat) (u : Nat → Value) (hk : ∀ e ∈ es, e.length = k) (hn : es.length = n) (hc : n ≤ c)
      (hu : ∀ j, j < n * k → h b (o + j) = some (u j) ∧ (u j).oneCell' = true) (hr : ∀ j d, es.flatten[j]? = some d → RI h d (u j)) : RI h (.sl k es) (.slice (some ⟨b, o, none⟩) n c)
  | tslE (k A) : RI h (.tsl k []) (.slice A 0 0)
  | tsl (k : Nat) (es : List (List D)) (b o n : Nat) (u : Nat → Value) (hk : ∀ e ∈ es, e.length = k) (hn : es.length = n)
      (hu : ∀ j, j < n * k → h b (o + j) = some (u j) ∧ (u j).oneCell' = true) (hr : ∀ j d, es.flatten[j]? = some d → RI h d (u j)) : RI h (.tsl k es) (.slice (some ⟨b, o, none⟩) n n)
  | fp (cells : List D) (j b o p : Nat) (u : Nat → Value) (hp : o + j = p) (hu : ∀ i, i < cells.length → h b (o + i) = some (u i) ∧ (u i).oneCell' = true) (hr : ∀ i d, cells[i]? = some d → RI h d (u i)) :
      RI h (.fp cells j) (.pointer (some ⟨b, p, none⟩))
  | fn (f) (first cap : List D) (xs ys : List Value) (hx : first.length = xs.length) (hy : cap.length = ys.length)
      (rx : ∀ (i : Nat) d x, first[i]? = some d → xs[i]? = some x → RI h d x) (ry : ∀ (i : Nat) d y, cap[i]? = some d → ys[i]? = some y → RI h d y) : RI h (.fn f first cap) (.func f xs.toArray ys.toArray)
  | iface (t d x) (r : RI h d x) : RI h (.iface t d) (.iface t x)
  | agg (ds : List D) (xs : List Value) (hl : ds.length = xs.length) (r : ∀ (i : Nat) d x, ds[i]? = some d → xs[i]? = some x → RI h d x) : RI h (.agg ds) (.agg xs.toArray)
  | tuple (ds : List D) (xs : List Value) (hl : ds.length = xs.length) (r : ∀ (i : Nat) d x, ds[i]? = some d → xs[i]? = some x → RI h d x) : RI h (.tuple ds) (.tuple xs.toArray)

/-- a value of a walk: it may name blocks that the walk itself made or was handed -/
inductive RD (h : FM) (m : BM) : D → Value → Prop
  | any (x) : RD h m .any x
  | imm (d x) (r : RI h d x) : RD h m d x
  | msl (id k lo len b N c) (hm : m id = some (b, N)) (hc : len ≤ c) (hN : (lo + c) * k ≤ N) : RD h m (.msl id k lo len) (.slice (some ⟨b, lo * k, none⟩) len c)
  | mslE (id k lo A) : RD h m (.msl id k lo 0) (.slice A 0 0)
  | ptr (id j b N) (hm : m id = some (b, N)) : RD h m (.ptr id j) (.pointer (some ⟨b, j, none⟩))
  | eptr (id k i j b N o) (hm : m id = some (b, N)) (ho : i * k + j = o) : RD h m (.eptr id k i j) (.pointer (some ⟨b, o, none⟩))
  | fn (f) (first cap : List D) (xs ys : List Value) (hx : first.length = xs.length) (hy : cap.length = ys.length)
      (rx : ∀ (i : Nat) d x, first[i]? = some d → xs[i]? = some x → RD h m d x) (ry : ∀ (i : Nat) d y, cap[i]? = some d → ys[i]? = some y → RD h m d y) : RD h m (.fn f first cap) (.func f xs.toArray ys.toArray)
  | iface (t d x) (r : RD h m d x) : RD h m (.iface t d) (.iface t x)
  | agg (ds : List D) (xs : List Value) (hl : ds.length = xs.length) (r : ∀ (i : Nat) d x, ds[i]? = some d → xs[i]? = some x → RD h m d x) : RD h m (.agg ds) (.agg xs.toArray)
  | tuple (ds : List D) (xs : List Value) (hl : ds.length = xs.length) (r : ∀ (i : Nat) d x, ds[i]? = some d → xs[i]? = some x → RD h m d x) : RD h m (.tuple ds) (.tuple xs.toArray)

def FLe (h h' : FM) : Prop := ∀ b o x, h b o = some x → h' b o = some x
def MLe (m m' : BM) : Prop := ∀ id y, m id = some y → m' id = some y
theorem FLe.refl (h : FM) : FLe h h := fun _ _ _ e => e
theorem FLe.trans {a b c : FM} (h : FLe a b) (k : FLe b c) : FLe a c := fun _ _ _ e => k _ _ _ (h _ _ _ e)
theorem MLe.refl (m : BM) : MLe m m := fun _ _ e => e
theorem MLe.trans {a b c : BM} (h : MLe a b) (k : MLe b c) : MLe a c := fun _ _ e => k _ _ (h _ _ e)

theorem RI.mono {h h' : FM} (hl : FLe h h') {d : D} {x : Value} (r : RI h d x) : RI h' d x := by
  induction r with
  | v x => exact .v x
  | slE k A c => exact .slE k A c
  | sl k es b o n c u hk hn hc hu hr ih => exact .sl k es b o n c u hk hn hc (fun j hj => ⟨hl _ _ _ (hu j hj).1, (hu j hj).2⟩) ih
  | tslE k A => exact .tslE k A
  | tsl k es b o n u hk hn hu hr ih => exact .tsl k es b o n u hk hn (fun j hj => ⟨hl _ _ _ (hu j hj).1, (hu j hj).2⟩) ih
  | fp cells j b o p u hp hu hr ih => exact .fp cells j b o p u hp (fun j hj => ⟨hl _ _ _ (hu j hj).1, (hu j hj).2⟩) ih
  | fn f first cap xs ys hx hy rx ry ihx ihy => exact .fn f first cap xs ys hx hy ihx ihy
  | iface t d x r ih => exact .iface t d x ih
  | agg ds xs hl' r ih => exact .agg ds xs hl' ih
  | tuple ds xs hl' r ih => exact .tuple ds xs hl' ih

theorem RD.mono {h h' : FM} {m m' : BM} (hl : FLe h h') (ml : MLe m m') {d : D} {x : Value} (r : RD h m d x) : RD h' m' d x := by
  induction r with
  | any x => exact .any x
  | imm d x r => exact .imm d x (r.mono hl)
  | msl id k lo len b N c hm hc hN => exact .msl id k lo len b N c (ml _ _ hm) hc hN
  | mslE id k lo A => exact .mslE id k lo A
  | ptr id j b N hm => exact .ptr id j b N (ml _ _ hm)
  | eptr id k i j b N o hm ho => exact .eptr id k i j b N o (ml _ _ hm) ho
  | fn f first cap xs ys hx hy rx ry ihx ihy => exact .fn f first cap xs ys hx hy ihx ihy
  | iface t d x r ih => exact .iface t d x ih
  | agg ds xs hl' r ih => exact .agg ds xs hl' ih
  | tuple ds xs hl' r ih => exact .tuple ds xs hl' ih

/-- one cell holds it -/
def D.one : D → Bool
  | .any | .agg _ | .tuple _ => false
  | .v x => x.oneCell'
  | _ => true

theorem RI.one {h : FM} {d : D} {x : Value} (r : RI h d x) (h1 : d.one = true) : x.oneCell' = true := by
  cases r <;> first | exact h1 | rfl | cases h1
theorem RD.one {h : FM} {m : BM} {d : D} {x : Value} (r : RD h m d x) (h1 : d.one = true) : x.oneCell' = true := by
  cases r with
  | imm d x r => exact r.one h1
  | any x => cases h1
  | agg ds xs hl r => cases h1
  | tuple ds xs hl r => cases h1
  | _ => rfl

/-- the world as the walk's state says: frozen cells `h`, blocks `m` of the objects `H`, next name `n` -/
structure RH (h : FM) (m : BM) (n : Nat) (H : Hp) (w : World) : Prop where
  froz : ∀ b o x, h b o = some x → w.cell? ⟨b, o, none⟩ = some x
  far : ∀ id, n ≤ id → m id = none ∧ H id = none
  obj : ∀ id O, H id = some O → (m id = none ∧ O.es = []) ∨ ∃ (b : Nat) (xs : List Value), m id = some (b, xs.length) ∧ w.heap[b]? = some (.cells xs.toArray O.ty (0, 0)) ∧
    O.es.length * O.k ≤ xs.length ∧ (∀ e ∈ O.es, e.length = O.k) ∧ (∀ (j : Nat) d x, O.es.flatten[j]? = some d → xs[j]? = some x → RD h m d x ∧ x.oneCell' = true) ∧ (∀ o, h b o = none)
  inj : ∀ id id' O O' b N N', H id = some O → H id' = some O' → m id = some (b, N) → m id' = some (b, N') → id = id'

/-- what a walk leaves alone: every block that lay at its begin, but those in `W` -/
structure FR (w0 : World) (W : Nat → Prop) (w : World) : Prop where
  os : w.os = w0.os
  tape : w.tape = w0.tape
  output : w.output = w0.output
  size : w0.heap.size ≤ w.heap.size
  block : ∀ b, b < w0.heap.size → ¬ W b → w.heap[b]? = w0.heap[b]?

theorem FR.refl (w : World) (W : Nat → Prop) : FR w W w := ⟨rfl, rfl, rfl, Nat.le_refl _, fun _ _ _ => rfl⟩
theorem FR.trans {a b c : World} {W W' : Nat → Prop} (h : FR a W b) (k : FR b W' c) (hW : ∀ x, x < a.heap.size → W' x → W x) : FR a W c :=
  ⟨k.os.trans h.os, k.tape.trans h.tape, k.output.trans h.output, Nat.le_trans h.size k.size,
    fun x hx hn => (k.block x (Nat.lt_of_lt_of_le hx h.size) (fun hw => hn (hW x hx hw))).trans (h.block x hx hn)⟩
theorem FR.below {w w' : World} {W : Nat → Prop} (h : FR w W w') (hW : ∀ b, b < w.heap.size → ¬ W b) : Go.RowKit.Below w.heap.size w w' :=
  ⟨h.os, h.tape, h.output, h.size, fun b hb => h.block b hb (hW b hb)⟩

/-- the objects' blocks may be written -/
def WB (w0 : World) (W : Nat → Prop) (m : BM) (H : Hp) : Prop := ∀ id O b N, H id = some O → m id = some (b, N) → w0.heap.size ≤ b ∨ W b

structure WR (w0 : World) (W : Nat → Prop) (h : FM) (m : BM) (n : Nat) (H : Hp) (w : World) : Prop where
  rh : RH h m n H w
  fr : FR w0 W w
  wb : WB w0 W m H
end Bk
