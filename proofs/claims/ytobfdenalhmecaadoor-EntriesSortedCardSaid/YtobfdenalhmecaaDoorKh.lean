/- The operations, one by one; calls; code. -/
import Derived.Test.YtobfdenalhmecaaDoorKg
set_option linter.unusedSimpArgs false
set_option linter.unusedSectionVars false
set_option linter.unusedVariables false
namespace Bk
open Go
variable [Gh]

/-- the parts of a composite literal of a struct: offset, value, size -/
def partsA (ps : List (Nat × Nat)) (e : Env) : List (Nat × Operand) → Option (List (Nat × D × Nat))
  | [] => some []
  | (i, x) :: r => match ps[i]?, partsA ps e r with
    | some (o, n), some l => some ((o, ev e x, n) :: l)
    | _, _ => none

/-- the elements of a slice literal, in order from 0 on, each given -/
def elemsA (k : Nat) (e : Env) : Nat → List (Nat × Operand) → Option (List (List D))
  | _, [] => some []
  | i, (j, x) :: r => match Nat.beq i j, lenL (cellsOf (ev e x)) k, allOne (cellsOf (ev e x)), elemsA k e (i + 1) r with
    | true, true, true, some l => some (cellsOf (ev e x) :: l)
    | _, _, _, _ => none

def zerosA (i : TI) : List D := i.zero.map D.v
/-- the zero value of a slice type's elements -/
def zerosOf (T : Tab) (t : Nat) : List D := match T.get t with
  | some ⟨_, _, _, .slice el⟩ => match T.get el with
    | some i => zerosA i
    | none => [.any]
  | _ => [.any]

def minA (op : Builtin) (x y : D) (K : D → Prop) : Prop :=
  match op, x, y with
  | .min, .v (.int k a), .v (.int _ b) => K (.v (.int k (if b < a then b else a)))
  | .max, .v (.int k a), .v (.int _ b) => K (.v (.int k (if b > a then b else a)))
  | _, _, _ => False

def opA (T : Tab) (callA : Nat → List D → Nat → Hp → (D → Nat → Hp → Prop) → Prop) (o : Op) (e : Env) (n : Nat) (H : Hp) (id : Nat) (K : D → Nat → Hp → Prop) : Prop :=
  match o with
  | .move x => K (ev e x) n H
  | .assign x => K (ev e x) n H
  | .pick c a b => match ev e c with
    | .v (.bool t) => iteP t (K (ev e a) n H) (K (ev e b) n H)
    | _ => False
  | .alloc t => match T.get t with
    | some i => match allOne (zerosA i) with
      | true => K (.ptr id 0) n (updH H id (some ⟨t, i.sz, [zerosA i]⟩))
      | false => False
    | none => False
  | .box t x => match T.get t with
    | some i => match lenL (cellsOf (ev e x)) i.sz, allOne (cellsOf (ev e x)) with
      | true, true => forceL (cellsOf (ev e x)) fun c => K (.ptr id 0) n (updH H id (some ⟨t, i.sz, [c]⟩))
      | _, _ => False
    | none => False
  | .build t parts => match T.get t with
    | some i => match i.kind with
      | .struct fs => match placesA T fs with
        | some ps => match partsA ps e parts.toList with
          | some l => match fillL (zerosA i) l with
            | some ds => K (.agg ds) n H
            | none => False
          | none => False
        | none => False
      | _ => False
    | none => False
  | .buildSlice t len parts => match T.get t with
    | some ⟨_, _, _, .slice el⟩ => match T.get el with
      | some i => match elemsA i.sz e 0 parts.toList with
        | some es => match lenL es len, Nat.ble (len * i.sz) 16777216 with
          | true, true => forceLL es fun es => K (.msl id i.sz 0 len) n (updH H id (some ⟨el, i.sz, es⟩))
          | _, _ => False
        | none => False
      | none => False
    | _ => False
  | .load t p => loadA T t (ev e p) H fun d => K d n H
  | .store t p x => storeA T t (ev e p) (ev e x) H fun H' => K .any n H'
  | .nilCheck x => match ev e x with
    | .ptr i j => K (.ptr i j) n H
    | .eptr i k x j => K (.eptr i k x j) n H
    | .fp c j => K (.fp c j) n H
    | .fn (.func f) a b => K (.fn (.func f) a b) n H
    | _ => False
  | .binOp op t x y _ => binA T op t (ev e x) (ev e y) fun d => K d n H
  | .unOp op _ x => unA op (ev e x) fun d => K d n H
  | .convert s t x => convB T s t (ev e x) H fun d => K d n H
  | .makeInterface t x => match T.get t with
    | some ⟨_, _, _, .iface⟩ => False
    | some _ => K (.iface t (ev e x)) n H
    | none => False
  | .makeFunc f a b => K (.fn f (a.toList.map (ev e)) (b.toList.map (ev e))) n H
  | .makeSlice t l c => match T.get t with
    | some ⟨_, _, _, .slice el⟩ => match T.get el with
      | some i => match allOne (zerosA i) with
        | true => natOf (ev e l) fun ln => natOf (ev e c) fun cn => ln ≤ cn ∧ cn * i.bytes ≤ 140737488355328 ∧ cn ≤ 4611686018427387904 ∧ K (.msl id i.sz 0 ln) n (updH H id (some ⟨el, i.sz, List.replicate ln (zerosA i)⟩))
        | false => False
      | none => False
    | _ => False
  | .slice t x lo hi mx => sliceA T t (ev e x) (lo.map (ev e)) (hi.map (ev e)) (mx.map (ev e)) fun d => K d n H
  | .fieldAddr t x f => match fieldOf T t f with
    | some (o, i) => match Nat.ble 1 i.sz with
      | true => match ev e x with
        | .fp c j => K (.fp c (j + o)) n H
        | .ptr id j => K (.ptr id (j + o)) n H
        | .eptr id k y j => K (.eptr id k y (j + o)) n H
        | _ => False
      | false => False
    | none => False
  | .field t x f => match fieldOf T t f with
    | some (o, i) => match ev e x with
      | .agg ds => packA i ds o fun d => K d n H
      | _ => False
    | none => False
  | .indexAddr t x i => match T.get t with
    | some ⟨_, _, _, .slice el⟩ => match T.get el with
      | some j => match ev e x, ev e i with
        | .sl k es, .v (.int _ a) => ∃ (y : Nat) (c : List D), a = (y : Int) ∧ es[y]? = some c ∧ k = j.sz ∧ K (.fp c 0) n H
        | .msl id k lo len, .v (.int _ a) => ∃ y : Nat, a = (y : Int) ∧ y < len ∧ k = j.sz ∧ K (.eptr id k (lo + y) 0) n H
        | _, _ => False
      | none => False
    | some ⟨_, _, _, .array len el⟩ => match T.get el with
      | some j => match ev e x with
        | .ptr id o => natOf (ev e i) fun y => y < len ∧ K (.ptr id (o + y * j.sz)) n H
        | _ => False
      | none => False
    | _ => False
  | .index t x i => match T.get t with
    | some ⟨_, _, _, .str⟩ => match ev e x with
      | .v (.string s) => natOf (ev e i) fun y => ∃ b : UInt8, s[y]? = some b ∧ K (.v (.int .u8 b.toNat)) n H
      | _ => False
    | some ⟨_, _, _, .array len el⟩ => match T.get el with
      | some j => match ev e x with
        | .agg ds => natOf (ev e i) fun y => y < len ∧ packA j ds (y * j.sz) fun d => K d n H
        | _ => False
      | none => False
    | _ => False
  | .extract x i => match ev e x with
    | .tuple ds => match ds[i]? with
      | some d => K d n H
      | none => False
    | _ => False
  | .call c => match c.callee with
    | .value f => match ev e f with
      | .fn (.func g) a b => callA g (a ++ c.args.toList.map (ev e) ++ b) n H K
      | _ => False
    | .builtin .len => match c.args.toList, c.argTypes.toList with
      | [x], [t] => lenA T t (ev e x) fun d => K d n H
      | _, _ => False
    | .builtin .append => match c.args.toList, c.argTypes.toList with
      | [s, x], [t, u] => match Nat.beq t u with
        | true => appendA T t (ev e s) (ev e x) n H id K
        | false => appendS T t u (ev e s) (ev e x) n H id K
      | _, _ => False
    | .builtin .copy => match c.args.toList, c.argTypes.toList with
      | [s, x], [t, _] => copyA T t (ev e s) (ev e x) n H K
      | _, _ => False
    | .builtin .clear => match c.args.toList, c.argTypes.toList with
      | [x], [t] => match allOne (zerosOf T t) with
        | true => clearA T t (ev e x) n H K
        | false => False
      | _, _ => False
    | .builtin .min => match c.args.toList with
      | [x, y] => minA .min (ev e x) (ev e y) fun d => K d n H
      | _ => False
    | .builtin .max => match c.args.toList with
      | [x, y] => minA .max (ev e x) (ev e y) fun d => K d n H
      | _ => False
    | _ => False
  | _ => False

/-- the blocks of the objects -/
def Bl (m : BM) (H : Hp) : Nat → Prop := fun b => ∃ id O N, H id = some O ∧ m id = some (b, N)

def Froz (h : FM) (w : World) : Prop := ∀ b o x, h b o = some x → w.cell? ⟨b, o, none⟩ = some x

def HasBody (P : Program) (f : Nat) : Prop := ∃ fn c, P.funcs[f]? = some fn ∧ (fn.name == "runtime.NumGoroutine") = false ∧ fn.body = some c

/-- a call, whatever the names of the objects: it returns a value and a state of which `K` holds -/
structure CallA (P : Program) (f : Nat) (args : List D) (n : Nat) (H : Hp) (K : D → Nat → Hp → Prop) : Prop where
  body : HasBody P f
  run : ∀ (h : FM) (m : BM) (w : World) (vals : List Value), FLe Gh.gh h → RH h m n H w → args.length = vals.length → (∀ (i : Nat) d x, args[i]? = some d → vals[i]? = some x → RD h m d x) →
    Calls P f vals.toArray w fun en w' => ∃ v d n' H' h' m', en = .returned v ∧ K d n' H' ∧ FLe h h' ∧ (∀ b o x, h' b o = some x → h b o = some x ∨ w.heap.size ≤ b ∨ Bl m H b) ∧ (∀ id, id < n → m' id = m id) ∧ n ≤ n' ∧
      WR w (Bl m H) h' m' n' H' w' ∧ RD h' m' d v

/-- what is known of a call's outcome may be said more weakly -/
theorem CallA.mono {P : Program} {n : Nat} {H : Hp} {f : Nat} {args : List D} {K K' : D → Nat → Hp → Prop} (hc : CallA P f args n H K) (h : ∀ d n' H', K d n' H' → K' d n' H') : CallA P f args n H K' :=
  ⟨hc.body, fun hh m w vals hg r hl hr => (hc.run hh m w vals hg r hl hr).mono (by
    rintro en w' ⟨v, d, n', H', h', m', e, hK, rest⟩
    exact ⟨v, d, n', H', h', m', e, h _ _ _ hK, rest⟩)⟩

mutual
def isI : D → Bool
  | .agg ds => isIL ds
  | .tuple ds => isIL ds
  | .iface _ d => isI d
  | .fn _ a b => match isIL a with | true => isIL b | false => false
  | .v _ => true
  | .sl _ _ => true
  | .tsl _ _ => true
  | .fp _ _ => true
  | _ => false
def isIL : List D → Bool
  | [] => true
  | d :: ds => match isI d with | true => isIL ds | false => false
end

def isILL : List (List D) → Bool
  | [] => true
  | l :: r => match isIL l with | true => isILL r | false => false

/-- a call of values without identity -/
structure PC (P : Program) (f : Nat) (args : List D) (d : D) : Prop where
  body : HasBody P f
  imm : isIL args = true
  run : ∀ (h : FM) (w : World) (vals : List Value), FLe Gh.gh h → Froz h w → args.length = vals.length → (∀ (i : Nat) d x, args[i]? = some d → vals[i]? = some x → RI h d x) →
    Calls P f vals.toArray w fun en w' => ∃ v h', en = .returned v ∧ FLe h h' ∧ (∀ b o x, h' b o = some x → h b o = some x ∨ w.heap.size ≤ b) ∧ Froz h' w' ∧ RI h' d v ∧ FR w (fun _ => False) w'

/-- the state of a walk -/
def SR (N : Nat) (w0 : World) (W : Nat → Prop) (h0 : FM) (m0 : BM) (n0 : Nat) (e : Env) (n : Nat) (H : Hp) (a : Act) (w : World) : Prop :=
  ∃ h m, FLe h0 h ∧ (∀ b o x, h b o = some x → h0 b o = some x ∨ w0.heap.size ≤ b ∨ W b) ∧ (∀ id, id < n0 → m id = m0 id) ∧ n0 ≤ n ∧ WR w0 W h m n H w ∧ ER h m e a ∧ a.tmps.size = N ∧ a.defers = []

/-- code, whatever was before -/
def AW (P : Program) (N n0 : Nat) (c : Code) (Q : Exit → Env → Nat → Hp → Prop) (e : Env) (n : Nat) (H : Hp) : Prop :=
  ∀ w0 W h0 m0 a w, SR N w0 W h0 m0 n0 e n H a w → c.wp P (fun x a' w' => ∃ e' n' H', Q x e' n' H' ∧ SR N w0 W h0 m0 n0 e' n' H' a' w') a w

/-- what a guard says: a Bool, or nothing where its own operation was passed over -/
def guardA (ops : Array Oper) (j : Nat) (b : Bool) (e : Env) (K : Bool → Prop) : Prop :=
  match ops[j]? with
  | some o => match o.dst with
    | some t => match e t with
      | .v (.bool c) => match b with
        | true => K c
        | false => K (notB c)
      | .v (.tuple _) => K false
      | _ => False
    | none => False
  | none => False

/-- operations of a region that draws its order that may only come in the text's order -/
def barB : Op → Bool
  | .store _ _ _ | .alloc _ | .box _ _ | .makeSlice _ _ _ => true
  | .call c => match c.callee with
    | .builtin .append => true
    | .builtin .copy => true
    | .value (.func f) => Gh.st f
    | _ => false
  | _ => false

/-- the others: each yields one value and leaves what is there -/
def opN (P : Program) (T : Tab) (o : Op) (e : Env) (n : Nat) (H : Hp) (K : D → Prop) : Prop :=
  match o with
  | .buildSlice t len parts => match T.get t with
    | some ⟨_, _, _, .slice el⟩ => match T.get el with
      | some i => match elemsA i.sz e 0 parts.toList with
        | some es => match lenL es len, Nat.ble (len * i.sz) 16777216, isILL es with
          | true, true, true => forceLL es fun es => K (.sl i.sz es)
          | _, _, _ => False
        | none => False
      | none => False
    | _ => False
  | .binOp op t x y _ => match ev e x, ev e y with
    | .sl _ _, _ => False
    | .msl _ _ _ _, _ => False
    | a, b => binA T op t a b K
  | .call c => match c.callee with
    | .value f => match ev e f with
      | .fn (.func g) a b => ∃ r, PC P g (a ++ c.args.toList.map (ev e) ++ b) r ∧ K r
      | _ => False
    | .builtin .len => opA T (fun _ _ _ _ _ => False) o e n H 0 fun d _ _ => K d
    | .builtin .min => opA T (fun _ _ _ _ _ => False) o e n H 0 fun d _ _ => K d
    | .builtin .max => opA T (fun _ _ _ _ _ => False) o e n H 0 fun d _ _ => K d
    | _ => False
  | .move _ | .assign _ | .pick _ _ _ | .build _ _ | .load _ _ | .nilCheck _ | .unOp _ _ _ | .convert _ _ _ | .makeInterface _ _ | .makeFunc _ _ _ | .slice _ _ _ _ _ | .fieldAddr _ _ _ | .field _ _ _ | .indexAddr _ _ _ | .index _ _ _ | .extract _ _ =>
    opA T (fun _ _ _ _ _ => False) o e n H 0 fun d _ _ => K d
  | _ => False

def opK (P : Program) (T : Tab) (dr : Bool) (o : Op) (e : Env) (n : Nat) (H : Hp) (id : Nat) (K : D → Nat → Hp → Prop) : Prop :=
  match dr with
  | false => opA T (CallA P) o e n H id K
  | true => match barB o with
    | true => opA T (CallA P) o e n H id K
    | false => opN P T o e n H fun d => K d n H

def put (e : Env) (t : Option Nat) (d : D) : Env := match t with | none => e | some t => upd e t d
def dstB (N : Nat) : Option Nat → Bool
  | none => true
  | some t => Nat.blt t N

def putK (t : Option Nat) (e : Env) (d : D) (K : Env → Prop) : Prop := match t with | none => K e | some t => K (upd e t d)
theorem putK_eq (t : Option Nat) (e : Env) (d : D) (K : Env → Prop) : putK t e d K = K (put e t d) := by cases t <;> rfl

def opsA (P : Program) (T : Tab) (N nb : Nat) (dr : Bool) (ops : Array Oper) : Nat → List Oper → Env → Nat → Hp → (Env → Nat → Hp → Prop) → Prop
  | _, [], e, n, H, K => K e n H
  | i, o :: rest, e, n, H, K => match dstB N o.dst with
    | false => False
    | true => forceN (nb + i) fun id => forceN (i + 1) fun i' => match o.guard with
      | none => opK P T dr o.op e n H id fun d n' H' => forceD d fun d => putK o.dst e d fun e => opsA P T N nb dr ops i' rest e n' H' K
      | some (j, b) => guardA ops j b e fun g => iteP g (opK P T dr o.op e n H id fun d n' H' => forceD d fun d => putK o.dst e d fun e => opsA P T N nb dr ops i' rest e n' H' K)
          (putK o.dst e (.v (.tuple #[])) fun e => opsA P T N nb dr ops i' rest e n H K)

end Bk
