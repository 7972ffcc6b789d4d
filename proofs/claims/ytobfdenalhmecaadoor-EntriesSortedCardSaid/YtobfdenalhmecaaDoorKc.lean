/- The abstract machine: what a walk owes, operation by operation; and what that means in the model. -/
import Derived.Test.YtobfdenalhmecaaDoorKb
set_option linter.unusedSimpArgs false
set_option linter.unusedSectionVars false
set_option linter.unusedVariables false
namespace Bk
open Go

/-! ### Bools that stand still -/
def ltI (a b : Int) : Bool := decide (a < b)
def leI (a b : Int) : Bool := decide (a ≤ b)
def eqI (a b : Int) : Bool := a == b
def eqS (a b : ByteArray) : Bool := a.toList == b.toList
def ltS (a b : ByteArray) : Bool := Op.bytesLess a.toList b.toList
def eqB (a b : Bool) : Bool := a == b
def notB (a : Bool) : Bool := match a with | true => false | false => true
def andB (a b : Bool) : Bool := a && b
def orB (a b : Bool) : Bool := a || b
def wr (k : IntKind) (a : Int) : Int := k.wrap a
def catS (a b : ByteArray) : ByteArray := a ++ b
def cutS (a : ByteArray) (l h : Nat) : ByteArray := a.extract l h
def iteP (b : Bool) (A B : Prop) : Prop := match b with | true => A | false => B
theorem ltI_eq (a b : Int) : ltI a b = decide (a < b) := rfl
theorem leI_eq (a b : Int) : leI a b = decide (a ≤ b) := rfl
theorem eqI_eq (a b : Int) : eqI a b = decide (a = b) := rfl
theorem eqS_eq (a b : ByteArray) : eqS a b = (a == b) := (beq_toListBytes a b).symm
theorem eqB_eq (a b : Bool) : eqB a b = (a == b) := rfl
theorem notB_eq (a : Bool) : notB a = !a := by cases a <;> rfl
theorem andB_eq (a b : Bool) : andB a b = (a && b) := rfl
theorem orB_eq (a b : Bool) : orB a b = (a || b) := rfl
theorem ltS_eq (a b : ByteArray) : ltS a b = Op.bytesLess a.toList b.toList := rfl
theorem catS_eq (a b : ByteArray) : catS a b = a ++ b := rfl
theorem cutS_eq (a : ByteArray) (l h : Nat) : cutS a l h = a.extract l h := rfl
theorem eqS_def (a b : ByteArray) : eqS a b = (a.toList == b.toList) := rfl
theorem eqI_def (a b : Int) : eqI a b = (a == b) := rfl
theorem wr_eq (k : IntKind) (a : Int) : wr k a = k.wrap a := rfl
theorem wr64 (a : Int) (h0 : -9223372036854775808 ≤ a) (h1 : a ≤ 9223372036854775807) : wr .i64 a = a := by
  unfold wr; rw [IntKind.wrap_i64]; omega
theorem iteP_intro {b : Bool} {A B : Prop} (h : b = true → A) (h' : b = false → B) : iteP b A B := by cases b; exact h' rfl; exact h rfl
theorem iteP_pos {b : Bool} {A B : Prop} (h : b = true) (hA : A) : iteP b A B := by subst h; exact hA
theorem iteP_neg {b : Bool} {A B : Prop} (h : b = false) (hB : B) : iteP b A B := by subst h; exact hB
/-- the same, in two cases -/
inductive splitB (b : Bool) (F : Bool → Prop) : Prop where
  | mk (h : F b) : splitB b F
theorem splitB_eq (b : Bool) (F : Bool → Prop) : splitB b F = F b := propext ⟨fun ⟨h⟩ => h, fun h => ⟨h⟩⟩
theorem splitB_intro {b : Bool} {F : Bool → Prop} (h : b = true → F true) (h' : b = false → F false) : splitB b F := by
  cases b
  · exact ⟨h' rfl⟩
  · exact ⟨h rfl⟩
theorem splitB_pos {b : Bool} {F : Bool → Prop} (h : b = true) (hF : F true) : splitB b F := by subst h; exact ⟨hF⟩
theorem splitB_neg {b : Bool} {F : Bool → Prop} (h : b = false) (hF : F false) : splitB b F := by subst h; exact ⟨hF⟩
attribute [irreducible] ltI leI eqI eqS ltS eqB andB orB wr catS cutS

/-! ### Types -/
inductive TK where
  | int (k : IntKind) | bool | str | ptr (e : Nat) | slice (e : Nat) | struct (fs : List (Nat × Nat)) | array (len e : Nat) | iface | func | other

structure TI where
  sz : Nat
  bytes : Nat
  zero : List Value
  kind : TK

abbrev Tab := List (Nat × TI)
def Tab.get : Tab → Nat → Option TI
  | [], _ => none
  | (a, i) :: r, t => match Nat.beq a t with | true => some i | false => Tab.get r t

def TK.agg : TK → Bool
  | .struct _ | .array _ _ => true
  | _ => false

def veq : Value → Value → Bool
  | .bool a, .bool b => a == b
  | .int k a, .int l b => decide (k = l) && decide (a = b)
  | .string a, .string b => decide (a.size = 0) && decide (b.size = 0)
  | .pointer none, .pointer none => true
  | .slice none a b, .slice none c d => decide (a = c) && decide (b = d)
  | .map none, .map none => true
  | .nilFunc, .nilFunc => true
  | .nilIface, .nilIface => true
  | _, _ => false

theorem veq_sound {x y : Value} (h : veq x y = true) : x = y := by
  unfold veq at h
  split at h <;> simp at h
  · rw [h]
  · rw [h.1, h.2]
  · rw [h.1, h.2]
  · rfl
  · rw [h.1, h.2]
  · rfl
  · rfl
  · rfl

def veqL : List Value → List Value → Bool
  | [], [] => true
  | x :: xs, y :: ys => veq x y && veqL xs ys
  | _, _ => false
theorem veqL_sound : ∀ {xs ys : List Value}, veqL xs ys = true → xs = ys
  | [], [], _ => rfl
  | x :: xs, y :: ys, h => by
    simp only [veqL, Bool.and_eq_true] at h
    rw [veq_sound h.1, veqL_sound h.2]
  | [], _ :: _, h => by simp [veqL] at h
  | _ :: _, [], h => by simp [veqL] at h

def kindFits : TK → Option TypeDesc → Bool
  | .int k, some (.int l) => decide (k = l)
  | .bool, some .bool => true
  | .str, some .string => true
  | .ptr e, some (.pointer f) => decide (e = f)
  | .slice e, some (.slice f) => decide (e = f)
  | .struct fs, some (.struct gs) => decide (gs.toList.map (fun g => (g.offset, g.type)) = fs) && gs.toList.all (fun g => g.name != "_")
  | .array n e, some (.array m f) => decide (n = m) && decide (e = f)
  | .iface, some (.interface _) => true
  | .func, some (.func _ _ _) => true
  | .other, some d => !(d matches .struct _ | .array _ _ | .interface _)
  | _, _ => false

def tiFits (P : Program) (t : Nat) (i : TI) : Bool :=
  match P.info? t with
  | some f => decide (f.size = i.sz) && decide (f.bytes = i.bytes) && (match f.zero with | some z => veqL z.cells.toList i.zero | none => false) && kindFits i.kind (P.underlying t) && !P.stoodInHeld t && !P.eqGuardType P.depth t && decide (i.zero.length = i.sz)
  | none => false

def tabFits (P : Program) : Tab → Bool
  | [] => true
  | (t, i) :: r => tiFits P t i && tabFits P r

def TabOk (P : Program) (T : Tab) : Prop := ∀ t i, T.get t = some i → tiFits P t i = true
theorem tabOk_of {P : Program} : ∀ {T : Tab}, tabFits P T = true → TabOk P T
  | [], _, t, i, hi => by simp [Tab.get] at hi
  | (a, j) :: r, h, t, i, hi => by
    simp only [tabFits, Bool.and_eq_true] at h
    simp only [Tab.get] at hi
    split at hi
    · rename_i he
      have := Nat.eq_of_beq_eq_true he
      cases hi; subst this; exact h.1
    · exact tabOk_of h.2 t i hi

/-- cells of the program's own variables that stand from the begin on -/
class Gh where
  gh : FM
  /-- functions whose calls turn objects: in a region that draws its order they only come where all that follows waits for them -/
  st : Nat → Bool
  /-- regions ahead of which the run stops: the number of the function's slots, the region's number -/
  cut : Nat → Nat → Bool
variable [Gh]

/-! ### Operations -/
/-- the same, its head looked at first -/
def force1 (d : D) (K : D → Prop) : Prop :=
  match d with
  | .any => K .any
  | .v x => K (.v x)
  | .sl k es => K (.sl k es)
  | .tsl k es => K (.tsl k es)
  | .fp c j => K (.fp c j)
  | .msl a b c d => K (.msl a b c d)
  | .ptr a b => K (.ptr a b)
  | .eptr a b c d => K (.eptr a b c d)
  | .fn f a b => K (.fn f a b)
  | .iface t d => K (.iface t d)
  | .agg ds => K (.agg ds)
  | .tuple ds => K (.tuple ds)
def forceL : List D → (List D → Prop) → Prop
  | [], K => K []
  | d :: l, K => force1 d fun d => forceL l fun l => K (d :: l)
def forceD (d : D) (K : D → Prop) : Prop :=
  match d with
  | .agg ds => forceL ds fun ds => K (.agg ds)
  | .tuple ds => forceL ds fun ds => K (.tuple ds)
  | d => force1 d K
def forceN (n : Nat) (K : Nat → Prop) : Prop :=
  match n with
  | 0 => K 0
  | k + 1 => K (k + 1)
def forceLL : List (List D) → (List (List D) → Prop) → Prop
  | [], K => K []
  | d :: l, K => forceL d fun d => forceLL l fun l => K (d :: l)
theorem force1_eq (d : D) (K : D → Prop) : force1 d K = K d := by cases d <;> rfl
theorem forceL_eq : ∀ (l : List D) (K : List D → Prop), forceL l K = K l
  | [], _ => rfl
  | d :: l, K => by rw [forceL, force1_eq, forceL_eq l]
theorem forceLL_eq : ∀ (l : List (List D)) (K : List (List D) → Prop), forceLL l K = K l
  | [], _ => rfl
  | d :: l, K => by rw [forceLL, forceL_eq, forceLL_eq l]
theorem forceD_eq (d : D) (K : D → Prop) : forceD d K = K d := by
  unfold forceD
  split
  · rw [forceL_eq]
  · rw [forceL_eq]
  · rw [force1_eq]
theorem forceN_eq (n : Nat) (K : Nat → Prop) : forceN n K = K n := by cases n <;> rfl

def ev (e : Env) : Operand → D
  | .tmp t => e t
  | .const x => .v x
  | .global g => .v (.pointer (some ⟨g, 0, none⟩))
  | .func f => .fn (.func f) [] []

def cellsOf : D → List D
  | .agg ds => ds
  | d => [d]

def lenL {α : Type} : List α → Nat → Bool
  | [], 0 => true
  | _ :: l, n + 1 => lenL l n
  | _, _ => false
theorem lenL_iff {α : Type} : ∀ {l : List α} {n : Nat}, lenL l n = true → l.length = n
  | [], 0, _ => rfl
  | _ :: l, n + 1, h => by simp [lenL_iff (l := l) (n := n) h]
  | [], _ + 1, h => by simp [lenL] at h
  | _ :: _, 0, h => by simp [lenL] at h

def allOne : List D → Bool
  | [] => true
  | d :: l => match d.one with | true => allOne l | false => false
theorem allOne_iff : ∀ {l : List D}, allOne l = true → ∀ d ∈ l, d.one = true
  | [], _, d, hd => by simp at hd
  | a :: l, h, d, hd => by
    simp only [allOne] at h
    split at h
    · rename_i h1
      rcases List.mem_cons.1 hd with rfl | hd
      · exact h1
      · exact allOne_iff h d hd
    · cases h

/-- what a variable of a type reads as, its cells given from place j on -/
def packA (i : TI) (cells : List D) (j : Nat) (K : D → Prop) : Prop :=
  match i.kind.agg with
  | true => match lenL ((cells.drop j).take i.sz) i.sz with
    | true => K (.agg ((cells.drop j).take i.sz))
    | false => False
  | false => match cells.drop j with
    | d :: _ => K d
    | [] => False

def storeL (cells : List D) (j : Nat) (ds : List D) : List D := cells.take j ++ ds ++ cells.drop (j + ds.length)

def ghL (b : Nat) : Nat → Nat → (List D → Prop) → Prop
  | _, 0, K => K []
  | o, n + 1, K => match Gh.gh b o with
    | some x => ghL b (o + 1) n fun l => K (.v x :: l)
    | none => False

def loadA (T : Tab) (t : Nat) (p : D) (H : Hp) (K : D → Prop) : Prop :=
  match T.get t with
  | none => False
  | some i => match p with
    | .fp cells j => packA i cells j K
    | .ptr id j => match H id with
      | some ⟨_, _, [cells]⟩ => packA i cells j K
      | _ => False
    | .eptr id k x j => ∃ O c, H id = some O ∧ O.k = k ∧ O.es[x]? = some c ∧ packA i c j K
    | .v (.pointer (some ⟨b, o, none⟩)) => ghL b o i.sz fun cells => packA i cells 0 K
    | _ => False

def storeA (T : Tab) (t : Nat) (p x : D) (H : Hp) (K : Hp → Prop) : Prop :=
  match T.get t with
  | none => False
  | some i => match lenL (cellsOf x) i.sz, allOne (cellsOf x) with
    | true, true => match p with
      | .ptr id j => match H id with
        | some ⟨ty, k, [cells]⟩ => match Nat.ble (j + i.sz) cells.length with
          | true => forceL (storeL cells j (cellsOf x)) fun c => K (updH H id (some ⟨ty, k, [c]⟩))
          | false => False
        | _ => False
      | .eptr id k y j => ∃ O c, H id = some O ∧ O.k = k ∧ O.es[y]? = some c ∧ j + i.sz ≤ c.length ∧ K (updH H id (some ⟨O.ty, O.k, O.es.set y (storeL c j (cellsOf x))⟩))
      | _ => False
    | _, _ => False

def eqV : Value → Value → Option Bool
  | .int _ a, .int _ b => some (eqI a b)
  | .string a, .string b => some (eqS a b)
  | .bool a, .bool b => some (eqB a b)
  | _, _ => none
/-- fields of one cell, ints and bools and strings, each compared -/
def eqL (T : Tab) : Nat → List (Nat × Nat) → List D → List D → Option Bool
  | _, [], [], [] => some true
  | o, (o', t) :: fs, .v x :: xs, .v y :: ys => match Nat.beq o o', T.get t with
    | true, some ⟨1, _, _, .int k⟩ => match x, y with
      | .int k1 _, .int k2 _ => match decide (k1 = k), decide (k2 = k), eqV x y, eqL T (o + 1) fs xs ys with
        | true, true, some a, some b => some (andB a b)
        | _, _, _, _ => none
      | _, _ => none
    | true, some ⟨1, _, _, .bool⟩ => match x, y with
      | .bool _, .bool _ => match eqV x y, eqL T (o + 1) fs xs ys with
        | some a, some b => some (andB a b)
        | _, _ => none
      | _, _ => none
    | true, some ⟨1, _, _, .str⟩ => match x, y with
      | .string _, .string _ => match eqV x y, eqL T (o + 1) fs xs ys with
        | some a, some b => some (andB a b)
        | _, _ => none
      | _, _ => none
    | _, _ => none
  | _, _, _, _ => none

def binA (T : Tab) (op : BinOp) (t : Nat) (x y : D) (K : D → Prop) : Prop :=
  match x, y with
  | .v (.int k a), .v (.int l b) => match decide (k = l) with
    | false => False
    | true => match op with
      | .add => K (.v (.int k (wr k (a + b))))
      | .sub => K (.v (.int k (wr k (a - b))))
      | .mul => K (.v (.int k (wr k (a * b))))
      | .eql => splitB (eqI a b) fun c => K (.v (.bool c))
      | .neq => splitB (eqI a b) fun c => K (.v (.bool (notB c)))
      | .lss => splitB (ltI a b) fun c => K (.v (.bool c))
      | .leq => splitB (leI a b) fun c => K (.v (.bool c))
      | .gtr => splitB (ltI b a) fun c => K (.v (.bool c))
      | .geq => splitB (leI b a) fun c => K (.v (.bool c))
      | .quo => 0 ≤ a ∧ 0 < b ∧ K (.v (.int k (wr k (a / b))))
      | .rem => 0 ≤ a ∧ 0 < b ∧ K (.v (.int k (a % b)))
      | .shr => 0 ≤ b ∧ b ≤ k.bits ∧ K (.v (.int k (a / 2 ^ b.toNat)))
      | _ => False
  | .v (.string a), .v (.string b) => match op with
    | .add => a.size + b.size ≤ 4611686018427387904 ∧ K (.v (.string (catS a b)))
    | .eql => splitB (eqS a b) fun c => K (.v (.bool c))
    | .neq => splitB (eqS a b) fun c => K (.v (.bool (notB c)))
    | .lss => splitB (ltS a b) fun c => K (.v (.bool c))
    | .leq => splitB (orB (ltS a b) (eqS a b)) fun c => K (.v (.bool c))
    | .gtr => splitB (orB (ltS a b) (eqS a b)) fun c => K (.v (.bool (notB c)))
    | .geq => splitB (ltS a b) fun c => K (.v (.bool (notB c)))
    | _ => False
  | .v (.bool a), .v (.bool b) => match T.get t with
    | some ⟨_, _, _, .bool⟩ => match op with
      | .eql => splitB (eqB a b) fun c => K (.v (.bool c))
      | .neq => splitB (eqB a b) fun c => K (.v (.bool (notB c)))
      | _ => False
    | _ => False
  | .agg xs, .agg ys => match T.get t with
    | some ⟨_, _, _, .struct fs⟩ => match eqL T 0 fs xs ys with
      | some b => match op with
        | .eql => splitB b fun c => K (.v (.bool c))
        | .neq => splitB b fun c => K (.v (.bool (notB c)))
        | _ => False
      | none => False
    | _ => False
  | .sl _ es, .v (.slice none 0 0) => match T.get t with
    | some ⟨_, _, _, .slice _⟩ => match op with
      | .eql => ∀ b : Bool, (b = true → es = []) → K (.v (.bool b))
      | .neq => ∀ b : Bool, (b = false → es = []) → K (.v (.bool b))
      | _ => False
    | _ => False
  | .msl _ _ _ len, .v (.slice none 0 0) => match T.get t with
    | some ⟨_, _, _, .slice _⟩ => match op with
      | .eql => ∀ b : Bool, (b = true → len = 0) → K (.v (.bool b))
      | .neq => ∀ b : Bool, (b = false → len = 0) → K (.v (.bool b))
      | _ => False
    | _ => False
  | .v (.slice none 0 0), .v (.slice none 0 0) => match T.get t with
    | some ⟨_, _, _, .slice _⟩ => match op with
      | .eql => K (.v (.bool true))
      | .neq => K (.v (.bool false))
      | _ => False
    | _ => False
  | .ptr _ _, .v (.pointer none) => match T.get t with
    | some ⟨_, _, _, .ptr _⟩ => match op with
      | .eql => K (.v (.bool false))
      | .neq => K (.v (.bool true))
      | _ => False
    | _ => False
  | .v (.pointer none), .v (.pointer none) => match T.get t with
    | some ⟨_, _, _, .ptr _⟩ => match op with
      | .eql => K (.v (.bool true))
      | .neq => K (.v (.bool false))
      | _ => False
    | _ => False
  | _, _ => False

def unA (op : UnOp) (x : D) (K : D → Prop) : Prop :=
  match op, x with
  | .not, .v (.bool b) => K (.v (.bool (notB b)))
  | .neg, .v (.int k a) => K (.v (.int k (wr k (0 - a))))
  | _, _ => False

def lenA (T : Tab) (t : Nat) (x : D) (K : D → Prop) : Prop :=
  match T.get t with
  | some ⟨_, _, _, .str⟩ => match x with
    | .v (.string s) => K (.v (.int .i64 s.size))
    | _ => False
  | some ⟨_, _, _, .slice _⟩ => match x with
    | .sl _ es => K (.v (.int .i64 es.length))
    | .tsl _ es => K (.v (.int .i64 es.length))
    | .msl _ _ _ n => K (.v (.int .i64 n))
    | .v (.slice none 0 0) => K (.v (.int .i64 (0 : Nat)))
    | _ => False
  | _ => False

/-- what a slice (or string of bytes) that is appended or copied has, as elements of k cells -/
def srcA (x : D) (k : Nat) (H : Hp) (K : List (List D) → Prop) : Prop :=
  match x with
  | .sl l es => match decide (l = k) with | true => K es | false => False
  | .tsl l es => match decide (l = k) with | true => K es | false => False
  | .v (.slice none 0 0) => K []
  | .msl id l lo n => ∃ O, H id = some O ∧ O.k = k ∧ l = k ∧ lo + n ≤ O.es.length ∧ K ((O.es.drop lo).take n)
  | _ => False

def natOf (x : D) (K : Nat → Prop) : Prop :=
  match x with
  | .v (.int _ a) => ∃ i : Nat, a = (i : Int) ∧ K i
  | _ => False

def optNat (x : Option D) (K : Option Nat → Prop) : Prop :=
  match x with
  | none => K none
  | some d => natOf d fun i => K (some i)

/-- s[l:h:m] of elements of k cells; the third bound only as 'tight' -/
def sliceC (T : Tab) (t : Nat) (x : D) (l h m : Option Nat) (K : D → Prop) : Prop :=
  match T.get t with
  | some ⟨_, _, _, .str⟩ => match x, m with
    | .v (.string s), none => l.getD 0 ≤ h.getD s.size ∧ h.getD s.size ≤ s.size ∧ K (.v (.string (cutS s (l.getD 0) (h.getD s.size))))
    | _, _ => False
  | some ⟨_, _, _, .slice e⟩ => match T.get e with
    | none => False
    | some j => match x with
      | .sl k es => match m with
        | none => k = j.sz ∧ l.getD 0 ≤ h.getD es.length ∧ h.getD es.length ≤ es.length ∧ K (.sl k ((es.drop (l.getD 0)).take (h.getD es.length - l.getD 0)))
        | some m => k = j.sz ∧ l.getD 0 ≤ h.getD es.length ∧ h = some m ∧ m ≤ es.length ∧ K (.tsl k ((es.drop (l.getD 0)).take (m - l.getD 0)))
      | .msl id k a n => match m with
        | none => k = j.sz ∧ l.getD 0 ≤ h.getD n ∧ h.getD n ≤ n ∧ K (.msl id k (a + l.getD 0) (h.getD n - l.getD 0))
        | _ => False
      | .v (.slice none 0 0) => match m with
        | none => l.getD 0 = 0 ∧ h.getD 0 = 0 ∧ K (.v (.slice none 0 0))
        | _ => False
      | _ => False
  | _ => False

def sliceA (T : Tab) (t : Nat) (x : D) (lo hi mx : Option D) (K : D → Prop) : Prop :=
  optNat lo fun l => optNat hi fun h => optNat mx fun m => sliceC T t x l h m K

def fieldOf (T : Tab) (t f : Nat) : Option (Nat × TI) :=
  match T.get t with
  | some ⟨_, _, _, .struct fs⟩ => match fs[f]? with
    | some (o, ft) => match T.get ft with
      | some i => some (o, i)
      | none => none
    | none => none
  | _ => none

def fillL (z : List D) : List (Nat × D × Nat) → Option (List D)
  | [] => some z
  | (o, d, n) :: r => match lenL (cellsOf d) n, allOne (cellsOf d), Nat.ble (o + n) z.length with
    | true, true, true => fillL (storeL z o (cellsOf d)) r
    | _, _, _ => none

/-- the places of a struct's fields: offset, size -/
def placesA (T : Tab) : List (Nat × Nat) → Option (List (Nat × Nat))
  | [] => some []
  | (o, t) :: r => match T.get t, placesA T r with
    | some i, some l => some ((o, i.sz) :: l)
    | _, _ => none

def convA (T : Tab) (src dst : Nat) (x : D) (K : D → Prop) : Prop :=
  match T.get src, T.get dst with
  | some ⟨_, _, _, .int _⟩, some ⟨_, _, _, .int k⟩ => match x with
    | .v (.int _ a) => K (.v (.int k (wr k a)))
    | _ => False
  | some ⟨_, _, _, .str⟩, some ⟨_, _, _, .str⟩ => match x with
    | .v (.string s) => K (.v (.string s))
    | _ => False
  | _, _ => False

/-- the bytes of a string, as elements of one cell -/
def bytesD (s : ByteArray) : List (List D) := s.data.toList.map fun b => [.v (.int .u8 b.toNat)]

/-- a conversion; of bytes to a string too -/
def convB (T : Tab) (src dst : Nat) (x : D) (H : Hp) (K : D → Prop) : Prop :=
  match T.get src, T.get dst with
  | some ⟨_, _, _, .slice el⟩, some ⟨_, _, _, .str⟩ => match T.get el with
    | some ⟨_, _, _, .int .u8⟩ => srcA x 1 H fun es => ∃ b : ByteArray, es = bytesD b ∧ K (.v (.string b))
    | _ => False
  | _, _ => convA T src dst x K

end Bk
