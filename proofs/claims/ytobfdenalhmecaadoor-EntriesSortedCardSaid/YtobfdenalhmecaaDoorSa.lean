/- The seat's types; the small functions. -/
import Derived.Test.YtobfdenalhmecaaDoorKA
import Derived.Test.YtobfdenalhmecaaDoorRows
set_option linter.unusedSimpArgs false
set_option linter.unusedSectionVars false
set_option linter.unusedVariables false
namespace Bk
open Go Go.Proofs

theorem ltI_t {a b : Int} : (ltI a b = true) = (a < b) := by rw [ltI_eq]; simp
theorem ltI_f {a b : Int} : (ltI a b = false) = (b ≤ a) := by rw [ltI_eq]; simp
theorem leI_t {a b : Int} : (leI a b = true) = (a ≤ b) := by rw [leI_eq]; simp
theorem leI_f {a b : Int} : (leI a b = false) = (b < a) := by rw [leI_eq]; simp
theorem eqI_t {a b : Int} : (eqI a b = true) = (a = b) := by rw [eqI_eq]; simp
theorem eqI_f {a b : Int} : (eqI a b = false) = (a ≠ b) := by rw [eqI_eq]; simp
theorem eqB_t {a b : Bool} : (eqB a b = true) = (a = b) := by rw [eqB_eq]; simp
theorem eqB_f {a b : Bool} : (eqB a b = false) = (a ≠ b) := by rw [eqB_eq]; simp
theorem eqS_t {a b : ByteArray} : (eqS a b = true) = (a = b) := by rw [eqS_eq, show (a == b) = (a.data == b.data) from rfl, ByteArray.ext_iff]; simp
theorem eqS_f {a b : ByteArray} : (eqS a b = false) = (a ≠ b) := by rw [eqS_eq, show (a == b) = (a.data == b.data) from rfl, ne_eq, ByteArray.ext_iff]; simp
theorem andB_t {a b : Bool} : (andB a b = true) = (a = true ∧ b = true) := by rw [andB_eq]; simp
theorem andB_f {a b : Bool} : (andB a b = false) = (a = false ∨ b = false) := by rw [andB_eq]; cases a <;> cases b <;> simp
theorem orB_t {a b : Bool} : (orB a b = true) = (a = true ∨ b = true) := by rw [orB_eq]; simp
theorem orB_f {a b : Bool} : (orB a b = false) = (a = false ∧ b = false) := by rw [orB_eq]; simp

/-- the program's table of escapes -/
def escL : List Value := [.int .u8 34, .int .u8 34, .int .u8 92, .int .u8 92, .int .u8 10, .int .u8 110, .int .u8 13, .int .u8 114, .int .u8 9, .int .u8 116]
instance gh1 : Gh := ⟨fun b o => match b with | 0 => escL[o]? | _ => none, fun f => match f with | 30 => true | _ => false, fun N i => match Nat.beq N 220 with | true => (match Nat.beq i 41 with | true => true | false => Nat.beq i 43) | false => false⟩

def iz (k : IntKind) : List Value := [.int k 0]
def T1 : Tab :=
  [(23, ⟨4, 48, [.string ⟨#[]⟩, .string ⟨#[]⟩, .bool false, .int .i64 0], .struct [(0, 9), (1, 9), (2, 4), (3, 2)]⟩),
   (9, ⟨1, 16, [.string ⟨#[]⟩], .str⟩), (3, ⟨1, 8, iz .i64, .int .i64⟩), (2, ⟨1, 8, iz .i64, .int .i64⟩), (4, ⟨1, 1, [.bool false], .bool⟩), (5, ⟨1, 1, iz .u8, .int .u8⟩),
   (26, ⟨1, 8, iz .i64, .int .i64⟩), (33, ⟨1, 24, [.slice none 0 0], .slice 23⟩), (37, ⟨1, 24, [.slice none 0 0], .slice 4⟩), (52, ⟨1, 24, [.slice none 0 0], .slice 5⟩), (72, ⟨1, 24, [.slice none 0 0], .slice 3⟩),
   (44, ⟨0, 0, [], .struct []⟩), (45, ⟨1, 8, [.nilFunc], .func⟩), (32, ⟨1, 8, [.nilFunc], .func⟩), (51, ⟨1, 8, [.pointer none], .ptr 54⟩), (54, ⟨2, 32, [.pointer none, .slice none 0 0], .struct [(0, 51), (1, 52)]⟩),
   (69, ⟨1, 8, iz .u64, .int .u64⟩), (82, ⟨1, 8, iz .u64, .int .u64⟩), (90, ⟨1, 4, iz .u32, .int .u32⟩),
   (78, ⟨2, 2, [.int .u8 0, .int .u8 0], .struct [(0, 5), (1, 5)]⟩), (79, ⟨10, 10, [.int .u8 0, .int .u8 0, .int .u8 0, .int .u8 0, .int .u8 0, .int .u8 0, .int .u8 0, .int .u8 0, .int .u8 0, .int .u8 0], .array 5 78⟩)]
theorem hT1 : TabOk Tryd.prog T1 := tabOk_of (by kernel_rfl)
theorem hmix : Tryd.prog.follows .mixedOrders = true := by kernel_rfl

structure Ent where
  k : ByteArray
  v : ByteArray
  dead : Bool
  seq : Int
  deriving DecidableEq
def Ent.c (x : Ent) : List D := [.v (.string x.k), .v (.string x.v), .v (.bool x.dead), .v (.int .i64 x.seq)]
theorem Ent.c_isI (x : Ent) : isIL x.c = true := rfl

def wi (a : Int) : D := .v (.int .i64 a)
def wb (a : Bool) : D := .v (.bool a)

theorem pc25 (s : ByteArray) : PC Tryd.prog 25 [.v (.string s)] (wi (if 32 < (s.size : Int) then 3 else 0)) := by
  refine pc_callA rfl (callA_body hT1 hmix Tryd.func25 rfl rfl (by kernel_rfl) Tryd.ntmps25 (Nat.le_of_ble_eq_true rfl) rfl ?_)
  conv => whnf
  repeat' (refine splitB_intro (fun _ => ?_) (fun _ => ?_) <;> (conv => whnf))
  all_goals (simp only [ltI_t, ltI_f] at *; show _ = wi _)
  · rw [if_pos (by assumption)]; rfl
  · rw [if_neg (by omega)]; rfl

theorem pc5 (x : Ent) : PC Tryd.prog 5 [.agg x.c] (wb (decide (100 < (x.k.size : Int) ∨ 100 < (x.v.size : Int)))) := by
  refine pc_callA rfl (callA_body hT1 hmix Tryd.func5 rfl rfl (by kernel_rfl) Tryd.ntmps5 (Nat.le_of_ble_eq_true rfl) rfl ?_)
  conv => whnf
  repeat' (refine splitB_intro (fun _ => ?_) (fun _ => ?_) <;> (conv => whnf))
  all_goals (simp only [ltI_t, ltI_f] at *; show _ = wb _)
  · rw [decide_eq_true (by omega)]; rfl
  · rw [decide_eq_true (by omega)]; rfl
  · rw [decide_eq_false (by omega)]; rfl

/-- a result that says whether an entry may be -/
def chk (x : Ent) : Int := if 32 < (x.k.size : Int) ∨ 64 < (x.v.size : Int) then 3 else if x.dead = true ∧ x.v ≠ ⟨#[]⟩ then 6 else if x.seq < 1 ∨ 1000000000 < x.seq then 7 else 0

theorem pc12 (x : Ent) : PC Tryd.prog 12 [.agg x.c] (wi (chk x)) := by
  obtain ⟨k, v, d, q⟩ := x
  refine pc_callA rfl (callA_body hT1 hmix Tryd.func12 rfl rfl (by kernel_rfl) Tryd.ntmps12 (Nat.le_of_ble_eq_true rfl) rfl ?_)
  cases d <;> conv => whnf
  all_goals repeat' (refine splitB_intro (fun _ => ?_) (fun _ => ?_) <;> (conv => whnf))
  all_goals (simp only [ltI_t, ltI_f, eqS_t, eqS_f] at *; show wi _ = wi _; congr 1; simp only [chk]; grind)

theorem pc11 (x : Ent) : PC Tryd.prog 11 [.agg x.c] (wi (chk x)) := by
  obtain ⟨k, v, d, q⟩ := x
  refine pc_callA rfl (callA_body hT1 hmix Tryd.func11 rfl rfl (by kernel_rfl) Tryd.ntmps11 (Nat.le_of_ble_eq_true rfl) rfl ?_)
  conv => whnf
  refine callA_pc (pc25 k) ?_
  cases d <;> conv => whnf
  all_goals repeat' (refine splitB_intro (fun _ => ?_) (fun _ => ?_) <;> (conv => whnf))
  all_goals (simp only [ltI_t, ltI_f, eqS_t, eqS_f, eqI_t, eqI_f] at *; show wi _ = wi _; congr 1; simp only [chk]; grind)

theorem pc29 (x y : Ent) : PC Tryd.prog 29 [.agg x.c, .agg y.c] (wb (decide (x.k = y.k))) := by
  refine pc_callA rfl (callA_body hT1 hmix Tryd.func29 rfl rfl (by kernel_rfl) Tryd.ntmps29 (Nat.le_of_ble_eq_true rfl) rfl ?_)
  conv => whnf
  all_goals repeat' (refine splitB_intro (fun _ => ?_) (fun _ => ?_) <;> (conv => whnf))
  all_goals (simp only [eqS_t, eqS_f] at *; show wb _ = wb _; congr 1; grind)

theorem pc45 (a : Int) : PC Tryd.prog 45 [wi a] (wb false) := by
  refine pc_callA rfl (callA_body hT1 hmix Tryd.func45 rfl rfl (by kernel_rfl) Tryd.ntmps45 (Nat.le_of_ble_eq_true rfl) rfl ?_)
  conv => whnf
  all_goals repeat' (refine splitB_intro (fun _ => ?_) (fun _ => ?_) <;> (conv => whnf))
  all_goals (simp only [eqI_t, eqI_f] at *; show wb _ = wb _; first | rfl | (exfalso; omega))

def sgn (a b : Int) : Int := if a < b then -1 else if b < a then 1 else 0
theorem pc37 (a b : Int) : PC Tryd.prog 37 [wi a, wi b] (wi (sgn a b)) := by
  refine pc_callA rfl (callA_body hT1 hmix Tryd.func37 rfl rfl (by kernel_rfl) Tryd.ntmps37 (Nat.le_of_ble_eq_true rfl) rfl ?_)
  conv => whnf
  refine callA_pc (pc45 a) ?_
  conv => whnf
  refine callA_pc (pc45 b) ?_
  conv => whnf
  all_goals repeat' (refine splitB_intro (fun _ => ?_) (fun _ => ?_) <;> (conv => whnf))
  all_goals (simp only [ltI_t, ltI_f] at *; show wi _ = wi _; congr 1; simp only [sgn]; grind)

theorem pc17 : PC Tryd.prog 17 [] (.agg (Ent.c ⟨⟨#[97]⟩, ⟨#[49]⟩, false, 5⟩)) := by
  refine pc_callA rfl (callA_body hT1 hmix Tryd.func17 rfl rfl (by kernel_rfl) Tryd.ntmps17 (Nat.le_of_ble_eq_true rfl) rfl ?_)
  conv => whnf
  rfl
theorem pc18 : PC Tryd.prog 18 [] (.agg (Ent.c ⟨⟨#[97]⟩, ⟨#[]⟩, true, 7⟩)) := by
  refine pc_callA rfl (callA_body hT1 hmix Tryd.func18 rfl rfl (by kernel_rfl) Tryd.ntmps18 (Nat.le_of_ble_eq_true rfl) rfl ?_)
  conv => whnf
  rfl
theorem pc19 : PC Tryd.prog 19 [] (.agg (Ent.c ⟨⟨#[98]⟩, ⟨#[50]⟩, false, 6⟩)) := by
  refine pc_callA rfl (callA_body hT1 hmix Tryd.func19 rfl rfl (by kernel_rfl) Tryd.ntmps19 (Nat.le_of_ble_eq_true rfl) rfl ?_)
  conv => whnf
  rfl

theorem pc23 (x y : Ent) : PC Tryd.prog 23 [.agg x.c, .agg y.c] (wi (if chk x = 0 then chk y else chk x)) := by
  refine pc_callA rfl (callA_body hT1 hmix Tryd.func23 rfl rfl (by kernel_rfl) Tryd.ntmps23 (Nat.le_of_ble_eq_true rfl) rfl ?_)
  conv => whnf
  refine callA_pc (pc12 x) ?_
  conv => whnf
  refine splitB_intro (fun _ => ?_) (fun _ => ?_) <;> (conv => whnf)
  · refine callA_pc (pc12 y) ?_
    conv => whnf
    simp only [eqI_t, eqI_f] at *; show wi _ = wi _; congr 1; grind
  · simp only [eqI_t, eqI_f] at *; show wi _ = wi _; congr 1; grind
end Bk
