/- Comparing. -/
import Derived.Test.YtobfdenalhmecaaDoorSa
import Derived.Lib.Bytealg
import Derived.WalkKit
set_option linter.unusedSimpArgs false
set_option linter.unusedSectionVars false
set_option linter.unusedVariables false
namespace Bk
open Go Go.Proofs

def cmpS (a b : ByteArray) : Int := Lib.compareBytes a.data.toList b.data.toList

theorem calls44 (a b : ByteArray) (w : World) : Calls Tryd.prog 44 #[.string a, .string b] w fun e w' => e = .returned (.int .i64 (cmpS a b)) ∧ w' = w := by
  go_enter Tryd.func44, Tryd.ntmps44
  go_wp2
  rw [run_callFunc_extern Tryd.func51 (by kernel_rfl) (by kernel_rfl) (by kernel_rfl) (e := Extern.BytealgCompare.compare) (by kernel_rfl), Lib.run_compareString]
  simp only [Result.andThen]
  rw [Oper.upon_value]
  go_wp2
  go_ret
  exact ⟨rfl, rfl⟩
theorem pc44 (a b : ByteArray) : PC Tryd.prog 44 [.v (.string a), .v (.string b)] (wi (cmpS a b)) :=
  pc_of_calls (xs := [.string a, .string b]) ⟨_, _, Tryd.func44, rfl, rfl⟩ (calls44 a b)
theorem pc36 (a b : ByteArray) : PC Tryd.prog 36 [.v (.string a), .v (.string b)] (wi (cmpS a b)) := by
  refine pc_callA rfl (callA_body hT1 hmix Tryd.func36 rfl rfl (by kernel_rfl) Tryd.ntmps36 (Nat.le_of_ble_eq_true rfl) rfl ?_)
  conv => whnf
  refine callA_pc (pc44 a b) ?_
  conv => whnf
  rfl

/-- the first that is not 0 -/
def orI : List Int → Int
  | [] => 0
  | a :: l => if a ≠ 0 then a else orI l
def ints (l : List Int) : D := .sl 1 (l.map fun a => [wi a])

theorem orI_drop {l : List Int} {i : Nat} (hi : i < l.length) : orI (l.drop i) = if l[i] ≠ 0 then l[i] else orI (l.drop (i + 1)) := by
  rw [List.drop_eq_getElem_cons hi]; rfl

theorem pc35 (l : List Int) (hl : l.length < 1000000) : PC Tryd.prog 35 [ints l] (wi (orI l)) := by
  refine pc_callA rfl (callA_body hT1 hmix Tryd.func35 rfl rfl (by kernel_rfl) Tryd.ntmps35 (Nat.le_of_ble_eq_true rfl) rfl ?_)
  conv => whnf
  refine loop_rule hT1 hmix (ι := {i : Nat // i ≤ l.length ∧ orI l = orI (l.drop i)}) (fun i => [(3, wi 0), (6, ints l), (7, wi l.length), (8, wi i.1)]) 5 (fun _ => []) (fun i => l.length - i.1) (by kernel_rfl) ?_ ⟨0, Nat.zero_le _, rfl⟩ ⟨[], rfl, ?_, trivial⟩
  · intro ⟨i, hi, ho⟩
    conv => whnf
    refine splitB_intro (fun h => ?_) (fun h => ?_) <;> (conv => whnf)
    · simp only [ltI_t] at h
      have hi' : i < l.length := by omega
      refine ⟨i, [wi l[i]], rfl, by simp [hi'], rfl, ?_⟩
      conv => whnf
      have ho' := orI_drop hi'
      refine splitB_intro (fun h => ?_) (fun h => ?_) <;> (conv => whnf)
      · simp only [eqI_t, eqI_f] at h
        refine ⟨⟨i + 1, by omega, by rw [ho, ho', if_neg (by simpa using h)]⟩, ?_, [], rfl, ⟨rfl, rfl, ?_, ?_, trivial⟩, trivial⟩
        · show l.length - (i + 1) < l.length - i; omega
        · rfl
        · show D.v (Value.int .i64 (wr .i64 ((i : Int) + 1))) = _
          rw [wr64 _ (by omega) (by omega)]; rfl
      · simp only [eqI_t, eqI_f] at h
        rw [ho, ho', if_pos h]; rfl
    · simp only [ltI_f] at h
      have hi' : l.length ≤ i := by omega
      rw [ho, List.drop_eq_nil_of_le hi']; rfl
  · refine ⟨rfl, rfl, ?_, rfl, trivial⟩
    show D.v (Value.int .i64 ((l.map fun a => [wi a]).length : Nat)) = _
    rw [List.length_map]; rfl

/-- the order of entries -/
def ord (x y : Ent) : Int := if cmpS x.k y.k ≠ 0 then cmpS x.k y.k else sgn y.seq x.seq
theorem orI_ord (x y : Ent) : orI [cmpS x.k y.k, sgn y.seq x.seq] = ord x y := by
  simp only [orI, ord]; grind

theorem pc22 (x y : Ent) : PC Tryd.prog 22 [.agg [], .agg x.c, .agg y.c] (wi (ord x y)) := by
  refine pc_callA rfl (callA_body hT1 hmix Tryd.func22 rfl rfl (by kernel_rfl) Tryd.ntmps22 (Nat.le_of_ble_eq_true rfl) rfl ?_)
  conv => whnf
  refine ⟨_, pc36 x.k y.k, ?_⟩
  conv => whnf
  refine ⟨_, pc37 y.seq x.seq, ?_⟩
  conv => whnf
  refine ⟨_, pc35 [cmpS x.k y.k, sgn y.seq x.seq] (by simp), ?_⟩
  conv => whnf
  rw [orI_ord]; rfl

end Bk
