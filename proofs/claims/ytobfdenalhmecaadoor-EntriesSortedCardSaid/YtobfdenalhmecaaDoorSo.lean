/- Print, for the entries of awake. -/
import Derived.Test.YtobfdenalhmecaaDoorSn
set_option linter.unusedSimpArgs false
set_option linter.unusedSectionVars false
set_option linter.unusedVariables false
namespace Bk
open Go Go.Proofs

section
variable {n : Nat} {H : Hp} {id g : Nat} {p : D} {t s : ByteArray} {K : D → Nat → Hp → Prop}
theorem use30 (hO : H id = some (bldO p (.msl g 1 0 t.size))) (hG : H g = some (bytO t)) (hid : id < n) (hg : g < n) (hne : id ≠ g) (hp : p = .v (.pointer none) ∨ p = .ptr id 0) (hb : t.size + s.size ≤ 140737488355328)
    (hK : K (.tuple [wi s.size, .v .nilIface]) (n + 1) (putH (killL H [id, g]) [(id, bldO (.ptr id 0) (.msl n 1 0 (t ++ s).size)), (n, bytO (t ++ s))])) : CallA Tryd.prog 30 [.ptr id 0, .v (.string s)] n H K := by
  rcases hp with rfl | rfl
  · exact callA_frame (ca30 (p := .v (.pointer none)) (.inl rfl) hb) [id, g] rfl (by simp [hid, hg]) (by simp [hne]) (by simp) rfl ⟨⟨_, hO, .inl rfl⟩, ⟨_, hG, .inr ⟨rfl, bytesD_imm _⟩⟩, trivial⟩
      (fun _ => [(id, bldO (.ptr id 0) (.msl n 1 0 (t ++ s).size)), (n, bytO (t ++ s))]) (fun _ _ => ⟨rfl, .inl rfl, rfl, .inr ⟨rfl, bytesD_imm _⟩, trivial⟩) (fun _ _ => hK)
  · exact callA_frame (ca30 (p := .ptr 0 0) (.inr rfl) hb) [id, g] rfl (by simp [hid, hg]) (by simp [hne]) (by simp) rfl ⟨⟨_, hO, .inl rfl⟩, ⟨_, hG, .inr ⟨rfl, bytesD_imm _⟩⟩, trivial⟩
      (fun _ => [(id, bldO (.ptr id 0) (.msl n 1 0 (t ++ s).size)), (n, bytO (t ++ s))]) (fun _ _ => ⟨rfl, .inl rfl, rfl, .inr ⟨rfl, bytesD_imm _⟩, trivial⟩) (fun _ _ => hK)
theorem use30n (hO : H id = some (bldO p (.v (.slice none 0 0)))) (hid : id < n) (hp : p = .v (.pointer none) ∨ p = .ptr id 0) (hb : s.size ≤ 140737488355328)
    (hK : K (.tuple [wi s.size, .v .nilIface]) (n + 1) (putH (killL H [id]) [(id, bldO (.ptr id 0) (.msl n 1 0 s.size)), (n, bytO s)])) : CallA Tryd.prog 30 [.ptr id 0, .v (.string s)] n H K := by
  rcases hp with rfl | rfl
  · exact callA_frame (ca30n (p := .v (.pointer none)) (.inl rfl) hb) [id] rfl (by simp [hid]) (by simp) (by simp) rfl ⟨⟨_, hO, .inl rfl⟩, trivial⟩
      (fun _ => [(id, bldO (.ptr id 0) (.msl n 1 0 s.size)), (n, bytO s)]) (fun _ _ => ⟨rfl, .inl rfl, rfl, .inr ⟨rfl, bytesD_imm _⟩, trivial⟩) (fun _ _ => hK)
  · exact callA_frame (ca30n (p := .ptr 0 0) (.inr rfl) hb) [id] rfl (by simp [hid]) (by simp) (by simp) rfl ⟨⟨_, hO, .inl rfl⟩, trivial⟩
      (fun _ => [(id, bldO (.ptr id 0) (.msl n 1 0 s.size)), (n, bytO s)]) (fun _ _ => ⟨rfl, .inl rfl, rfl, .inr ⟨rfl, bytesD_imm _⟩, trivial⟩) (fun _ _ => hK)
theorem use33 (hO : H id = some (bldO (.ptr id 0) (.msl g 1 0 t.size))) (hG : H g = some (bytO t)) (hid : id < n) (hg : g < n) (hne : id ≠ g)
    (hK : K (wi t.size) n (putH (killL H [id, g]) [(id, bldO (.ptr id 0) (.msl g 1 0 t.size)), (g, bytO t)])) : CallA Tryd.prog 33 [.ptr id 0] n H K :=
  callA_frame (ca33 (p := .ptr 0 0) (.inr rfl)) [id, g] rfl (by simp [hid, hg]) (by simp [hne]) (by simp) rfl ⟨⟨_, hO, .inl rfl⟩, ⟨_, hG, .inr ⟨rfl, bytesD_imm _⟩⟩, trivial⟩
      (fun _ => [(id, bldO (.ptr id 0) (.msl g 1 0 t.size)), (g, bytO t)]) (fun _ _ => ⟨rfl, .inl rfl, rfl, .inr ⟨rfl, bytesD_imm _⟩, trivial⟩) (fun _ _ => hK)
end

def tx1 : ByteArray := ⟨#[100, 101, 108, 32, 34, 97, 34, 32, 55, 10]⟩
def tx2 : ByteArray := ⟨#[100, 101, 108, 32, 34, 97, 34, 32, 55, 10, 112, 117, 116, 32, 34, 98, 34, 32, 34, 50, 34, 32, 54, 10]⟩
def prO : Nat → List (Nat × AObj)
  | 0 => [(0, bldO (.v (.pointer none)) (.v (.slice none 0 0)))]
  | 1 => [(0, bldO (.ptr 0 0) (.msl 1 1 0 tx1.size)), (1, bytO tx1)]
  | _ => [(0, bldO (.ptr 0 0) (.msl 1 1 0 tx2.size)), (1, bytO tx2)]

theorem chk2 : chkAll [eB, eC] = 0 := by decide

theorem tx1_eq : catS ⟨#[100, 101, 108, 32]⟩ (quoteP eB.k) ++ catS (catS ⟨#[32]⟩ (dig 7)) ⟨#[10]⟩ = tx1 := by simp only [catS_eq]; decide
theorem tx2_eq : tx1 ++ catS (catS (catS ⟨#[112, 117, 116, 32]⟩ (quoteP eC.k)) ⟨#[32]⟩) (quoteP eC.v) ++ catS (catS ⟨#[32]⟩ (dig 6)) ⟨#[10]⟩ = tx2 := by simp only [catS_eq]; decide

theorem pc20 : PC Tryd.prog 20 [ents [eB, eC]] (.tuple [.v (.string tx2), wi 0]) := by
  refine pc_callA rfl (callA_body hT1 hmix Tryd.func20 rfl rfl (by kernel_rfl) Tryd.ntmps20 (Nat.le_of_ble_eq_true rfl) rfl ?_)
  conv => whnf
  refine splitB_neg (by rw [ltI_f]; decide) ?_
  conv => whnf
  refine callA_pc (pc21 [eB, eC] (by decide)) ?_
  rw [chk2]
  conv => whnf
  refine splitB_pos (by rw [eqI_t]) ?_
  conv => whnf
  refine loop_rule hT1 hmix (ι := {i : Nat // i ≤ 2}) (fun i => [(5, .ptr 0 0), (16, ents [eB, eC]), (17, wi 2), (18, wi i.1)]) 9 (fun i => prO i.1) (fun i => 2 - i.1) (by kernel_rfl) ?_
    ⟨0, Nat.zero_le _⟩ ⟨[(0, 10)], rfl, ⟨rfl, rfl, rfl, rfl, trivial⟩, ⟨_, rfl, .inl rfl⟩, trivial⟩
  intro ⟨i, hi⟩
  match i, hi with
  | 0, _ =>
    conv => whnf
    refine splitB_pos (by rw [ltI_t]; show (0 : Int) < 2; decide) ?_
    conv => whnf
    refine ⟨0, eB.c, rfl, rfl, rfl, ?_⟩
    conv => whnf
    refine callA_pc (pc31p eB.k (by decide) (by decide)) ?_
    conv => whnf
    refine ⟨by decide, ?_⟩
    conv => whnf
    refine use30n rfl (by decide) (.inl rfl) (by rw [catS_eq]; decide) ?_
    conv => whnf
    refine callA_pc (pc32s 7 (by decide)) ?_
    conv => whnf
    refine ⟨by decide, ?_⟩
    conv => whnf
    refine ⟨by rw [catS_eq]; decide, ?_⟩
    conv => whnf
    refine use30 rfl rfl (by decide) (by decide) (by decide) (.inr rfl) (by simp only [catS_eq]; decide) ?_
    rw [tx1_eq]
    conv => whnf
    refine ⟨⟨1, Nat.le_of_ble_eq_true rfl⟩, by show 2 - 1 < 2 - 0; decide, [(0, 0), (1, 28)], rfl, ⟨rfl, rfl, rfl, ?_, trivial⟩, ⟨_, rfl, .inl rfl⟩, ⟨_, rfl, .inr ⟨rfl, bytesD_imm _⟩⟩, trivial⟩
    show D.v (Value.int .i64 (wr .i64 (((0 : Nat) : Int) + 1))) = _
    rw [wrSucc 0 (by decide)]; rfl
  | 1, _ =>
    conv => whnf
    refine splitB_pos (by rw [ltI_t]; show (1 : Int) < 2; decide) ?_
    conv => whnf
    refine ⟨1, eC.c, rfl, rfl, rfl, ?_⟩
    conv => whnf
    refine ⟨_, pc31p eC.k (by decide) (by decide), ?_⟩
    conv => whnf
    refine ⟨by decide, ?_⟩
    conv => whnf
    refine ⟨by rw [catS_eq]; decide, ?_⟩
    conv => whnf
    refine ⟨_, pc31p eC.v (by decide) (by decide), ?_⟩
    conv => whnf
    refine ⟨by simp only [catS_eq]; decide, ?_⟩
    conv => whnf
    refine use30 rfl rfl (by decide) (by decide) (by decide) (.inr rfl) (by simp only [catS_eq]; decide) ?_
    conv => whnf
    refine callA_pc (pc32s 6 (by decide)) ?_
    conv => whnf
    refine ⟨by decide, ?_⟩
    conv => whnf
    refine ⟨by rw [catS_eq]; decide, ?_⟩
    conv => whnf
    refine use30 rfl rfl (by decide) (by decide) (by decide) (.inr rfl) (by simp only [catS_eq]; decide) ?_
    rw [tx2_eq]
    conv => whnf
    refine ⟨⟨2, Nat.le_of_ble_eq_true rfl⟩, by show 2 - 2 < 2 - 1; decide, [(0, 0), (1, 33)], rfl, ⟨rfl, rfl, rfl, ?_, trivial⟩, ⟨_, rfl, .inl rfl⟩, ⟨_, rfl, .inr ⟨rfl, bytesD_imm _⟩⟩, trivial⟩
    show D.v (Value.int .i64 (wr .i64 (((1 : Nat) : Int) + 1))) = _
    rw [wrSucc 1 (by decide)]; rfl
  | 2, _ =>
    conv => whnf
    refine splitB_neg (by rw [ltI_f]; show (2 : Int) ≤ 2; decide) ?_
    conv => whnf
    refine use33 rfl rfl (by decide) (by decide) (by decide) ?_
    conv => whnf
    refine splitB_neg (by rw [ltI_f]; decide) ?_
    conv => whnf
    refine ca34 rfl rfl (by decide) (by decide) ?_
    conv => whnf
    rfl
end Bk
