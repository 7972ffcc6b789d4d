/- strings.Builder in the abstract machine. -/
import Derived.Test.YtobfdenalhmecaaDoorSl
import Derived.Test.YtobfdenalhmecaaDoorKC
import Derived.Lib.Builder
import Derived.Lib.UnsafeStr
set_option linter.unusedSimpArgs false
set_option linter.unusedSectionVars false
set_option linter.unusedVariables false

namespace Bk
open Go Go.Proofs

theorem liesAt_head {P : Program} {e : TypeId} (hc : P.cellsOf e ≠ 0) (count n : Nat) (hn : n ≤ count) : liesAt P P.depth e count 0 e n = true := by
  have hd : P.depth = (2 * (P.types.size + Made.depth) + 1) + 1 := rfl
  rw [hd]
  simp only [liesAt, Bool.or_eq_true]
  left
  rw [hd]
  simp [rowAt, hc, hn, sameLayout]

theorem bInfo : (Tryd.prog.info? 54).map (·.size) = some 2 := by kernel_rfl
theorem bCells : Tryd.prog.cellsOf 54 = 2 := by kernel_rfl
theorem bU51 : Tryd.prog.underlying 51 = some (.pointer 54) := by kernel_rfl
theorem bU76 : Tryd.prog.underlying 76 = some .unsafePointer := by kernel_rfl
theorem bU52 : Tryd.prog.underlying 52 = some (.slice 5) := by kernel_rfl
theorem bU9 : Tryd.prog.underlying 9 = some .string := by kernel_rfl

set_option maxHeartbeats 1000000 in
set_option maxRecDepth 100000 in
theorem bCheckUsed (b : Nat) (w : World) (h0 : w.cell? ⟨b, 0, none⟩ = some (.pointer (some ⟨b, 0, none⟩))) :
    Calls Tryd.prog 40 #[.pointer (some ⟨b, 0, none⟩)] w fun e w' => e = .returned (.tuple #[]) ∧ w' = w := by
  obtain ⟨j, hj, _⟩ := Option.map_eq_some_iff.1 bInfo
  go_enter Tryd.func40, Tryd.ntmps40
  go_wp2
  rw [Lib.run_neq_ptr_same w _ bU51 hj]
  go_wp2
  go_end0
  exact ⟨rfl, rfl⟩

set_option maxHeartbeats 1000000 in
set_option maxRecDepth 100000 in
theorem bCheckFresh (b : Nat) (w : World) (N : Nat) (hN : 2 ≤ N) (h0 : w.cell? ⟨b, 0, none⟩ = some (.pointer none)) (hsh : w.shape? b = some (54, N)) (hfz : w.frozen? ⟨b, 0, none⟩ = false) :
    Calls Tryd.prog 40 #[.pointer (some ⟨b, 0, none⟩)] w fun e w' => e = .returned (.tuple #[]) ∧ w' = w.setCell ⟨b, 0, none⟩ (.pointer (some ⟨b, 0, none⟩)) := by
  obtain ⟨j, hj, hjs⟩ := Option.map_eq_some_iff.1 bInfo
  have bLies : liesAt Tryd.prog Tryd.prog.depth 54 (N / Tryd.prog.cellsOf 54) 0 54 1 = true := liesAt_head (by rw [bCells]; decide) _ _ (by rw [bCells]; omega)
  go_enter Tryd.func40, Tryd.ntmps40
  go_wp2
  rw [Lib.run_to_unsafe w ⟨b, 0, none⟩ bU51 bU76 hj (by rw [hjs]; decide) hsh (show 0 < N by omega)]
  simp only [Result.andThen]
  rw [Oper.upon_value]
  go_wp2
  rw [run_callFunc_extern Tryd.func49 (by kernel_rfl) (by kernel_rfl) (by kernel_rfl) (e := Extern.AbiNoEscape.same) (by kernel_rfl)]
  rw [Lib.run_noEscape]
  simp only [Result.andThen]
  rw [Oper.upon_value]
  go_wp2
  rw [Lib.run_from_unsafe w ⟨b, 0, none⟩ bU76 bU51 hj hsh bLies]
  simp only [Result.andThen]
  rw [Oper.upon_value]
  go_wp2
  go_end0
  exact ⟨rfl, rfl⟩

/-- a Builder: who it is, and its bytes -/
def bldO (p x : D) : AObj := ⟨54, 2, [[p, x]]⟩

theorem ca40 {n : Nat} {H : Hp} {id : Nat} {p x : D} (hO : H id = some (bldO p x)) (hp : p = .v (.pointer none) ∨ p = .ptr id 0) {K : D → Nat → Hp → Prop} (hK : K (.tuple []) n (updH H id (some (bldO (.ptr id 0) x)))) : CallA Tryd.prog 40 [.ptr id 0] n H K := by
  refine ⟨⟨_, _, Tryd.func40, rfl, rfl⟩, fun h m w vals hg r hl hr => ?_⟩
  match vals, hl with
  | [v0], _ =>
  obtain ⟨b, N, hm, rfl⟩ := (hr 0 _ v0 rfl rfl).ptr_inv
  obtain ⟨xs, hN, hb, hlen, hk, hc, hf⟩ := obj_cells r hO hm
  subst hN
  simp only [bldO, List.length_cons, List.length_nil] at hlen
  match xs, hlen, hb, hc, hm with
  | x0 :: x1 :: xs, _, hb, hc, hm =>
  have h0 : RD h m p x0 := (hc 0 p x0 rfl rfl).1
  have hcell : w.cell? ⟨b, 0, none⟩ = some x0 := by rw [cell_iff hb]; rfl
  have hw : WR w (Bl m H) h m n H w := ⟨r, FR.refl _ _, fun i O b N h1 h2 => .inr ⟨i, O, N, h1, h2⟩⟩
  have hres : RD h m (.tuple []) (.tuple #[]) := .imm _ _ (.tuple [] [] rfl (by simp))
  have hwrite := hw.write (O' := bldO (.ptr id 0) x) hO hm hb hf (.pointer (some ⟨b, 0, none⟩) :: x1 :: xs) (by simp) rfl (by simp [bldO]) (by simp [bldO]) (by
    intro j d y hd hy
    match j with
    | 0 => simp [bldO] at hd hy; subst hd; subst hy; exact ⟨.ptr id 0 b _ hm, rfl⟩
    | j + 1 => exact hc (j + 1) d y (by simpa [bldO] using hd) (by simpa using hy))
  rcases hp with rfl | rfl
  · have := h0.v_inv; subst this
    refine (bCheckFresh b w (xs.length + 2) (by omega) hcell (by simp [World.shape?, hb, bldO]) (by simp [World.frozen?, hb])).mono ?_
    rintro e w' ⟨rfl, rfl⟩
    refine ⟨_, _, n, _, h, m, rfl, hK, FLe.refl _, fun b o x hx => .inl hx, fun _ _ => rfl, Nat.le_refl _, ?_, hres⟩
    rw [setCell_eq_setRow w b 0 _ _ _ _ hb]
    exact hwrite
  · obtain ⟨b', N', hm', rfl⟩ := h0.ptr_inv
    rw [hm] at hm'; cases hm'
    refine (bCheckUsed b w hcell).mono ?_
    rintro e w' ⟨rfl, rfl⟩
    refine ⟨_, _, n, _, h, m, rfl, hK, FLe.refl _, fun b o x hx => .inl hx, fun _ _ => rfl, Nat.le_refl _, ?_, hres⟩
    have : updH H id (some (bldO (.ptr id 0) x)) = H := by
      funext j
      by_cases hj : j = id
      · subst hj; rw [updH_same, hO]
      · rw [updH_ne _ _ hj]
    rw [this]; exact hw

def bytO (t : ByteArray) : AObj := ⟨5, 1, bytesD t⟩
theorem bytesD_imm (t : ByteArray) : ∀ c ∈ bytesD t, isIL c = true := by
  intro c hc
  obtain ⟨x, _, rfl⟩ := List.mem_map.1 hc
  rfl
theorem bytesD_cat (t s : ByteArray) : bytesD t ++ bytesD s = bytesD (t ++ s) := by
  unfold bytesD
  rw [← List.map_append, ← Array.toList_append, ← ByteArray.data_append]
theorem cat_size (t s : ByteArray) : (t ++ s).size = t.size + s.size := ByteArray.size_append

/-- WriteString, to bytes that are there -/
theorem ca30 {t s : ByteArray} {p : D} (hp : p = .v (.pointer none) ∨ p = .ptr 0 0) (hb : t.size + s.size ≤ 140737488355328) :
    CallA Tryd.prog 30 [.ptr 0 0, .v (.string s)] 2 (hpL [(0, bldO p (.msl 1 1 0 t.size)), (1, bytO t)]) fun d n' H' => ∃ _ : Unit, True ∧
      OutA 2 d n' H' (.tuple [wi s.size, .v .nilIface]) 3 [(0, bldO (.ptr 0 0) (.msl 2 1 0 (t ++ s).size)), (2, bytO (t ++ s))] := by
  refine callA_body hT1 hmix Tryd.func30 rfl rfl (by kernel_rfl) Tryd.ntmps30 (Nat.le_of_ble_eq_true rfl) rfl ?_
  conv => whnf
  refine ca40 rfl hp ?_
  conv => whnf
  refine ⟨_, rfl, rfl, rfl, rfl, rfl, (bytesD_len t).symm, by decide, hb, ?_⟩
  conv => whnf
  refine ⟨(), trivial, [(2, 12)], rfl, rfl, ⟨_, rfl, .inl ?_⟩, ⟨_, rfl, .inr ⟨?_, bytesD_imm _⟩⟩, trivial⟩
  · rw [cat_size]; rfl
  · show (⟨5, 1, bytesD t ++ bytesD s⟩ : AObj) = bytO (t ++ s)
    rw [bytesD_cat]; rfl

/-- WriteString, the first -/
theorem ca30n {s : ByteArray} {p : D} (hp : p = .v (.pointer none) ∨ p = .ptr 0 0) (hb : s.size ≤ 140737488355328) :
    CallA Tryd.prog 30 [.ptr 0 0, .v (.string s)] 1 (hpL [(0, bldO p (.v (.slice none 0 0)))]) fun d n' H' => ∃ _ : Unit, True ∧
      OutA 1 d n' H' (.tuple [wi s.size, .v .nilIface]) 2 [(0, bldO (.ptr 0 0) (.msl 1 1 0 s.size)), (1, bytO s)] := by
  refine callA_body hT1 hmix Tryd.func30 rfl rfl (by kernel_rfl) Tryd.ntmps30 (Nat.le_of_ble_eq_true rfl) rfl ?_
  conv => whnf
  refine ca40 rfl hp ?_
  conv => whnf
  refine ⟨hb, ?_⟩
  conv => whnf
  exact ⟨(), trivial, [(1, 11)], rfl, rfl, ⟨_, rfl, .inl rfl⟩, ⟨_, rfl, .inr ⟨rfl, bytesD_imm _⟩⟩, trivial⟩

/-- Len -/
theorem ca33 {t : ByteArray} {p : D} (hp : p = .v (.pointer none) ∨ p = .ptr 0 0) :
    CallA Tryd.prog 33 [.ptr 0 0] 2 (hpL [(0, bldO p (.msl 1 1 0 t.size)), (1, bytO t)]) fun d n' H' => ∃ _ : Unit, True ∧ OutA 2 d n' H' (wi t.size) 2 [(0, bldO p (.msl 1 1 0 t.size)), (1, bytO t)] := by
  refine callA_body hT1 hmix Tryd.func33 rfl rfl (by kernel_rfl) Tryd.ntmps33 (Nat.le_of_ble_eq_true rfl) rfl ?_
  conv => whnf
  rcases hp with rfl | rfl
  · exact ⟨(), trivial, [], rfl, rfl, ⟨_, rfl, .inl rfl⟩, ⟨_, rfl, .inr ⟨rfl, bytesD_imm _⟩⟩, trivial⟩
  · exact ⟨(), trivial, [], rfl, rfl, ⟨_, rfl, .inl rfl⟩, ⟨_, rfl, .inr ⟨rfl, bytesD_imm _⟩⟩, trivial⟩

theorem froze_other (w : World) (g q k : Nat) (hk : k ≠ g) (n : Nat) : (w.freeze ⟨g, q, none⟩ n).heap[k]? = w.heap[k]? := by
  unfold World.freeze
  split
  · rfl
  · simp only [Array.getElem?_modify]
    rw [if_neg (Ne.symm hk)]
theorem froze_size (w : World) (a : Addr) (n : Nat) : (w.freeze a n).heap.size = w.heap.size := by
  unfold World.freeze
  split
  · rfl
  · simp

theorem WR.froze {w0 w : World} {W : Nat → Prop} {h : FM} {m : BM} {n : Nat} {H : Hp} (r : WR w0 W h m n H w) {g : Nat} {O : AObj} {b N : Nat} (hO : H g = some O) (hm : m g = some (b, N)) (q k : Nat) : WR w0 W h m n (updH H g none) (w.freeze ⟨b, q, none⟩ k) := by
  obtain ⟨xs, hN, hb, _, _, _, hf⟩ := obj_cells r.rh hO hm
  have rk := r.kill g
  have hos : (w.freeze ⟨b, q, none⟩ k).os = w.os ∧ (w.freeze ⟨b, q, none⟩ k).tape = w.tape ∧ (w.freeze ⟨b, q, none⟩ k).output = w.output := by
    unfold World.freeze; split <;> exact ⟨rfl, rfl, rfl⟩
  refine ⟨⟨fun b' o x e => ?_, rk.rh.far, fun i O' hO' => ?_, rk.rh.inj⟩, ⟨hos.1.trans r.fr.os, hos.2.1.trans r.fr.tape, hos.2.2.trans r.fr.output, by rw [froze_size]; exact r.fr.size, fun b' hb' hn => ?_⟩, rk.wb⟩
  · have hne : b' ≠ b := by rintro rfl; rw [hf] at e; cases e
    rw [World.cell?_of_block (w := w) (froze_other w b q b' hne k)]; exact r.rh.froz b' o x e
  · have hi : i ≠ g := by rintro rfl; rw [updH_same] at hO'; cases hO'
    rcases rk.rh.obj i O' hO' with h1 | ⟨b', ys, h1, h2, h3⟩
    · exact .inl h1
    · refine .inr ⟨b', ys, h1, ?_, h3⟩
      rw [froze_other w b q b' _ k]
      · exact h2
      · rintro rfl
        rw [updH_ne _ _ hi] at hO'
        exact hi (r.rh.inj i g O' O _ _ _ hO' hO h1 hm)
  · rw [froze_other w b q b' _ k]
    · exact r.fr.block b' hb' hn
    · rintro rfl
      rcases r.wb g O _ _ hO hm with h1 | h1
      · omega
      · exact hn h1

theorem bU71 : Tryd.prog.underlying 71 = some (.pointer 5) := by kernel_rfl
theorem bC5 : Tryd.prog.cellsOf 5 = 1 := by kernel_rfl

set_option maxHeartbeats 2000000 in
set_option maxRecDepth 100000 in
/-- String, of bytes that are there: they are frozen -/
theorem ca34 {n : Nat} {H : Hp} {id g : Nat} {p : D} {t : ByteArray} (hO : H id = some (bldO p (.msl g 1 0 t.size))) (hG : H g = some (bytO t)) (h0 : t.size ≠ 0) (h63 : t.size ≤ 4611686018427387904) {K : D → Nat → Hp → Prop} (hK : K (.v (.string t)) n (updH H g none)) : CallA Tryd.prog 34 [.ptr id 0] n H K := by
  refine ⟨⟨_, _, Tryd.func34, rfl, rfl⟩, fun h m w vals hg r hl hr => ?_⟩
  match vals, hl with
  | [v0], _ =>
  obtain ⟨b, N, hm, rfl⟩ := (hr 0 _ v0 rfl rfl).ptr_inv
  obtain ⟨xs, hN, hb, hlen, hk, hc, hf⟩ := obj_cells r hO hm
  subst hN
  simp only [bldO, List.length_cons, List.length_nil] at hlen
  match xs, hlen, hb, hc, hm with
  | x0 :: x1 :: xs, _, hb, hc, hm =>
  have h1 : RD h m (.msl g 1 0 t.size) x1 := (hc 1 _ x1 rfl rfl).1
  rcases h1.msl_inv with ⟨bg, Ng, cap, hmg, hcap, hNg, rfl⟩ | ⟨hz, _⟩
  rotate_left
  · exact absurd hz h0
  obtain ⟨ys, hN', hbg, hlen', _, hcg, _⟩ := obj_cells r hG hmg
  subst hN'
  have c1 : w.drew.cell? ⟨b, 1, none⟩ = some (.slice (some ⟨bg, 0, none⟩) t.size cap) := by
    show w.cell? _ = _
    rw [cell_iff hb]; rfl
  have hyl : t.size ≤ ys.length := by
    simp only [bytO, bytesD_len] at hlen'; omega
  have hSD : (Builtin.unsafeSliceData_ #[52] 71 #[.slice (some ⟨bg, 0, none⟩) t.size cap]).run Tryd.prog w.drew = .ok (.pointer (some ⟨bg, 0, none⟩)) w.drew :=
    Lib.run_unsafeSliceData_row _ _ _ _ _ _ (by omega)
  have hts : t.data.toList.length = t.size := rfl
  have hUS : (Builtin.unsafeString_ #[71, 3] 9 #[.pointer (some ⟨bg, 0, none⟩), .int .i64 t.size]).run Tryd.prog w.drew = .ok (.string t) (w.drew.freeze ⟨bg, 0, none⟩ t.size) := by
    have := Lib.run_unsafeString_row (P := Tryd.prog) w.drew 71 3 9 5 bU71 bC5 bg ys.length (by show w.shape? bg = _; simp [World.shape?, hbg, bytO]) t.data.toList (by intro he; rw [he] at hts; exact h0 hts.symm) (by rw [hts]; exact hyl) (by rw [hts]; omega) (fun j x hx => by
      show w.cell? _ = _
      rw [Addr.add_lit, Nat.zero_add, cell_iff hbg]
      have hj : j < ys.length := by have := get_lt hx; omega
      obtain ⟨h2, _⟩ := hcg j (.v (.int .u8 x.toNat)) ys[j] (by rw [bytO, bytesD_flat, Lib.strCells, List.map_map, List.getElem?_map, hx]; rfl) (List.getElem?_eq_getElem hj)
      rw [List.getElem?_eq_getElem hj, h2.v_inv])
    rw [hts] at this
    exact this
  have hw : WR w (Bl m H) h m n H w := ⟨r, FR.refl _ _, fun i O b N h1 h2 => .inr ⟨i, O, N, h1, h2⟩⟩
  have hw' := (hw.drew).froze hG hmg 0 t.size
  suffices hs : Calls Tryd.prog 34 #[.pointer (some ⟨b, 0, none⟩)] w fun e w' => e = .returned (.string t) ∧ w' = w.drew.freeze ⟨bg, 0, none⟩ t.size by
    refine hs.mono ?_
    rintro e w' ⟨rfl, rfl⟩
    exact ⟨_, _, n, _, h, m, rfl, hK, FLe.refl _, fun b o x hx => .inl hx, fun _ _ => rfl, Nat.le_refl _, hw', .imm _ _ (.v _)⟩
  go_enter Tryd.func34, Tryd.ntmps34
  go_wp2
  go_region
  all_goals (go_wp2; go_ret; exact ⟨rfl, rfl⟩)
end Bk
