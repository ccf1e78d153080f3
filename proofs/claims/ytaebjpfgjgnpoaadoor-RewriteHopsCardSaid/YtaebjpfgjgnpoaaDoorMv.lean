/- An answer of the proxy's own, walked at 503. An answer of the proxy's own, walked at 503: the two outer functions. rewrite.Own, walked at 503. -/
import Derived.Test.YtaebjpfgjgnpoaaDoorHu
set_option linter.unusedVariables false
set_option linter.unusedSimpArgs false
namespace Go.Proofs.YtaebjpfgjgnpoaaDoor
open Go.RowKit Go.Shelf Go.Proofs.YtaebjpfgjgnpoaaDoorW.PrintWords Go.Proofs.YtaebjpfgjgnpoaaDoorW.PrintLast Go.Proofs.YtaebjpfgjgnpoaaDoorW.PrintMore
open Go.Proofs.YtaebjpfgjgnpoaaDoor.PR
attribute [local go_sem] Oper.semAt_some

set_option maxRecDepth 100000 in
set_option maxHeartbeats 800000 in
theorem add_calls (A : Option Addr) (c : Nat) (l : List S40) (n v : ByteArray) (w0 : World) (hr : Kd.C k40 w0 A l.length l) (hc : l.length ≤ c) (hl : l.length ≤ 1000000) :
    Calls Tryd.prog 34 #[.slice A l.length c, .string n, .string v] w0 fun e w' => (∃ v', e = .returned v' ∧ w'.ownsRow w0.heap.size 33 2 v' (l.length + 1) (flatF (l ++ [⟨n, v⟩]))) ∧ Below w0.heap.size w0 w' := by
  obtain ⟨i0, hi0, hz0, hz1, hz2⟩ := info_parts infoFld
  have HC := Lib.hid (clone_calls A c l w0 hr hc (by omega))
  clear hr
  go_enter Tryd.func34, Tryd.ntmps34
  go_wp2_with fail
  refine HC.out.mono ?_
  rintro e w1 ⟨⟨v1, rfl, ho1⟩, hb1⟩
  have HO1 := Lib.hid (ho1.alloc (.cells #[.string n, .string v] 33))
  have HN := Lib.hid (blk_new w1 (.cells #[.string n, .string v] 33))
  have HB1 : Hid (Below w0.heap.size w0 (w1.alloc (.cells #[.string n, .string v] 33))) := hb1.alloc hb1.size _
  have hsz := HB1.out.size
  have HSZ := Lib.hid hsz
  clear ho1 hb1 hsz HC
  have hn9 : l.length + 1 ≤ maxLen := by unfold maxLen; omega
  have hn10 : (l.length + 1) * 32 ≤ 140737488355328 := by omega
  go_wp2_with (at_builtin; go_loud (refine wpList_append_lies _ rfl (.tmp 8) (.tmp 12) 27 rfl w0.heap.size 33 i0 _ 2 32 Tryd.underlying27 hi0 hz0 hz1 hz2 rfl (by omega) v1 l.length (flatF l) rfl HO1.out ⟨w1.heap.size, 0, none⟩ 1 1 [.string n, .string v] rfl rfl (World.news_of_block (cs := #[.string n, .string v]) (t := 33) (fr := (0, 0)) HN.out) (by simp [Value.oneCell']) (by omega) hn9 hn10 HSZ.out _ rfl ?_; intro gg cap w9 hown9 hgrow hat hlt9; have HO9 := Lib.hid hown9; have HB9 : Hid (Below w0.heap.size w0 w9) := HB1.out.grown hgrow HSZ.out (fun g hg => own_ge HO1.out hg); clear hown9 hgrow))
  go_ret
  refine ⟨⟨_, rfl, ?_⟩, HB9.out⟩
  have h := HO9.out
  rw [flatF_append]
  exact h
set_option maxRecDepth 100000 in
set_option maxHeartbeats 800000 in
theorem closes_calls (A : Option Addr) (c : Nat) (l : List S40) (w0 : World) (hr : Kd.C k40 w0 A l.length l) (hc : l.length ≤ c) (hl : l.length ≤ 1000000) :
    Calls Tryd.prog 19 #[.slice A l.length c, .bool true] w0 fun e w' => (∃ v', e = .returned v' ∧ w'.ownsRow w0.heap.size 33 2 v' (l.length + 1) (flatF (l ++ [⟨connS, ⟨#[99, 108, 111, 115, 101]⟩⟩]))) ∧ Below w0.heap.size w0 w' := by
  have HA : Hid (Calls Tryd.prog 34 #[.slice A l.length c, .string ⟨#[67, 111, 110, 110, 101, 99, 116, 105, 111, 110]⟩, .string ⟨#[99, 108, 111, 115, 101]⟩] w0 fun e w' => (∃ v', e = .returned v' ∧ w'.ownsRow w0.heap.size 33 2 v' (l.length + 1) (flatF (l ++ [⟨connS, ⟨#[99, 108, 111, 115, 101]⟩⟩]))) ∧ Below w0.heap.size w0 w') := add_calls A c l connS ⟨#[99, 108, 111, 115, 101]⟩ w0 hr hc hl
  clear hr
  go_enter Tryd.func19, Tryd.ntmps19
  go_wp2_with fail
  refine HA.out.mono ?_
  rintro e w1 ⟨⟨v1, rfl, ho1⟩, hb1⟩
  have HO1 := Lib.hid ho1
  clear ho1
  go_wp2_with fail
  go_ret
  exact ⟨⟨_, rfl, HO1.out⟩, hb1⟩
end Go.Proofs.YtaebjpfgjgnpoaaDoor
set_option linter.unusedVariables false
set_option linter.unusedSimpArgs false
namespace Go.Proofs.YtaebjpfgjgnpoaaDoor
open Go.RowKit Go.Shelf Go.Proofs.YtaebjpfgjgnpoaaDoorW.PrintWords Go.Proofs.YtaebjpfgjgnpoaaDoorW.PrintLast Go.Proofs.YtaebjpfgjgnpoaaDoorW.PrintMore
open Go.Proofs.YtaebjpfgjgnpoaaDoor.PR
attribute [local go_sem] Oper.semAt_some

theorem WordsAt.below {w w1 : World} (h : WordsAt w) (hb : Below w.heap.size w w1) : WordsAt w1 := by
  obtain ⟨t, fr, hc⟩ := h
  exact ⟨t, fr, (hb.block _ (Array.getElem?_eq_some_iff.1 hc).1).trans hc⟩
theorem PowIs.below {w w1 : World} (h : PowIs w) (hb : Below w.heap.size w w1) : PowIs w1 := by
  unfold PowIs Lib.TabIs World.var? at h ⊢
  cases hg : Tryd.prog.globalNamed "internal/strconv.uint64pow10" with
  | none => rw [hg] at h; exact h
  | some g =>
    rw [hg] at h
    have h' : (match w.heap[g]? with | some (.cells cs _ _) => some cs | _ => none) = some (Lib.pow10Tab.map fun z => Value.int .u64 z).toArray := h
    show (match w1.heap[g]? with | some (.cells cs _ _) => some cs | _ => none) = _
    rw [← h']
    have hlt : g < w.heap.size := by
      apply Classical.byContradiction
      intro hge
      rw [Array.getElem?_eq_none (by omega)] at h'
      cases h'
    rw [hb.block g hlt]
def ctS : ByteArray := ⟨#[67, 111, 110, 116, 101, 110, 116, 45, 84, 121, 112, 101]⟩
def tpS : ByteArray := ⟨#[116, 101, 120, 116, 47, 112, 108, 97, 105, 110]⟩
def clS : ByteArray := ⟨#[67, 111, 110, 116, 101, 110, 116, 45, 76, 101, 110, 103, 116, 104]⟩
def digS (n : Int) : ByteArray := ⟨(Lib.itoa n).toArray⟩
def bodyS : ByteArray := digS 503 ++ ⟨#[32]⟩ ++ una ++ ⟨#[10]⟩
theorem dig503 : digS 503 = ⟨#[53, 48, 51]⟩ := by
  apply data_inj
  show (Lib.itoa 503).toArray.toList = _
  decide +kernel
theorem bodyS_size : bodyS.size = 24 := by
  unfold bodyS
  rw [dig503]
  decide
def ownL : List S40 := [⟨ctS, tpS⟩, ⟨clS, digS 24⟩]
set_option maxRecDepth 100000 in
set_option maxHeartbeats 800000 in
theorem ownR_calls (w0 : World) (hw : WordsAt w0) (hp : PowIs w0) :
    Calls Tryd.prog 18 #[.int .i64 503] w0 fun e w' => (∃ g, e = .returned (.agg #[.int .i64 503, .string una, .slice (some ⟨g, 0, none⟩) 2 2, .string bodyS, .int .i64 1]) ∧ Kd.C k40 w' (some ⟨g, 0, none⟩) ownL.length ownL) ∧ Below w0.heap.size w0 w' := by
  have HW := Lib.hid hw
  have HP := Lib.hid hp
  have z1 := fun w => run_string_add_sum (P := Tryd.prog) (w := w) (digS 503) ⟨#[32]⟩ (by rw [dig503]; decide)
  have z2 := fun w => run_string_add_sum (P := Tryd.prog) (w := w) (digS 503 ++ ⟨#[32]⟩) una (by rw [dig503]; decide)
  have z3 := fun w => run_string_add_sum (P := Tryd.prog) (w := w) (digS 503 ++ ⟨#[32]⟩ ++ una) ⟨#[10]⟩ (by rw [dig503]; decide)
  have hb24 : (digS 503 ++ ⟨#[32]⟩ ++ una ++ ⟨#[10]⟩ : ByteArray).size = 24 := bodyS_size
  have hq24 : digS (((digS 503 ++ ⟨#[32]⟩ ++ una ++ ⟨#[10]⟩ : ByteArray).size : Nat) : Int) = digS 24 := by rw [hb24]; rfl
  have hB1 := below_alloc (Below.refl w0.heap.size w0) (.cells #[.int .i64 0, .string ⟨#[]⟩, .slice none 0 0, .string ⟨#[]⟩, .int .i64 0] 37)
  have hn1 := blk_new w0 (.cells #[.int .i64 0, .string ⟨#[]⟩, .slice none 0 0, .string ⟨#[]⟩, .int .i64 0] 37)
  have HB1 := Lib.hid hB1
  have HN1 := Lib.hid hn1
  clear hw hp hB1 hn1
  go_enter Tryd.func18, Tryd.ntmps18
  go_wp2_with fail
  generalize w0.alloc (.cells #[.int .i64 0, .string ⟨#[]⟩, .slice none 0 0, .string ⟨#[]⟩, .int .i64 0] 37) = w1 at HB1 HN1 ⊢
  refine (reason_calls w1 (HW.out.below HB1.out)).mono ?_
  rintro e w2 ⟨rfl, hb2⟩
  have HB2 : Hid (Below w0.heap.size w0 w2) := HB1.out.trans (hb2.mono HB1.out.size)
  have HN2 := Lib.hid (blk_below HN1.out hb2)
  clear hb2 HN1 HB1
  have HD : Hid (Calls Tryd.prog 33 #[.int .i64 503] w2 fun e w' => e = .returned (.string (digS 503)) ∧ Below w2.heap.size w2 w') := digits_calls 503 (by decide) (by decide) w2 (HP.out.below HB2.out)
  go_wp2_with fail
  refine HD.out.mono ?_
  rintro e w3 ⟨rfl, hb3⟩
  have HB3 : Hid (Below w0.heap.size w0 w3) := HB2.out.trans (hb3.mono HB2.out.size)
  have HN3 := Lib.hid (blk_below HN2.out hb3)
  clear hb3 HN2 HB2 HD
  have HD : Hid (Calls Tryd.prog 33 #[.int .i64 24] w3 fun e w' => e = .returned (.string (digS 24)) ∧ Below w3.heap.size w3 w') := digits_calls 24 (by decide) (by decide) w3 (HP.out.below HB3.out)
  go_wp2_with fail
  refine HD.out.mono ?_
  rintro e w4 ⟨rfl, hb4⟩
  have HB4 : Hid (Below w0.heap.size w0 w4) := HB3.out.trans (hb4.mono HB3.out.size)
  have hN4 := blk_below HN3.out hb4
  have hb37 : (digS 503 ++ ⟨#[32]⟩ ++ una ++ ⟨#[10]⟩ : ByteArray) = bodyS := rfl
  rw [hb37]
  clear hb4 HN3 HB3 HD hb24 hq24 z1 z2 z3 hb37
  have hsz4 := HB4.out.size
  have hlt4 := blk_lt hN4
  have hN5 := blk_alloc hN4 (.cells #[.string ⟨#[67, 111, 110, 116, 101, 110, 116, 45, 84, 121, 112, 101]⟩, .string ⟨#[116, 101, 120, 116, 47, 112, 108, 97, 105, 110]⟩, .string ⟨#[67, 111, 110, 116, 101, 110, 116, 45, 76, 101, 110, 103, 116, 104]⟩, .string (digS 24)] 33)
  have c0 := blk_cell hN4 0
  have c1 := blk_cell hN4 1
  have c2 := blk_cell hN4 2
  have c3 := blk_cell hN4 3
  have c4 := blk_cell hN4 4
  simp only [List.getElem?_toArray, List.getElem?_cons_zero, List.getElem?_cons_succ] at c0 c1 c2 c3 c4
  have f0 := blk_frozen hN4 0
  have f1 := blk_frozen hN4 1
  have f2 := blk_frozen hN4 2
  have f3 := blk_frozen hN4 3
  have f4 := blk_frozen hN4 4
  have HN5 := Lib.hid hN5
  have HN4 := Lib.hid hN4
  have HF := Lib.hid (blk_new w4 (.cells #[.string ⟨#[67, 111, 110, 116, 101, 110, 116, 45, 84, 121, 112, 101]⟩, .string ⟨#[116, 101, 120, 116, 47, 112, 108, 97, 105, 110]⟩, .string ⟨#[67, 111, 110, 116, 101, 110, 116, 45, 76, 101, 110, 103, 116, 104]⟩, .string (digS 24)] 33))
  have HB5 : Hid (Below w0.heap.size w0 (w4.alloc (.cells #[.string ⟨#[67, 111, 110, 116, 101, 110, 116, 45, 84, 121, 112, 101]⟩, .string ⟨#[116, 101, 120, 116, 47, 112, 108, 97, 105, 110]⟩, .string ⟨#[67, 111, 110, 116, 101, 110, 116, 45, 76, 101, 110, 103, 116, 104]⟩, .string (digS 24)] 33))) := HB4.out.alloc hsz4 _
  clear hN4 hN5
  go_wp2_with fail
  clear c0 c1 c2 c3 c4 f0 f1 f2 f3 f4
  have hR := blk_set (blk_set (blk_set (blk_set (blk_set HN4.out 0 (.int .i64 503)) 1 (.string una)) 2 (.slice (some ⟨w4.heap.size, 0, none⟩) 2 2)) 3 (.string bodyS)) 4 (.int .i64 1)
  have hBf : Below w0.heap.size w0 (((((w4.setCell ⟨w0.heap.size, 0, none⟩ (.int .i64 503)).setCell ⟨w0.heap.size, 1, none⟩ (.string una)).setCell ⟨w0.heap.size, 2, none⟩ (.slice (some ⟨w4.heap.size, 0, none⟩) 2 2)).setCell ⟨w0.heap.size, 3, none⟩ (.string bodyS)).setCell ⟨w0.heap.size, 4, none⟩ (.int .i64 1)) :=
    ((((HB4.out.setCell (p := ⟨w0.heap.size, 0, none⟩) (Nat.le_refl _) _).setCell (p := ⟨w0.heap.size, 1, none⟩) (Nat.le_refl _) _).setCell (p := ⟨w0.heap.size, 2, none⟩) (Nat.le_refl _) _).setCell (p := ⟨w0.heap.size, 3, none⟩) (Nat.le_refl _) _).setCell (p := ⟨w0.heap.size, 4, none⟩) (Nat.le_refl _) _
  have hz : (((((w4.setCell ⟨w0.heap.size, 0, none⟩ (.int .i64 503)).setCell ⟨w0.heap.size, 1, none⟩ (.string una)).setCell ⟨w0.heap.size, 2, none⟩ (.slice (some ⟨w4.heap.size, 0, none⟩) 2 2)).setCell ⟨w0.heap.size, 3, none⟩ (.string bodyS)).setCell ⟨w0.heap.size, 4, none⟩ (.int .i64 1)).heap.size = w4.heap.size := by simp [World.setCell]
  generalize (((((w4.setCell ⟨w0.heap.size, 0, none⟩ (.int .i64 503)).setCell ⟨w0.heap.size, 1, none⟩ (.string una)).setCell ⟨w0.heap.size, 2, none⟩ (.slice (some ⟨w4.heap.size, 0, none⟩) 2 2)).setCell ⟨w0.heap.size, 3, none⟩ (.string bodyS)).setCell ⟨w0.heap.size, 4, none⟩ (.int .i64 1)) = w5 at hR hBf hz ⊢
  have hRa := blk_alloc hR (.cells #[.string ⟨#[67, 111, 110, 116, 101, 110, 116, 45, 84, 121, 112, 101]⟩, .string ⟨#[116, 101, 120, 116, 47, 112, 108, 97, 105, 110]⟩, .string ⟨#[67, 111, 110, 116, 101, 110, 116, 45, 76, 101, 110, 103, 116, 104]⟩, .string (digS 24)] 33)
  have hFa := blk_new w5 (.cells #[.string ⟨#[67, 111, 110, 116, 101, 110, 116, 45, 84, 121, 112, 101]⟩, .string ⟨#[116, 101, 120, 116, 47, 112, 108, 97, 105, 110]⟩, .string ⟨#[67, 111, 110, 116, 101, 110, 116, 45, 76, 101, 110, 103, 116, 104]⟩, .string (digS 24)] 33)
  rw [hz] at hFa
  have r0 := blk_cell hRa 0
  have r1 := blk_cell hRa 1
  have r2 := blk_cell hRa 2
  have r3 := blk_cell hRa 3
  have r4 := blk_cell hRa 4
  simp at r0 r1 r2 r3 r4
  have g0 := blk_cell hFa 0
  have g1 := blk_cell hFa 1
  have g2 := blk_cell hFa 2
  have g3 := blk_cell hFa 3
  simp only [List.getElem?_toArray, List.getElem?_cons_zero, List.getElem?_cons_succ] at g0 g1 g2 g3
  have hBF := hBf.alloc hBf.size (.cells #[.string ⟨#[67, 111, 110, 116, 101, 110, 116, 45, 84, 121, 112, 101]⟩, .string ⟨#[116, 101, 120, 116, 47, 112, 108, 97, 105, 110]⟩, .string ⟨#[67, 111, 110, 116, 101, 110, 116, 45, 76, 101, 110, 103, 116, 104]⟩, .string (digS 24)] 33)
  refine bodyPost_ret (v := .agg #[.int .i64 503, .string una, .slice (some ⟨w4.heap.size, 0, none⟩) 2 2, .string bodyS, .int .i64 1]) (by simp [results, Tryd.results18, go_sem, r0, r1, r2, r3, r4]) rfl ⟨⟨w4.heap.size, rfl, flds_reads (by decide) (fun k hk => ?_)⟩, hBF⟩
  have hk2 : k = 0 ∨ k = 1 := by
    have : k < 2 := hk
    omega
  rcases hk2 with rfl | rfl
  · exact ⟨g0, g1⟩
  · exact ⟨g2, g3⟩
end Go.Proofs.YtaebjpfgjgnpoaaDoor
set_option linter.unusedVariables false
set_option linter.unusedSimpArgs false
namespace Go.Proofs.YtaebjpfgjgnpoaaDoor
open Go.RowKit Go.Shelf Go.Proofs.YtaebjpfgjgnpoaaDoorW.PrintWords Go.Proofs.YtaebjpfgjgnpoaaDoorW.PrintLast Go.Proofs.YtaebjpfgjgnpoaaDoorW.PrintMore
open Go.Proofs.YtaebjpfgjgnpoaaDoor.PR
attribute [local go_sem] Oper.semAt_some

set_option maxRecDepth 100000 in
set_option maxHeartbeats 800000 in
theorem rwOwn_calls (w0 : World) (hw : WordsAt w0) (hp : PowIs w0) :
    Calls Tryd.prog 10 #[.int .i64 503, .string ⟨#[71, 69, 84]⟩, .bool true] w0 fun e w' => (∃ A c, e = .returned (.agg #[.int .i64 503, .string una, .slice A 3 c, .string bodyS, .int .i64 1])) ∧ Below w0.heap.size w0 w' := by
  have hB1 := below_alloc (Below.refl w0.heap.size w0) (.cells #[.int .i64 0, .string ⟨#[]⟩, .slice none 0 0, .string ⟨#[]⟩, .int .i64 0] 37)
  have hn1 := blk_new w0 (.cells #[.int .i64 0, .string ⟨#[]⟩, .slice none 0 0, .string ⟨#[]⟩, .int .i64 0] 37)
  have HO := Lib.hid (ownR_calls (w0.alloc (.cells #[.int .i64 0, .string ⟨#[]⟩, .slice none 0 0, .string ⟨#[]⟩, .int .i64 0] 37)) (hw.below hB1) (hp.below hB1))
  have HB1 := Lib.hid hB1
  have HN1 := Lib.hid hn1
  clear hw hp hB1 hn1
  go_enter Tryd.func10, Tryd.ntmps10
  go_wp2_with fail
  generalize w0.alloc (.cells #[.int .i64 0, .string ⟨#[]⟩, .slice none 0 0, .string ⟨#[]⟩, .int .i64 0] 37) = w1 at HB1 HN1 HO ⊢
  refine HO.out.mono ?_
  rintro e w2 ⟨⟨g, rfl, hC2⟩, hb2⟩
  have HB2 : Hid (Below w0.heap.size w0 w2) := HB1.out.trans (hb2.mono HB1.out.size)
  have HN2 := Lib.hid (blk_below HN1.out hb2)
  have hsz2 := HB2.out.size
  have hlt2 := blk_lt HN2.out
  have hBa := below_alloc (Below.refl w2.heap.size w2) (.cells #[.int .i64 503, .string una, .slice (some ⟨g, 0, none⟩) 2 2, .string bodyS, .int .i64 1] 37)
  have HC := Lib.hid (closes_calls (some ⟨g, 0, none⟩) 2 ownL (w2.alloc (.cells #[.int .i64 503, .string una, .slice (some ⟨g, 0, none⟩) 2 2, .string bodyS, .int .i64 1] 37)) (Kd.C_below hC2 hBa) (by decide) (by decide))
  have HNa := Lib.hid (blk_new w2 (.cells #[.int .i64 503, .string una, .slice (some ⟨g, 0, none⟩) 2 2, .string bodyS, .int .i64 1] 37))
  have HN3 := Lib.hid (blk_alloc HN2.out (.cells #[.int .i64 503, .string una, .slice (some ⟨g, 0, none⟩) 2 2, .string bodyS, .int .i64 1] 37))
  have HB3 : Hid (Below w0.heap.size w0 (w2.alloc (.cells #[.int .i64 503, .string una, .slice (some ⟨g, 0, none⟩) 2 2, .string bodyS, .int .i64 1] 37))) := HB2.out.alloc hsz2 _
  clear hb2 hC2 hBa HO HN1 HB1
  go_wp2_with fail
  have hwz : (w2.alloc (.cells #[.int .i64 503, .string una, .slice (some ⟨g, 0, none⟩) 2 2, .string bodyS, .int .i64 1] 37)).heap.size = w2.heap.size + 1 := World.size_alloc _ _
  generalize w2.alloc (.cells #[.int .i64 503, .string una, .slice (some ⟨g, 0, none⟩) 2 2, .string bodyS, .int .i64 1] 37) = w3 at HC HNa HN3 HB3 hwz ⊢
  refine HC.out.mono ?_
  rintro e w4 ⟨⟨v4, rfl, ho4⟩, hb4⟩
  obtain ⟨A4, c4, hv4⟩ := own_form ho4
  have hl3 : ownL.length + 1 = 3 := rfl
  rw [hl3] at hv4
  subst hv4
  have HB4 : Hid (Below w0.heap.size w0 w4) := HB3.out.trans (hb4.mono HB3.out.size)
  have hD := blk_below HNa.out hb4
  have hR := blk_below HN3.out hb4
  clear hb4 ho4 HC HNa HN3 HB3 hl3 hwz
  have d0 := blk_cell hD 0
  have d1 := blk_cell hD 1
  have d2 := blk_cell hD 2
  have d3 := blk_cell hD 3
  have d4 := blk_cell hD 4
  have e2 := blk_frozen hD 2
  have r0 := blk_cell hR 0
  have r1 := blk_cell hR 1
  have r2 := blk_cell hR 2
  have r3 := blk_cell hR 3
  have r4 := blk_cell hR 4
  simp only [List.getElem?_toArray, List.getElem?_cons_zero, List.getElem?_cons_succ] at d0 d1 d2 d3 d4 r0 r1 r2 r3 r4
  have f0 := blk_frozen hR 0
  have f1 := blk_frozen hR 1
  have f2 := blk_frozen hR 2
  have f3 := blk_frozen hR 3
  have f4 := blk_frozen hR 4
  have hne : w0.heap.size ≠ w2.heap.size := by omega
  have hne' : w2.heap.size ≠ w0.heap.size := by omega
  have HD := Lib.hid hD
  have HR := Lib.hid hR
  clear hD hR
  go_wp2_with fail
  clear d0 d1 d2 d3 d4 e2 r0 r1 r2 r3 r4 f0 f1 f2 f3 f4
  have hR := blk_set (blk_set (blk_set (blk_set (blk_set (blk_far (p := ⟨w2.heap.size, 2, none⟩) HR.out hne (.slice A4 3 c4)) 0 (.int .i64 503)) 1 (.string una)) 2 (.slice A4 3 c4)) 3 (.string bodyS)) 4 (.int .i64 1)
  have hBf : Below w0.heap.size w0 ((((((w4.setCell ⟨w2.heap.size, 2, none⟩ (.slice A4 3 c4)).setCell ⟨w0.heap.size, 0, none⟩ (.int .i64 503)).setCell ⟨w0.heap.size, 1, none⟩ (.string una)).setCell ⟨w0.heap.size, 2, none⟩ (.slice A4 3 c4)).setCell ⟨w0.heap.size, 3, none⟩ (.string bodyS)).setCell ⟨w0.heap.size, 4, none⟩ (.int .i64 1)) :=
    (((((HB4.out.setCell (p := ⟨w2.heap.size, 2, none⟩) hsz2 _).setCell (p := ⟨w0.heap.size, 0, none⟩) (Nat.le_refl _) _).setCell (p := ⟨w0.heap.size, 1, none⟩) (Nat.le_refl _) _).setCell (p := ⟨w0.heap.size, 2, none⟩) (Nat.le_refl _) _).setCell (p := ⟨w0.heap.size, 3, none⟩) (Nat.le_refl _) _).setCell (p := ⟨w0.heap.size, 4, none⟩) (Nat.le_refl _) _
  generalize ((((((w4.setCell ⟨w2.heap.size, 2, none⟩ (.slice A4 3 c4)).setCell ⟨w0.heap.size, 0, none⟩ (.int .i64 503)).setCell ⟨w0.heap.size, 1, none⟩ (.string una)).setCell ⟨w0.heap.size, 2, none⟩ (.slice A4 3 c4)).setCell ⟨w0.heap.size, 3, none⟩ (.string bodyS)).setCell ⟨w0.heap.size, 4, none⟩ (.int .i64 1)) = w5 at hR hBf ⊢
  have r0 := blk_cell hR 0
  have r1 := blk_cell hR 1
  have r2 := blk_cell hR 2
  have r3 := blk_cell hR 3
  have r4 := blk_cell hR 4
  simp at r0 r1 r2 r3 r4
  exact bodyPost_ret (v := .agg #[.int .i64 503, .string una, .slice A4 3 c4, .string bodyS, .int .i64 1]) (by simp [results, Tryd.results10, go_sem, r0, r1, r2, r3, r4]) rfl ⟨⟨A4, c4, rfl⟩, hBf⟩
end Go.Proofs.YtaebjpfgjgnpoaaDoor
