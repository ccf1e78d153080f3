/- The law RewriteHops, walked whole. -/
import Derived.Test.YtaebjpfgjgnpoaaDoorHy
set_option linter.unusedVariables false
set_option linter.unusedSimpArgs false
namespace Go.Proofs.YtaebjpfgjgnpoaaDoor
open Go.RowKit Go.Shelf Go.Proofs.YtaebjpfgjgnpoaaDoorW.PrintWords Go.Proofs.YtaebjpfgjgnpoaaDoorW.PrintLast Go.Proofs.YtaebjpfgjgnpoaaDoorW.PrintMore
open Go.Proofs.YtaebjpfgjgnpoaaDoor.PR
attribute [local go_sem] Oper.semAt_some

set_option maxRecDepth 100000 in
set_option maxHeartbeats 800000 in
theorem rewriteHops_calls (A : Option Addr) (c : Nat) (l : List S40) (w0 : World) (hr : Kd.C k40 w0 A l.length l) (hc : l.length ≤ c) (hw : WordsAt w0) (hp : PowIs w0) (hG : Kd.C Kd.string w0 (some ⟨0, 0, none⟩) hopsL.length hopsL) :
    Calls Tryd.prog 3 #[.slice A l.length c] w0 fun e w' => e = .returned (.bool true) ∧ Below w0.heap.size w0 w' := by
  have hfew := few_f l 12 1000 (by decide) (by decide)
  have HA := Lib.hid (awake_calls w0 hw hp hG)
  have HR := Lib.hid hr
  have HG := Lib.hid hG
  have HFW := Lib.hid hfew
  clear hr hG hw hp hfew
  go_enter Tryd.func3, Tryd.ntmps3
  go_wp2_with fail
  refine HA.out.mono ?_
  rintro e w1 ⟨rfl, hb1⟩
  have HB1 := Lib.hid hb1
  clear hb1 HA
  go_wp2_with fail
  refine (stewardlaw06_Few.calls 1000 A c l 12 (fewOf l 12) w1 (Kd.C_below HR.out HB1.out) hc HFW.out).mono ?_
  rintro e w2 ⟨v2, rfl, hR2, hb2⟩
  obtain ⟨A2, c2, rfl, hc2, hC2⟩ := Kd.R_reads hR2
  have HB2 : Hid (Below w0.heap.size w0 w2) := HB1.out.trans (hb2.mono HB1.out.size)
  have hsh := Short.few l
  obtain ⟨X, HX⟩ : ∃ X : List S40, Hid (X = fewOf l 12) := ⟨fewOf l 12, rfl⟩
  rw [← HX.out] at hsh
  simp only [← HX.out] at hc2 hC2 ⊢
  have HSH := Lib.hid hsh
  have hx12 := hsh.1
  have HC2 := Lib.hid hC2
  have HO := Lib.hid (own06_calls A2 c2 X w2 hC2 hc2 (by omega))
  clear hR2 hb2 hC2 hsh HFW HX
  go_wp2_with fail
  refine HO.out.mono ?_
  rintro e w3 ⟨⟨A3, c3, rfl, hc3, hC3⟩, hb3⟩
  have HB3 : Hid (Below w0.heap.size w0 w3) := HB2.out.trans (hb3.mono HB2.out.size)
  have hC23 := Kd.C_below HC2.out hb3
  have HC23 := Lib.hid hC23
  have HH := Lib.hid (hops_short A3 c3 X w3 HSH.out hC3 hc3 (Kd.C_below HG.out HB3.out))
  clear hb3 hC23 hC3 HC2 HO HB2
  go_wp2_with fail
  refine HH.out.mono ?_
  rintro e w4 ⟨⟨v4, rfl, ho4⟩, hb4⟩
  obtain ⟨A4, c4, rfl, hc4, hC4⟩ := own_flds ho4 rfl
  rw [hops_same] at hc4 hC4 ⊢
  have HB4 : Hid (Below w0.heap.size w0 w4) := HB3.out.trans (hb4.mono HB3.out.size)
  have HRF := Lib.hid (refHops_f 6000 X HSH.out (Nat.le_refl _))
  obtain ⟨Y, HY⟩ : ∃ Y : List S40, Hid (Y = outS (isHop (tokS X conS)) X) := ⟨_, rfl⟩
  have hy12 : Y.length ≤ 12 := by
    rw [HY.out]
    exact Nat.le_trans (outS_length _ _) hx12
  rw [← HY.out] at hc4 hC4 HRF ⊢
  have HC24 := Lib.hid (Kd.C_below HC23.out hb4)
  have HC4 := Lib.hid hC4
  clear ho4 hb4 hC4 HC23 HH HB3 HY
  go_wp2_with fail
  refine (stewardref12_Hops.calls 6000 A2 c2 X Y w4 HC24.out hc2 HRF.out).mono ?_
  rintro e w5 ⟨v5, rfl, hR5, hb5⟩
  obtain ⟨A5, c5, rfl, hc5, hC5⟩ := Kd.R_reads hR5
  have HB5 : Hid (Below w0.heap.size w0 w5) := HB4.out.trans (hb5.mono HB4.out.size)
  have HI := Lib.hid (is06_calls A4 A5 c4 c5 Y w5 (Kd.C_below HC4.out hb5) hC5 hc4 hc5 (by omega))
  clear hR5 hb5 hC5 HC24 HC4 HB4 HRF
  go_wp2_with fail
  refine HI.out.mono ?_
  rintro e w6 ⟨rfl, hb6⟩
  have HB6 : Hid (Below w0.heap.size w0 w6) := HB5.out.trans (hb6.mono HB5.out.size)
  clear hb6 HI HB5
  go_wp2_with fail
  go_ret
  exact ⟨rfl, HB6.out⟩
end Go.Proofs.YtaebjpfgjgnpoaaDoor
