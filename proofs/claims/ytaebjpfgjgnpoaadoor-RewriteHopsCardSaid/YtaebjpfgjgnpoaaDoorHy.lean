/- The law's look that the code is there: awake. -/
import Derived.Test.YtaebjpfgjgnpoaaDoorMv
set_option linter.unusedVariables false
set_option linter.unusedSimpArgs false
namespace Go.Proofs.YtaebjpfgjgnpoaaDoor
open Go.RowKit Go.Shelf Go.Proofs.YtaebjpfgjgnpoaaDoorW.PrintWords Go.Proofs.YtaebjpfgjgnpoaaDoorW.PrintLast Go.Proofs.YtaebjpfgjgnpoaaDoorW.PrintMore
open Go.Proofs.YtaebjpfgjgnpoaaDoor.PR
attribute [local go_sem] Oper.semAt_some

def awkL : List S40 := [⟨connS, ⟨#[99, 108, 111, 115, 101, 44, 32, 88, 45, 65]⟩⟩, ⟨⟨#[88, 45, 65]⟩, ⟨#[49]⟩⟩, ⟨⟨#[72, 111, 115, 116]⟩, ⟨#[97]⟩⟩]
def keptL (x : ByteArray) : Bool := decide (x.data.toList = ([104, 111, 115, 116] : List UInt8)) || x.data.toList == ([99, 111, 110, 116, 101, 110, 116, 45, 108, 101, 110, 103, 116, 104] : List UInt8)
theorem keptB_L : keptB = keptL := by
  funext x
  unfold keptB keptL
  rw [Lib.toList_data]
theorem awk_hops : hopsF awkL = [⟨⟨#[72, 111, 115, 116]⟩, ⟨#[97]⟩⟩] := by
  unfold hopsF namedF
  rw [keptB_L]
  kernel_rfl
theorem awk_short : Short awkL := by
  refine ⟨by decide, fun f hf => ?_⟩
  have h : (awkL.all fun f => decide (f.f0.size ≤ 20) && decide (f.f1.size ≤ 40)) = true := by decide
  have := List.all_eq_true.1 h f hf
  simpa using this
theorem hops_short (A : Option Addr) (c : Nat) (l : List S40) (w0 : World) (h : Short l) (hr : Kd.C k40 w0 A l.length l) (hc : l.length ≤ c)
    (hG : Kd.C Kd.string w0 (some ⟨0, 0, none⟩) hopsL.length hopsL) :
    Calls Tryd.prog 7 #[.slice A l.length c] w0 fun e w' => (∃ v, e = .returned v ∧ w'.ownsRow w0.heap.size 33 2 v (hopsF l).length (flatF (hopsF l))) ∧ Below w0.heap.size w0 w' :=
  hops_calls A c l w0 hr hc (Nat.le_trans h.1 (by decide)) (fun f hf => Nat.le_trans (h.2 f hf).1 (by decide)) (Nat.le_trans (h.join connS) (by decide)) hG
set_option maxRecDepth 100000 in
set_option maxHeartbeats 800000 in
theorem awake_calls (w0 : World) (hw : WordsAt w0) (hp : PowIs w0) (hG : Kd.C Kd.string w0 (some ⟨0, 0, none⟩) hopsL.length hopsL) :
    Calls Tryd.prog 4 #[] w0 fun e w' => e = .returned (.bool true) ∧ Below w0.heap.size w0 w' := by
  have hB1 := below_alloc (Below.refl w0.heap.size w0) (.cells #[.string ⟨#[67, 111, 110, 110, 101, 99, 116, 105, 111, 110]⟩, .string ⟨#[99, 108, 111, 115, 101, 44, 32, 88, 45, 65]⟩, .string ⟨#[88, 45, 65]⟩, .string ⟨#[49]⟩, .string ⟨#[72, 111, 115, 116]⟩, .string ⟨#[97]⟩] 33)
  have hF := blk_new w0 (.cells #[.string ⟨#[67, 111, 110, 110, 101, 99, 116, 105, 111, 110]⟩, .string ⟨#[99, 108, 111, 115, 101, 44, 32, 88, 45, 65]⟩, .string ⟨#[88, 45, 65]⟩, .string ⟨#[49]⟩, .string ⟨#[72, 111, 115, 116]⟩, .string ⟨#[97]⟩] 33)
  have g0 := blk_cell hF 0
  have g1 := blk_cell hF 1
  have g2 := blk_cell hF 2
  have g3 := blk_cell hF 3
  have g4 := blk_cell hF 4
  have g5 := blk_cell hF 5
  simp only [List.getElem?_toArray, List.getElem?_cons_zero, List.getElem?_cons_succ] at g0 g1 g2 g3 g4 g5
  have hC : Kd.C k40 (w0.alloc (.cells #[.string ⟨#[67, 111, 110, 110, 101, 99, 116, 105, 111, 110]⟩, .string ⟨#[99, 108, 111, 115, 101, 44, 32, 88, 45, 65]⟩, .string ⟨#[88, 45, 65]⟩, .string ⟨#[49]⟩, .string ⟨#[72, 111, 115, 116]⟩, .string ⟨#[97]⟩] 33)) (some ⟨w0.heap.size, 0, none⟩) awkL.length awkL := flds_reads (by decide) (fun k hk => by
    have hk3 : k = 0 ∨ k = 1 ∨ k = 2 := by
      have : k < 3 := hk
      omega
    rcases hk3 with rfl | rfl | rfl
    · exact ⟨g0, g1⟩
    · exact ⟨g2, g3⟩
    · exact ⟨g4, g5⟩)
  have hH := hops_short (some ⟨w0.heap.size, 0, none⟩) 3 awkL _ awk_short hC (by decide) (Kd.C_below hG hB1)
  rw [awk_hops] at hH
  have HH := Lib.hid hH
  have HB1 := Lib.hid hB1
  clear hH hC g0 g1 g2 g3 g4 g5 hF hB1
  have HW := Lib.hid hw
  have HP := Lib.hid hp
  clear hw hp hG
  go_enter Tryd.func4, Tryd.ntmps4
  go_wp2_with fail
  generalize w0.alloc (.cells #[.string ⟨#[67, 111, 110, 110, 101, 99, 116, 105, 111, 110]⟩, .string ⟨#[99, 108, 111, 115, 101, 44, 32, 88, 45, 65]⟩, .string ⟨#[88, 45, 65]⟩, .string ⟨#[49]⟩, .string ⟨#[72, 111, 115, 116]⟩, .string ⟨#[97]⟩] 33) = w1 at HH HB1 ⊢
  refine HH.out.mono ?_
  rintro e w2 ⟨⟨v, rfl, ho⟩, hb2⟩
  have hl1 : ([⟨⟨#[72, 111, 115, 116]⟩, ⟨#[97]⟩⟩] : List S40).length = 1 := rfl
  obtain ⟨g, cap, hv, hge, hgl⟩ := ho.form (by decide)
  rw [hl1] at hv
  subst hv
  obtain ⟨k0, k1⟩ := fld_cells ho rfl 0 (by decide)
  have k0' : w2.cell? ⟨g, 0, none⟩ = some (.string ⟨#[72, 111, 115, 116]⟩) := k0
  have hk0 := k0'
  have HB2 : Hid (Below w0.heap.size w0 w2) := HB1.out.trans (hb2.mono HB1.out.size)
  have HR := Lib.hid (rwOwn_calls w2 (HW.out.below HB2.out) (HP.out.below HB2.out))
  clear ho hb2 HH HB1 k0 k1 k0'
  go_wp2_with fail
  refine HR.out.mono ?_
  rintro e w3 ⟨⟨A3, c3, rfl⟩, hb3⟩
  have HB3 : Hid (Below w0.heap.size w0 w3) := HB2.out.trans (hb3.mono HB2.out.size)
  have m0 : w3.cell? ⟨g, 0, none⟩ = some (.string ⟨#[72, 111, 115, 116]⟩) := (hb3.cell (p := ⟨g, 0, none⟩) hgl).trans hk0
  have hgl3 : g < w3.heap.size := Nat.lt_of_lt_of_le hgl hb3.size
  have hsz3 := HB3.out.size
  clear hk0 hb3 HR HB2 hgl
  go_wp2_with fail
  go_ret
  exact ⟨rfl, HB3.out.alloc hsz3 _⟩
end Go.Proofs.YtaebjpfgjgnpoaaDoor
