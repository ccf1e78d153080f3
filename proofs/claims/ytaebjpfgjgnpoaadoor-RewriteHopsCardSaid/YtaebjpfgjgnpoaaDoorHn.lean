/- Drop: fields without some names. -/
import Derived.Test.YtaebjpfgjgnpoaaDoorHm
set_option linter.unusedVariables false
set_option linter.unusedSimpArgs false
namespace Go.Proofs.YtaebjpfgjgnpoaaDoor
open Go.RowKit Go.Shelf Go.Proofs.YtaebjpfgjgnpoaaDoorW.PrintWords Go.Proofs.YtaebjpfgjgnpoaaDoorW.PrintLast Go.Proofs.YtaebjpfgjgnpoaaDoorW.PrintMore
open Go.Proofs.YtaebjpfgjgnpoaaDoor.PR
attribute [local go_sem] Oper.semAt_some

def inN (names : List ByteArray) (f : S40) : Bool := names.any (fun n => foldB f.f0 n)
def dropF (l : List S40) (names : List ByteArray) : List S40 := outS (inN names) l
set_option maxRecDepth 100000 in
set_option maxHeartbeats 800000 in
theorem drop1_calls (x : S40) (Bn : Nat) (A : Option Addr) (c : Nat) (names : List ByteArray) (W : World) (hb : Boxed W Bn 41 (.slice A names.length c)) (hr : Kd.C Kd.string W A names.length names) (hl : names.length ≤ 1000001) (hx : x.f0.size ≤ 1000000) (hs : ∀ n ∈ names, n.size ≤ 1000000) :
    Calls Tryd.prog 26 #[.agg #[.string x.f0, .string x.f1], .pointer (some ⟨Bn, 0, none⟩)] W fun e w' => e = .returned (.bool (inN names x)) ∧ Below W.heap.size W w' := by
  have hB1 := below_alloc (Below.refl W.heap.size W) (.cells #[.string x.f0, .string x.f1] 33)
  have hb1 := hb.alloc (.cells #[.string x.f0, .string x.f1] 33)
  have hcb := hb1.cell
  have hnb := blk_new W (.cells #[.string x.f0, .string x.f1] 33)
  have x0 := blk_cell hnb 0
  have x1 := blk_cell hnb 1
  simp only [List.getElem?_toArray, List.getElem?_cons_zero, List.getElem?_cons_succ] at x0 x1
  have HC := Lib.hid (contains_is A c names x (W.alloc (.cells #[.string x.f0, .string x.f1] 33)) (Kd.C_below hr hB1) hl hx hs)
  have HB1 := Lib.hid hB1
  clear hB1 hb1 hnb hb hr
  go_enter Tryd.func26, Tryd.ntmps26
  go_wp2_with fail
  refine HC.out.mono ?_
  rintro e w1 ⟨rfl, hb1⟩
  go_wp2_with fail
  go_ret
  exact ⟨rfl, HB1.out.trans (hb1.mono HB1.out.size)⟩
set_option maxRecDepth 100000 in
set_option maxHeartbeats 800000 in
theorem drop_calls (A : Option Addr) (c : Nat) (l : List S40) (An : Option Addr) (cn : Nat) (names : List ByteArray) (w0 : World) (hr : Kd.C k40 w0 A l.length l) (hc : l.length ≤ c) (hl : l.length ≤ 1000001) (hs : ∀ f ∈ l, f.f0.size ≤ 1000000)
    (hrn : Kd.C Kd.string w0 An names.length names) (hln : names.length ≤ 1000001) (hsn : ∀ n ∈ names, n.size ≤ 1000000) :
    Calls Tryd.prog 15 #[.slice A l.length c, .slice An names.length cn] w0 fun e w' => (∃ v, e = .returned v ∧ w'.ownsRow w0.heap.size 33 2 v (dropF l names).length (flatF (dropF l names))) ∧ Below w0.heap.size w0 w' := by
  have hB1 := below_alloc (Below.refl w0.heap.size w0) (.cells #[.slice An names.length cn] 41)
  have hb1 := Boxed.new w0 41 (.slice An names.length cn)
  have HCl := Lib.hid (clone_calls A c l (w0.alloc (.cells #[.slice An names.length cn] 41)) (Kd.C_below hr hB1) hc hl)
  have HB1 := Lib.hid hB1
  have Hb1 := Lib.hid hb1
  have HRN := Lib.hid hrn
  clear hB1 hb1 hr hrn
  go_enter Tryd.func15, Tryd.ntmps15
  go_wp2_with fail
  refine HCl.out.mono ?_
  rintro e w2 ⟨⟨v, rfl, hown⟩, hb2⟩
  have hsz := hb2.size
  have Hb2 : Hid (Boxed w2 w0.heap.size 41 (.slice An names.length cn)) := blk_below Hb1.out hb2
  have HB2 : Hid (Below w0.heap.size w0 w2) := HB1.out.trans (hb2.mono HB1.out.size)
  rw [World.size_alloc] at hown hsz
  have HD := Lib.hid (delete_flds v (w0.heap.size + 1) l 26 #[] #[.pointer (some ⟨w0.heap.size, 0, none⟩)] (inN names) w2 hown hsz hl (enters_of Tryd.func26 (by kernel_rfl) rfl)
    (fun x hx W hW => drop1_calls x w0.heap.size An cn names W ((hW.block _ (by omega)).trans Hb2.out) (Kd.C_below HRN.out (HB2.out.trans (hW.mono (by omega)))) hln (hs x hx) hsn))
  clear hown hb2 HB1 Hb1 HCl
  go_wp2_with fail
  refine HD.out.mono ?_
  rintro e w3 ⟨⟨v3, rfl, hown3⟩, hb3⟩
  have HO3 := Lib.hid hown3
  clear hown3
  go_wp2_with fail
  go_ret
  exact ⟨⟨_, rfl, own_le HO3.out (by omega)⟩, HB2.out.trans (hb3.mono (by omega))⟩
end Go.Proofs.YtaebjpfgjgnpoaaDoor
