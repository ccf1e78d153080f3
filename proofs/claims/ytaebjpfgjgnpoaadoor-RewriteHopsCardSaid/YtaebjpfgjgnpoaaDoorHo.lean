/- Hops, walked. -/
import Derived.Test.YtaebjpfgjgnpoaaDoorHn
set_option linter.unusedVariables false
set_option linter.unusedSimpArgs false
namespace Go.Proofs.YtaebjpfgjgnpoaaDoor
open Go.RowKit Go.Shelf Go.Proofs.YtaebjpfgjgnpoaaDoorW.PrintWords Go.Proofs.YtaebjpfgjgnpoaaDoorW.PrintLast Go.Proofs.YtaebjpfgjgnpoaaDoorW.PrintMore
open Go.Proofs.YtaebjpfgjgnpoaaDoor.PR
attribute [local go_sem] Oper.semAt_some

/-- What always is hop by hop. -/
def hopsL : List ByteArray := [⟨#[67, 111, 110, 110, 101, 99, 116, 105, 111, 110]⟩, ⟨#[75, 101, 101, 112, 45, 65, 108, 105, 118, 101]⟩, ⟨#[80, 114, 111, 120, 121, 45, 67, 111, 110, 110, 101, 99, 116, 105, 111, 110]⟩, ⟨#[80, 114, 111, 120, 121, 45, 65, 117, 116, 104, 101, 110, 116, 105, 99, 97, 116, 101]⟩, ⟨#[80, 114, 111, 120, 121, 45, 65, 117, 116, 104, 111, 114, 105, 122, 97, 116, 105, 111, 110]⟩, ⟨#[84, 69]⟩, ⟨#[84, 114, 97, 105, 108, 101, 114]⟩, ⟨#[84, 114, 97, 110, 115, 102, 101, 114, 45, 69, 110, 99, 111, 100, 105, 110, 103]⟩, ⟨#[85, 112, 103, 114, 97, 100, 101]⟩]
def connS : ByteArray := ⟨#[67, 111, 110, 110, 101, 99, 116, 105, 111, 110]⟩
def keptB (x : ByteArray) : Bool := decide (x.toList = ([104, 111, 115, 116] : List UInt8)) || x.toList == ([99, 111, 110, 116, 101, 110, 116, 45, 108, 101, 110, 103, 116, 104] : List UInt8)
theorem kept_f (x : ByteArray) : rewrite_kept.f x = some (keptB x) := by
  unfold rewrite_kept.f keptB
  by_cases h : x.toList = ([104, 111, 115, 116] : List UInt8)
  · rw [if_pos h, decide_eq_true h]
    rfl
  · rw [if_neg h, decide_eq_false h]
    rfl
theorem kept_calls (x : ByteArray) (w : World) : Calls Tryd.prog 14 #[.string x] w fun e w' => e = .returned (.bool (keptB x)) ∧ Below w.heap.size w w' := by
  refine (rewrite_kept.calls x _ w (kept_f x)).mono ?_
  rintro e w' ⟨rfl, hd⟩
  exact ⟨rfl, hd.below⟩
def namedF (l : List S40) : List ByteArray := outS keptB (tokS l connS)
def hopsF (l : List S40) : List S40 := dropF (dropF l hopsL) (namedF l)
theorem outS_mem {α : Type} {p : α → Bool} {l : List α} {x : α} (h : x ∈ outS p l) : x ∈ l := (List.mem_filter.1 h).1
theorem tokS_size (l : List S40) (nm : ByteArray) : ∀ x ∈ tokS l nm, x.size ≤ (joinS (allF l nm)).size := by
  intro x hx
  obtain ⟨y, hy, rfl⟩ := List.mem_map.1 hx
  have h := listS_size _ y hy
  have e : (lowS y).size = y.size := by
    show (low y.data.toList).toArray.size = _
    simp [low_length]
  rw [e]
  exact h
theorem tokS_length (l : List S40) (nm : ByteArray) : (tokS l nm).length ≤ (joinS (allF l nm)).size + 1 := by
  unfold tokS
  rw [List.length_map]
  exact listS_length _
theorem hopsL_size : ∀ x ∈ hopsL, x.size ≤ 1000000 := by
  have h : (hopsL.all fun x => decide (x.size ≤ 1000000)) = true := by decide
  intro x hx
  exact of_decide_eq_true (List.all_eq_true.1 h x hx)
set_option maxRecDepth 100000 in
set_option maxHeartbeats 800000 in
theorem hops_calls (A : Option Addr) (c : Nat) (l : List S40) (w0 : World) (hr : Kd.C k40 w0 A l.length l) (hc : l.length ≤ c) (hl : l.length ≤ 1000000) (hs : ∀ f ∈ l, f.f0.size ≤ 1000000) (hj : (joinS (allF l connS)).size ≤ 1000000)
    (hG : Kd.C Kd.string w0 (some ⟨0, 0, none⟩) hopsL.length hopsL) :
    Calls Tryd.prog 7 #[.slice A l.length c] w0 fun e w' => (∃ v, e = .returned v ∧ w'.ownsRow w0.heap.size 33 2 v (hopsF l).length (flatF (hopsF l))) ∧ Below w0.heap.size w0 w' := by
  have HT : Hid (∀ w, Kd.C k40 w A l.length l → Calls Tryd.prog 13 #[.slice A l.length c, .string ⟨#[67, 111, 110, 110, 101, 99, 116, 105, 111, 110]⟩] w fun e w' => (∃ v, e = .returned v ∧ w'.ownsRow w.heap.size 9 1 v (tokS l connS).length ((tokS l connS).map .string)) ∧ Below w.heap.size w w') := fun w h => tokens_calls A c l connS w h hc hl hs (by decide) hj
  have hts : ∀ x ∈ tokS l connS, x.size ≤ 1000000 := fun x hx => Nat.le_trans (tokS_size l connS x hx) hj
  have htl : (tokS l connS).length ≤ 1000001 := Nat.le_trans (tokS_length l connS) (by omega)
  have HR := Lib.hid hr
  have HGG := Lib.hid hG
  have HTS := Lib.hid hts
  clear hr hG hts
  go_enter Tryd.func7, Tryd.ntmps7
  go_wp2_with fail
  refine (HT.out _ HR.out).mono ?_
  rintro e w1 ⟨⟨v1, rfl, ho1⟩, hb1⟩
  have HB1 := Lib.hid hb1
  have HD := Lib.hid (delete_strs v1 w0.heap.size (tokS l connS) 14 #[] #[] keptB w1 ho1 hb1.size htl (enters_of Tryd.func14 (by kernel_rfl) rfl) (fun x _ W _ => kept_calls x W))
  clear hb1 ho1
  go_wp2_with fail
  refine HD.out.mono ?_
  rintro e w2 ⟨⟨v2, rfl, ho2⟩, hb2⟩
  have HB2 : Hid (Below w0.heap.size w0 w2) := HB1.out.trans hb2
  have HO2 := Lib.hid ho2
  clear ho2 hb2 HD
  have hdl : (namedF l).length ≤ 1000001 := Nat.le_trans (outS_length _ _) htl
  obtain ⟨A2, c2, rfl, hc2, hC2⟩ := own_strs HO2.out rfl
  have HC2 := Lib.hid hC2
  clear hC2
  have HP := Lib.hid (drop_calls A c l (some ⟨0, 0, none⟩) 9 hopsL w2 (Kd.C_below HR.out HB2.out) hc (by omega) hs (Kd.C_below HGG.out HB2.out) (by decide) hopsL_size)
  go_wp2_with fail
  refine HP.out.mono ?_
  rintro e w3 ⟨⟨v3, rfl, ho3⟩, hb3⟩
  have HB3 : Hid (Below w0.heap.size w0 w3) := HB2.out.trans (hb3.mono HB2.out.size)
  obtain ⟨A3, c3, rfl, hc3, hC3⟩ := own_flds ho3 rfl
  have hC2' := Kd.C_below HC2.out hb3
  have hl3 : (dropF l hopsL).length ≤ 1000001 := Nat.le_trans (outS_length _ _) (by omega)
  have HP2 := Lib.hid (drop_calls A3 c3 (dropF l hopsL) A2 c2 (namedF l) w3 hC3 hc3 hl3 (fun f hf => hs f (outS_mem hf)) hC2' hdl (fun x hx => HTS.out x (outS_mem hx)))
  have hn2 : namedF l = outS keptB (tokS l connS) := rfl
  rw [hn2] at HP2
  clear ho3 hb3 hC3 hC2' HP hn2
  go_wp2_with fail
  refine HP2.out.mono ?_
  rintro e w4 ⟨⟨v4, rfl, ho4⟩, hb4⟩
  have HB4 : Hid (Below w0.heap.size w0 w4) := HB3.out.trans (hb4.mono HB3.out.size)
  have HO4 := Lib.hid (own_le ho4 HB3.out.size)
  clear ho4 hb4 HP2
  go_wp2_with fail
  go_ret
  exact ⟨⟨_, rfl, HO4.out⟩, HB4.out⟩
end Go.Proofs.YtaebjpfgjgnpoaaDoor
