/- The binary search in a ring. -/
import Derived.Test.YtbcmmmcbineipaaDoorSea
set_option linter.unusedVariables false
set_option linter.unusedSimpArgs false
namespace Go.Proofs.YtbcmmmcbineipaaDoor
open Go.RowKit Go.Proofs.YtbcmmmcbineipaaDoorW.PrintWords Go.Proofs.YtbcmmmcbineipaaDoorW.PrintLast Go.Proofs.YtbcmmmcbineipaaDoorW.PrintMore
open Go.Proofs.YtbcmmmcbineipaaDoor.PR

theorem cmp1 (a x : Int) : cmpOr (cmpI a x) 1 = if a < x then -1 else 1 := by
  unfold cmpOr cmpI
  by_cases h : a < x
  · simp [h]
  · by_cases h2 : x < a
    · simp [h, h2]
    · simp [h, h2]
theorem pt_at {w : World} {A : Option Addr} {l : List S67} (h : Kd.C k67 w A l.length l) (k : Nat) (hk : k < l.length) : ∃ ad, A = some ad ∧ w.cell? (ad.add (k * 2)) = some (.int .u64 l[k].f0) ∧ w.cell? ⟨(ad.add (k * 2)).block, (ad.add (k * 2)).off + 1, none⟩ = some (.string l[k].f1) := by
  obtain ⟨ad, rfl, hc0, hc1⟩ := at_T67 h (k : Int) (by omega) (by omega)
  have ex : rd_T67 l (k : Int) = l[k] := by simp [rd_T67, List.getD_eq_getElem?_getD, List.getElem?_eq_getElem hk]
  rw [ex] at hc0 hc1
  simp only [Int.toNat_natCast] at hc0 hc1
  exact ⟨ad, rfl, hc0, hc1⟩

set_option maxHeartbeats 400000 in
set_option maxRecDepth 100000 in
theorem bs_calls (A : Option Addr) (c : Nat) (l : List S67) (x : Int) (w0 : World) (hr : Kd.C k67 w0 A l.length l) (hc : l.length ≤ c) (hl : l.length ≤ 1000000) (hso : ∀ (a b : Nat) (ha : a ≤ b) (hb : b < l.length), l[a].f0 ≤ l[b].f0) :
    Calls Tryd.prog 44 #[.slice A l.length c, .int .u64 x, .func (.func 45) #[] #[]] w0 fun e w' => (∃ k : Nat, e = .returned (.tuple #[.int .i64 k, .bool false]) ∧ k ≤ l.length ∧ (∀ (q : Nat) (hq : q < l.length), q < k → l[q].f0 < x) ∧ (∀ (q : Nat) (hq : q < l.length), k ≤ q → x ≤ l[q].f0)) ∧ Below w0.heap.size w0 w' := by
  have HR := Lib.hid hr
  have HO := Lib.hid hso
  clear hr hso
  go_enter Tryd.func44, Tryd.ntmps44
  go_wp2_with fail
  go_loopw [9, 10] (fun i j wr => ∃ a b : Nat, a ≤ b ∧ b ≤ l.length ∧ i = .int .i64 a ∧ j = .int .i64 b ∧ Hid (∀ (q : Nat) (hq : q < l.length), q < a → l[q].f0 < x) ∧ Hid (∀ (q : Nat) (hq : q < l.length), b ≤ q → x ≤ l[q].f0) ∧ Hid (Below w0.heap.size w0 wr)) (fun i j _ => (intOf j).toNat - (intOf i).toNat)
  case atStart => exact ⟨0, l.length, by omega, by omega, rfl, rfl, (fun q hq h => absurd h (by omega)), (fun q hq h => absurd h (by omega)), Below.refl _ _⟩
  case round =>
    obtain ⟨a, b, hab, hb, rfl, rfl, HA, HZ, HB⟩ := hrel
    by_cases hlt : a < b
    · obtain ⟨ad, rfl, hc0, hc1⟩ := pt_at (Kd.C_below HR.out HB.out) ((a + b) / 2) (by omega)
      obtain ⟨p, Hp⟩ : ∃ p : S67, Hid (p = l[(a + b) / 2]) := ⟨l[(a + b) / 2], rfl⟩
      rw [← Hp.out] at hc0 hc1
      have hcall := fun w => from1_calls p x w
      have hsz0 := HB.out.size
      by_cases hp : p.f0 < x
      · rw [cmp1, if_pos hp] at hcall
        have HC := Lib.hid hcall
        clear hcall
        go_wp2_with fail
        refine (HC.out _).mono ?_
        rintro e w3 ⟨rfl, hb3⟩
        have HB3 := Lib.hid (HB.out.trans (hb3.mono hsz0))
        clear hb3 HC hc0 hc1
        go_wp2
        go_roundw
        case rel =>
          refine ⟨(a + b) / 2 + 1, b, by omega, hb, by go_num, rfl, fun q hq hqa => ?_, HZ, HB3⟩
          have := HO.out q ((a + b) / 2) (by omega) (by omega)
          rw [← Hp.out] at this
          omega
        case measure => simp [intOf]; omega
      · rw [cmp1, if_neg hp] at hcall
        have HC := Lib.hid hcall
        clear hcall
        go_wp2_with fail
        refine (HC.out _).mono ?_
        rintro e w3 ⟨rfl, hb3⟩
        have HB3 := Lib.hid (HB.out.trans (hb3.mono hsz0))
        clear hb3 HC hc0 hc1
        go_wp2
        go_roundw
        case rel =>
          refine ⟨a, (a + b) / 2, by omega, by omega, rfl, by go_num, HA, fun q hq hqa => ?_, HB3⟩
          have := HO.out ((a + b) / 2) q hqa hq
          rw [← Hp.out] at this
          omega
        case measure => simp [intOf]; omega
    · obtain rfl : a = b := by omega
      by_cases hend : a < l.length
      · obtain ⟨ad, rfl, hc0, hc1⟩ := pt_at (Kd.C_below HR.out HB.out) a (by omega)
        obtain ⟨p, Hp⟩ : ∃ p : S67, Hid (p = l[a]) := ⟨l[a], rfl⟩
        rw [← Hp.out] at hc0 hc1
        obtain ⟨r, hr0, hcall⟩ : ∃ r : Int, (r == 0) = false ∧ ∀ w, Calls Tryd.prog 45 #[.agg #[.int .u64 p.f0, .string p.f1], .int .u64 x] w fun e w' => e = .returned (.int .i64 r) ∧ Below w.heap.size w w' := by
          refine ⟨cmpOr (cmpI p.f0 x) 1, ?_, fun w => from1_calls p x w⟩
          rw [cmp1]
          by_cases hp : p.f0 < x <;> simp [hp]
        have HC := Lib.hid hcall
        clear hcall
        have hd : decide ((a : Int) < l.length) = true := decide_eq_true (by omega)
        go_wp2_with fail
        refine (HC.out _).mono ?_
        rintro e w3 ⟨rfl, hb3⟩
        have HB3 := Lib.hid (HB.out.trans (hb3.mono HB.out.size))
        clear hb3 HC hc0 hc1
        go_wp2
        go_ret2
        exact ⟨⟨a, rfl, by omega, HA.out, HZ.out⟩, HB3.out⟩
      · have hd : decide ((a : Int) < l.length) = false := decide_eq_false (by omega)
        go_wp2_with fail
        go_ret2
        exact ⟨⟨a, rfl, by omega, HA.out, HZ.out⟩, HB.out⟩
end Go.Proofs.YtbcmmmcbineipaaDoor
