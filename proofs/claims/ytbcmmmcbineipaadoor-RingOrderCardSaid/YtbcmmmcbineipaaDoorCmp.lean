/- How points are compared. -/
import Derived.Test.YtbcmmmcbineipaaDoorSipF
set_option linter.unusedVariables false
set_option linter.unusedSimpArgs false
namespace Go.Proofs.YtbcmmmcbineipaaDoor
open Go.RowKit Go.Proofs.YtbcmmmcbineipaaDoorW.PrintWords Go.Proofs.YtbcmmmcbineipaaDoorW.PrintLast Go.Proofs.YtbcmmmcbineipaaDoorW.PrintMore
open Go.Proofs.YtbcmmmcbineipaaDoor.PR

theorem nanU (x : Int) (w : World) : Calls Tryd.prog 59 #[.int .u64 x] w fun e w' => e = .returned (.bool false) ∧ w' = w := by
  have h : (x != x) = false := by simp
  go_enter Tryd.func59, Tryd.ntmps59
  go_wp2
  go_ret
  exact ⟨by simp, rfl⟩
theorem nanS (x : ByteArray) (w : World) : Calls Tryd.prog 60 #[.string x] w fun e w' => e = .returned (.bool false) ∧ w' = w := by
  go_enter Tryd.func60, Tryd.ntmps60
  go_wp2
  go_ret
  exact ⟨by simp, rfl⟩
def cmpI (x y : Int) : Int := if x < y then -1 else if y < x then 1 else 0
def cmpS (x y : ByteArray) : Int := if Op.bytesLess x.toList y.toList = true then -1 else if x.toList = y.toList then 0 else 1
theorem cmpU_calls (x y : Int) (w : World) : Calls Tryd.prog 38 #[.int .u64 x, .int .u64 y] w fun e w' => e = .returned (.int .i64 (cmpI x y)) ∧ w' = w := by
  by_cases h1 : x < y
  · have E1 : Hid (cmpI x y = -1) := if_pos h1
    go_enter Tryd.func38, Tryd.ntmps38
    go_wp2_with (first | (go_at_call 59; refine (nanU _ _).mono ?_; rintro e w1 ⟨rfl, rfl⟩))
    go_ret
    exact ⟨by rw [E1.out]; rfl, rfl⟩
  · by_cases h2 : y < x
    · have E1 : Hid (cmpI x y = 1) := (if_neg h1).trans (if_pos h2)
      go_enter Tryd.func38, Tryd.ntmps38
      go_wp2_with (first | (go_at_call 59; refine (nanU _ _).mono ?_; rintro e w1 ⟨rfl, rfl⟩))
      go_ret
      exact ⟨by rw [E1.out]; rfl, rfl⟩
    · have E1 : Hid (cmpI x y = 0) := (if_neg h1).trans (if_neg h2)
      go_enter Tryd.func38, Tryd.ntmps38
      go_wp2_with (first | (go_at_call 59; refine (nanU _ _).mono ?_; rintro e w1 ⟨rfl, rfl⟩))
      go_ret
      exact ⟨by rw [E1.out]; rfl, rfl⟩
theorem bytesLess_irrefl (l : List UInt8) : Op.bytesLess l l = false := by
  induction l with
  | nil => rfl
  | cons a l ih => simp [Op.bytesLess, ih]
theorem cmpS_calls (x y : ByteArray) (w : World) : Calls Tryd.prog 39 #[.string x, .string y] w fun e w' => e = .returned (.int .i64 (cmpS x y)) ∧ w' = w := by
  cases h1 : Op.bytesLess x.toList y.toList with
  | true =>
    have e1 : cmpS x y = -1 := by simp [cmpS, h1]
    have E1 := Lib.hid e1
    clear e1
    go_enter Tryd.func39, Tryd.ntmps39
    go_wp2_with (first | (go_at_call 60; refine (nanS _ _).mono ?_; rintro e w1 ⟨rfl, rfl⟩))
    go_ret
    exact ⟨by rw [E1.out]; rfl, rfl⟩
  | false =>
    by_cases h2 : x.toList = y.toList
    · have hb : (x.toList == y.toList) = true := by simpa using h2
      have e1 : cmpS x y = 0 := by simp [cmpS, h1, h2, bytesLess_irrefl]
      have E1 := Lib.hid e1
      clear e1 h2
      go_enter Tryd.func39, Tryd.ntmps39
      go_wp2_with (first | (go_at_call 60; refine (nanS _ _).mono ?_; rintro e w1 ⟨rfl, rfl⟩))
      go_ret
      exact ⟨by rw [E1.out]; rfl, rfl⟩
    · have hb : (x.toList == y.toList) = false := by simpa using h2
      have e1 : cmpS x y = 1 := by simp [cmpS, h1, h2]
      have E1 := Lib.hid e1
      clear e1 h2
      go_enter Tryd.func39, Tryd.ntmps39
      go_wp2_with (first | (go_at_call 60; refine (nanS _ _).mono ?_; rintro e w1 ⟨rfl, rfl⟩))
      go_ret
      exact ⟨by rw [E1.out]; rfl, rfl⟩
/-- A point's two cells. -/
def encPt (x : S67) : List Value := [.int .u64 x.f0, .string x.f1]
def cmpOr (a b : Int) : Int := if a = 0 then b else a
def cmpP (x y : S67) : Int := cmpOr (cmpI x.f0 y.f0) (cmpS x.f1 y.f1)
theorem or_some (a b : Int) : cmp_Or_int.f 3 [a, b] = some (cmpOr a b) := by
  have w1 : wrap64 (0 + 1) = 1 := by unfold wrap64; omega
  have w2 : wrap64 (1 + 1) = 2 := by unfold wrap64; omega
  have w1' : wrap64 1 = 1 := by unfold wrap64; omega
  have w2' : wrap64 2 = 2 := by unfold wrap64; omega
  by_cases h1 : a = 0
  · by_cases h2 : b = 0
    · simp [cmp_Or_int.f, cmp_Or_int.l0, rd, w1, w2, w1', w2', h1, h2, cmpOr]
    · simp [cmp_Or_int.f, cmp_Or_int.l0, rd, w1, w2, w1', w2', h1, h2, cmpOr]
  · simp [cmp_Or_int.f, cmp_Or_int.l0, rd, w1, w2, w1', h1, cmpOr]
theorem or_calls (a b : Int) (g : Nat) (w : World) (h0 : w.cell? ⟨g, 0, none⟩ = some (.int .i64 a)) (h1 : w.cell? ⟨g, 1, none⟩ = some (.int .i64 b)) :
    Calls Tryd.prog 37 #[.slice (some ⟨g, 0, none⟩) 2 2] w fun e w' => e = .returned (.int .i64 (cmpOr a b)) ∧ ∃ n, w' = w.drewN n := by
  have hr : Kd.C (Kd.int .i64) w (some ⟨g, 0, none⟩) [a, b].length [a, b] := by
    refine Kd.C_of_reads (d := (0 : Int)) ⟨rfl, (by show 2 ≤ _; omega), fun _ => ⟨_, rfl, fun j hj => ?_⟩⟩
    rw [add_at, Nat.zero_add]
    match j, hj with
    | 0, _ => exact h0
    | 1, _ => exact h1
  exact (cmp_Or_int.calls 3 (some ⟨g, 0, none⟩) 2 [a, b] (cmpOr a b) w hr (Nat.le_refl _) (or_some a b)).mono fun _ _ ⟨he, ⟨hd⟩⟩ => ⟨he, hd⟩
end Go.Proofs.YtbcmmmcbineipaaDoor
