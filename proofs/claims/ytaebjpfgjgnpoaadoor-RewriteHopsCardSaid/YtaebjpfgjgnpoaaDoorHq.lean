/- The law's comparison, walked. -/
import Derived.Test.YtaebjpfgjgnpoaaDoorHp
import Derived.Laws.StructEq
set_option linter.unusedVariables false
set_option linter.unusedSimpArgs false
namespace Go.Proofs.YtaebjpfgjgnpoaaDoor
open Go.RowKit Go.Shelf Go.Proofs.YtaebjpfgjgnpoaaDoorW.PrintWords Go.Proofs.YtaebjpfgjgnpoaaDoorW.PrintLast Go.Proofs.YtaebjpfgjgnpoaaDoorW.PrintMore
open Go.Proofs.YtaebjpfgjgnpoaaDoor.PR
attribute [local go_sem] Oper.semAt_some

theorem neq_fld (a b : ByteArray) (w : World) : (binOp .neq 40 (.agg #[.string a, .string b]) (.agg #[.string a, .string b])).run Tryd.prog w = .ok (.bool false) w := by
  have hS : Tryd.prog.underlying 40 = some (.struct (Tryd.prog.fieldsOf 40)) := by kernel_rfl
  have hp : Tryd.prog.stoodInHeld 40 = false := by kernel_rfl
  have u9 := Tryd.underlying9
  have a9 := Tryd.isAgg9
  have z9 := Tryd.sizeOf9
  rw [run_neq_struct, show (10000 : Nat) = 9999 + 1 from rfl, run_equalIn_agg w 9999 40 _ _ hS hp]
  simp only [Program.fieldsOf, Tryd.underlying40]
  go_simp
theorem guard_fld (op : BinOp) (x y : Operand) (xs ys : Array Value) (w : World) : (eqGuard op 40 x y (.agg xs) (.agg ys)).run Tryd.prog w = .ok () w :=
  run_eqGuard_agg (P := Tryd.prog) (w := w) op 40 x y xs ys (by kernel_rfl)
set_option maxRecDepth 100000 in
set_option maxHeartbeats 800000 in
theorem is06_calls (A A' : Option Addr) (c c' : Nat) (l : List S40) (w0 : World) (hr : Kd.C k40 w0 A l.length l) (hr' : Kd.C k40 w0 A' l.length l) (hc : l.length ≤ c) (hc' : l.length ≤ c') (hl : l.length ≤ 1000000) :
    Calls Tryd.prog 6 #[.slice A l.length c, .slice A' l.length c'] w0 fun e w' => e = .returned (.bool true) ∧ Below w0.heap.size w0 w' := by
  have HR := Lib.hid hr
  have HR' := Lib.hid hr'
  clear hr hr'
  go_enter Tryd.func6, Tryd.ntmps6
  go_wp2_with fail
  go_loopw [5, 13] (fun _ i wr => ∃ k : Nat, k ≤ l.length ∧ i = .int .i64 k ∧ Hid (Below w0.heap.size w0 wr)) (fun _ i _ => l.length - (intOf i).toNat)
  case atStart => exact ⟨0, Nat.zero_le _, rfl, Below.refl _ _⟩
  case round =>
    obtain ⟨k, hk, rfl, HB⟩ := hrel
    by_cases hlt : k < l.length
    · obtain ⟨ad, hAd, hc0, hc1⟩ := fld_at (Kd.C_below HR.out HB.out) k hlt
      subst hAd
      obtain ⟨ad', hAd', hd0, hd1⟩ := fld_at (Kd.C_below HR'.out HB.out) k hlt
      subst hAd'
      obtain ⟨x, Hx⟩ : ∃ x : S40, Hid (x = l[k]) := ⟨l[k], rfl⟩
      rw [← Hx.out] at hc0 hc1 hd0 hd1
      have hq := neq_fld x.f0 x.f1
      have hg := fun op a b xs ys w => guard_fld op a b xs ys w
      go_wp2_with fail
      have hmx : Tryd.prog.follows Departure.mixedOrders = true := by kernel_rfl
      go_quiet_o (fail)
      go_wp2_with fail
      go_roundw
      case rel => exact ⟨k + 1, by omega, by go_num, pw_below_drewN HB.out _⟩
      case measure => simp [intOf]; omega
    · obtain rfl : k = l.length := by omega
      go_wp2_with fail
      go_ret
      exact ⟨rfl, HB.out⟩
end Go.Proofs.YtaebjpfgjgnpoaaDoor
