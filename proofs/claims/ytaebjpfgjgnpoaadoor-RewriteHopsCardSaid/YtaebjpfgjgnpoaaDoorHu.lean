/- The small functions of an answer of the proxy's own. -/
import Derived.Test.YtaebjpfgjgnpoaaDoorMr
import Derived.Test.YtaebjpfgjgnpoaaDoorShelfB
import Derived.Lib.LaidTab
set_option linter.unusedVariables false
set_option linter.unusedSimpArgs false
namespace Go.Proofs.YtaebjpfgjgnpoaaDoor
open Go.RowKit Go.Shelf Go.Proofs.YtaebjpfgjgnpoaaDoorW.PrintWords Go.Proofs.YtaebjpfgjgnpoaaDoorW.PrintLast Go.Proofs.YtaebjpfgjgnpoaaDoorW.PrintMore
open Go.Proofs.YtaebjpfgjgnpoaaDoor.PR
attribute [local go_sem] Oper.semAt_some

theorem below_grow (w : World) (k : Nat) (os : Array Obj) : Below w.heap.size w (Go.Sort.grow (w.drewN k) os) := by
  refine ⟨rfl, rfl, rfl, ?_, fun i hi => ?_⟩
  · show w.heap.size ≤ (w.heap ++ os).size
    rw [Array.size_append]
    omega
  · show (w.heap ++ os)[i]? = _
    rw [Array.getElem?_append_left hi]
def PowIs (w : World) : Prop := Lib.TabIs Tryd.prog w "internal/strconv.uint64pow10" .u64 Lib.pow10Tab
theorem digits_calls (n : Int) (h0 : 0 ≤ n) (h1 : n ≤ 9223372036854775807) (w0 : World) (hp : PowIs w0) : Calls Tryd.prog 33 #[.int .i64 n] w0 fun e w' => e = .returned (.string ⟨(Lib.itoa n).toArray⟩) ∧ Below w0.heap.size w0 w' := by
  have HI := Lib.hid (Tryd.strconv_Itoa n (by omega) h1 w0 hp)
  have hmx : max 0 n = n := by omega
  go_enter Tryd.func33, Tryd.ntmps33
  go_wp2_with fail
  refine HI.out.mono ?_
  rintro e w1 ⟨rfl, k, os, rfl⟩
  go_wp2_with fail
  go_ret
  exact ⟨rfl, below_grow w0 k os⟩
/-- The words of an answer. -/
def wordsA : Array Value := #[.int .i64 200, .string ⟨#[79, 75]⟩, .int .i64 400, .string ⟨#[66, 97, 100, 32, 82, 101, 113, 117, 101, 115, 116]⟩, .int .i64 413, .string ⟨#[67, 111, 110, 116, 101, 110, 116, 32, 84, 111, 111, 32, 76, 97, 114, 103, 101]⟩, .int .i64 431, .string ⟨#[82, 101, 113, 117, 101, 115, 116, 32, 72, 101, 97, 100, 101, 114, 32, 70, 105, 101, 108, 100, 115, 32, 84, 111, 111, 32, 76, 97, 114, 103, 101]⟩, .int .i64 502, .string ⟨#[66, 97, 100, 32, 71, 97, 116, 101, 119, 97, 121]⟩, .int .i64 503, .string ⟨#[83, 101, 114, 118, 105, 99, 101, 32, 85, 110, 97, 118, 97, 105, 108, 97, 98, 108, 101]⟩, .int .i64 504, .string ⟨#[71, 97, 116, 101, 119, 97, 121, 32, 84, 105, 109, 101, 111, 117, 116]⟩]
theorem words_0 (w : World) : Sem.run Tryd.prog (Instr.index 69 (.agg wordsA) (.int .i64 0)) w = .ok (.agg #[.int .i64 200, .string ⟨#[79, 75]⟩]) w := by
  have u := Tryd.underlying69
  have a := Tryd.isAgg68
  have z := Tryd.sizeOf68
  simp [Instr.index, run_underlying u, asIntOf, part, a, z, wordsA]
theorem words_1 (w : World) : Sem.run Tryd.prog (Instr.index 69 (.agg wordsA) (.int .i64 1)) w = .ok (.agg #[.int .i64 400, .string ⟨#[66, 97, 100, 32, 82, 101, 113, 117, 101, 115, 116]⟩]) w := by
  have u := Tryd.underlying69
  have a := Tryd.isAgg68
  have z := Tryd.sizeOf68
  simp [Instr.index, run_underlying u, asIntOf, part, a, z, wordsA]
theorem words_2 (w : World) : Sem.run Tryd.prog (Instr.index 69 (.agg wordsA) (.int .i64 2)) w = .ok (.agg #[.int .i64 413, .string ⟨#[67, 111, 110, 116, 101, 110, 116, 32, 84, 111, 111, 32, 76, 97, 114, 103, 101]⟩]) w := by
  have u := Tryd.underlying69
  have a := Tryd.isAgg68
  have z := Tryd.sizeOf68
  simp [Instr.index, run_underlying u, asIntOf, part, a, z, wordsA]
theorem words_3 (w : World) : Sem.run Tryd.prog (Instr.index 69 (.agg wordsA) (.int .i64 3)) w = .ok (.agg #[.int .i64 431, .string ⟨#[82, 101, 113, 117, 101, 115, 116, 32, 72, 101, 97, 100, 101, 114, 32, 70, 105, 101, 108, 100, 115, 32, 84, 111, 111, 32, 76, 97, 114, 103, 101]⟩]) w := by
  have u := Tryd.underlying69
  have a := Tryd.isAgg68
  have z := Tryd.sizeOf68
  simp [Instr.index, run_underlying u, asIntOf, part, a, z, wordsA]
theorem words_4 (w : World) : Sem.run Tryd.prog (Instr.index 69 (.agg wordsA) (.int .i64 4)) w = .ok (.agg #[.int .i64 502, .string ⟨#[66, 97, 100, 32, 71, 97, 116, 101, 119, 97, 121]⟩]) w := by
  have u := Tryd.underlying69
  have a := Tryd.isAgg68
  have z := Tryd.sizeOf68
  simp [Instr.index, run_underlying u, asIntOf, part, a, z, wordsA]
theorem words_5 (w : World) : Sem.run Tryd.prog (Instr.index 69 (.agg wordsA) (.int .i64 5)) w = .ok (.agg #[.int .i64 503, .string ⟨#[83, 101, 114, 118, 105, 99, 101, 32, 85, 110, 97, 118, 97, 105, 108, 97, 98, 108, 101]⟩]) w := by
  have u := Tryd.underlying69
  have a := Tryd.isAgg68
  have z := Tryd.sizeOf68
  simp [Instr.index, run_underlying u, asIntOf, part, a, z, wordsA]
def WordsAt (w : World) : Prop := ∃ t fr, w.heap[1]? = some (.cells wordsA t fr)
def una : ByteArray := ⟨#[83, 101, 114, 118, 105, 99, 101, 32, 85, 110, 97, 118, 97, 105, 108, 97, 98, 108, 101]⟩
set_option maxRecDepth 100000 in
set_option maxHeartbeats 800000 in
theorem reason_calls (w0 : World) (hw : WordsAt w0) : Calls Tryd.prog 32 #[.int .i64 503] w0 fun e w' => e = .returned (.string una) ∧ Below w0.heap.size w0 w' := by
  obtain ⟨t, fr, hb⟩ := hw
  have hc : ∀ j v, wordsA[j]? = some v → w0.cell? ⟨1, j, none⟩ = some v := fun j v h => (cell_of_row w0 _ j _ t fr hb).trans h
  have q0 : w0.cell? ⟨1, 0, none⟩ = some (.int .i64 200) := hc 0 _ rfl
  have q1 : w0.cell? ⟨1, 1, none⟩ = some (.string ⟨#[79, 75]⟩) := hc 1 _ rfl
  have q2 : w0.cell? ⟨1, 2, none⟩ = some (.int .i64 400) := hc 2 _ rfl
  have q3 : w0.cell? ⟨1, 3, none⟩ = some (.string ⟨#[66, 97, 100, 32, 82, 101, 113, 117, 101, 115, 116]⟩) := hc 3 _ rfl
  have q4 : w0.cell? ⟨1, 4, none⟩ = some (.int .i64 413) := hc 4 _ rfl
  have q5 : w0.cell? ⟨1, 5, none⟩ = some (.string ⟨#[67, 111, 110, 116, 101, 110, 116, 32, 84, 111, 111, 32, 76, 97, 114, 103, 101]⟩) := hc 5 _ rfl
  have q6 : w0.cell? ⟨1, 6, none⟩ = some (.int .i64 431) := hc 6 _ rfl
  have q7 : w0.cell? ⟨1, 7, none⟩ = some (.string ⟨#[82, 101, 113, 117, 101, 115, 116, 32, 72, 101, 97, 100, 101, 114, 32, 70, 105, 101, 108, 100, 115, 32, 84, 111, 111, 32, 76, 97, 114, 103, 101]⟩) := hc 7 _ rfl
  have q8 : w0.cell? ⟨1, 8, none⟩ = some (.int .i64 502) := hc 8 _ rfl
  have q9 : w0.cell? ⟨1, 9, none⟩ = some (.string ⟨#[66, 97, 100, 32, 71, 97, 116, 101, 119, 97, 121]⟩) := hc 9 _ rfl
  have q10 : w0.cell? ⟨1, 10, none⟩ = some (.int .i64 503) := hc 10 _ rfl
  have q11 : w0.cell? ⟨1, 11, none⟩ = some (.string ⟨#[83, 101, 114, 118, 105, 99, 101, 32, 85, 110, 97, 118, 97, 105, 108, 97, 98, 108, 101]⟩) := hc 11 _ rfl
  have q12 : w0.cell? ⟨1, 12, none⟩ = some (.int .i64 504) := hc 12 _ rfl
  have q13 : w0.cell? ⟨1, 13, none⟩ = some (.string ⟨#[71, 97, 116, 101, 119, 97, 121, 32, 84, 105, 109, 101, 111, 117, 116]⟩) := hc 13 _ rfl
  clear hc hb
  go_enter Tryd.func32, Tryd.ntmps32
  go_wp2_with fail
  rw [show (#[Value.int .i64 200, .string ⟨#[79, 75]⟩, .int .i64 400, .string ⟨#[66, 97, 100, 32, 82, 101, 113, 117, 101, 115, 116]⟩, .int .i64 413, .string ⟨#[67, 111, 110, 116, 101, 110, 116, 32, 84, 111, 111, 32, 76, 97, 114, 103, 101]⟩, .int .i64 431, .string ⟨#[82, 101, 113, 117, 101, 115, 116, 32, 72, 101, 97, 100, 101, 114, 32, 70, 105, 101, 108, 100, 115, 32, 84, 111, 111, 32, 76, 97, 114, 103, 101]⟩, .int .i64 502, .string ⟨#[66, 97, 100, 32, 71, 97, 116, 101, 119, 97, 121]⟩, .int .i64 503, .string ⟨#[83, 101, 114, 118, 105, 99, 101, 32, 85, 110, 97, 118, 97, 105, 108, 97, 98, 108, 101]⟩, .int .i64 504, .string ⟨#[71, 97, 116, 101, 119, 97, 121, 32, 84, 105, 109, 101, 111, 117, 116]⟩] : Array Value) = wordsA from rfl]
  clear q0 q1 q2 q3 q4 q5 q6 q7 q8 q9 q10 q11 q12 q13
  have i0 := words_0
  have i1 := words_1
  have i2 := words_2
  have i3 := words_3
  have i4 := words_4
  have i5 := words_5
  go_loopw [4, 6] (fun _ i wr => ∃ k : Nat, k ≤ 5 ∧ i = .int .i64 k ∧ Hid (Below w0.heap.size w0 wr)) (fun _ i _ => 5 - (intOf i).toNat)
  case atStart => exact ⟨0, by omega, rfl, Below.refl _ _⟩
  case round =>
    obtain ⟨k, hk, rfl, HB⟩ := hrel
    have hsz := HB.out.size
    have hk6 : k = 0 ∨ k = 1 ∨ k = 2 ∨ k = 3 ∨ k = 4 ∨ k = 5 := by omega
    rcases hk6 with rfl | rfl | rfl | rfl | rfl | rfl
    · rw [show ((((0 : Nat) : Int))) = 0 from rfl]
      go_wp2_with fail
      go_roundw
      case rel => exact ⟨1, by omega, by go_num, HB.out.alloc hsz _⟩
      case measure => simp [intOf]
    · rw [show ((((1 : Nat) : Int))) = 1 from rfl]
      go_wp2_with fail
      go_roundw
      case rel => exact ⟨2, by omega, by go_num, HB.out.alloc hsz _⟩
      case measure => simp [intOf]
    · rw [show ((((2 : Nat) : Int))) = 2 from rfl]
      go_wp2_with fail
      go_roundw
      case rel => exact ⟨3, by omega, by go_num, HB.out.alloc hsz _⟩
      case measure => simp [intOf]
    · rw [show ((((3 : Nat) : Int))) = 3 from rfl]
      go_wp2_with fail
      go_roundw
      case rel => exact ⟨4, by omega, by go_num, HB.out.alloc hsz _⟩
      case measure => simp [intOf]
    · rw [show ((((4 : Nat) : Int))) = 4 from rfl]
      go_wp2_with fail
      go_roundw
      case rel => exact ⟨5, by omega, by go_num, HB.out.alloc hsz _⟩
      case measure => simp [intOf]
    · rw [show (((5 : Nat) : Int)) = 5 from rfl]
      go_wp2_with fail
      go_ret
      exact ⟨rfl, HB.out.alloc hsz _⟩
end Go.Proofs.YtaebjpfgjgnpoaaDoor
