/- The parts of a list of values: the walk. -/
import Derived.Test.YtaebjpfgjgnpoaaDoorHe
import Derived.Maps.OwnIn
import Derived.Maps.AppendAt
set_option linter.unusedVariables false
set_option linter.unusedSimpArgs false
namespace Go.Proofs.YtaebjpfgjgnpoaaDoor
open Go.RowKit Go.Shelf Go.Proofs.YtaebjpfgjgnpoaaDoorW.PrintWords Go.Proofs.YtaebjpfgjgnpoaaDoorW.PrintLast Go.Proofs.YtaebjpfgjgnpoaaDoorW.PrintMore
open Go.Proofs.YtaebjpfgjgnpoaaDoor.PR
attribute [local go_sem] Oper.semAt_some

def trimS (s : ByteArray) : ByteArray := strL (trim s.data.toList)
theorem trim_eq (l : List UInt8) : Lib.trimS l [32, 9] = trim l := by
  have h : (fun b : UInt8 => ([32, 9] : List UInt8).contains b) = blank := by
    funext b
    unfold blank
    simp [List.contains_cons]
    rw [Bool.eq_iff_iff]
    simp
  unfold Lib.trimS Lib.trimLeftS Lib.trimRightS trim trimL trimR
  rw [← h]
theorem trim_length (l : List UInt8) : (trim l).length ≤ l.length := by
  have h : ∀ (l : List UInt8), (l.dropWhile blank).length ≤ l.length := fun l => (List.dropWhile_suffix _).length_le
  unfold trim trimL trimR
  refine Nat.le_trans (h _) ?_
  rw [List.length_reverse]
  refine Nat.le_trans (h _) ?_
  rw [List.length_reverse]
  exact Nat.le_refl _
set_option maxHeartbeats 400000 in
theorem trim_calls (s : ByteArray) (w0 : World) (hs : s.size ≤ 1000000) :
    Calls Tryd.prog 37 #[.string s] w0 fun e w' => e = .returned (.string (trimS s)) ∧ Below w0.heap.size w0 w' := by
  have hcon := fun w => Any.strings_Trim_laid Tryd.lays160 (by kernel_rfl) s ⟨#[32, 9]⟩ w (by omega) (by decide) (ascii_of_all (by decide))
  have e1 : (⟨#[32, 9]⟩ : ByteArray).data.toList = [32, 9] := rfl
  simp only [e1, trim_eq] at hcon
  have HC : Hid (∀ w, Calls Tryd.prog 47 #[.string s, .string ⟨#[32, 9]⟩] w fun e w' => e = .returned (.string (trimS s)) ∧ Below w.heap.size w w') := hcon
  clear hcon e1
  go_enter Tryd.func37, Tryd.ntmps37
  go_wp2_with fail
  refine (HC.out _).mono ?_
  rintro e w1 ⟨rfl, hb1⟩
  have HB1 := Lib.hid hb1
  clear hb1
  go_wp2_with fail
  go_ret
  exact ⟨rfl, HB1.out⟩
theorem str_at {w : World} {A : Option Addr} {n : Nat} {xs : List ByteArray} (h : Kd.C Kd.string w A n xs) (k : Nat) (hk : k < n) (hl : xs.length = n) : ∃ ad, A = some ad ∧ w.cell? (ad.add k) = some (.string (xs[k]'(by omega))) := by
  obtain ⟨ad, c, rfl, _, hc, hcell⟩ := Kd.C_get h ByteArray.empty (k : Int) (by omega) (by omega)
  refine ⟨ad, rfl, ?_⟩
  have hc' : c = [.string (xs.getD (k : Int).toNat ByteArray.empty)] := hc
  have := hcell 0 (.string (xs.getD (k : Int).toNat ByteArray.empty)) (by rw [hc']; rfl)
  simp only [Int.toNat_natCast] at this
  have e : k * Kd.string.sz + 0 = k := by show k * 1 + 0 = k; omega
  rw [e] at this
  rw [this, List.getD_eq_getElem?_getD, List.getElem?_eq_getElem (by omega)]
  rfl
/-- Joined by commas. -/
def joinS (l : List ByteArray) : ByteArray := strL ([44].intercalate (l.map (·.data.toList)))
theorem own_cells {w : World} {base g n cap : Nat} {l : List ByteArray} (h : w.ownsRow base 9 1 (.slice (some ⟨g, 0, none⟩) n cap) n (l.map .string)) (hn : n = l.length) (j : Nat) (hj : j < l.length) : w.cell? ⟨g, j, none⟩ = some (.string l[j]) := by
  rw [h.cellAt j (by omega), List.getElem?_map, List.getElem?_eq_getElem hj]
  rfl
theorem join_calls (v : Value) (base : Nat) (l : List ByteArray) (w : World) (ho : w.ownsRow base 9 1 v l.length (l.map .string)) (hl : l.length ≤ 1000000) (hj : (joinS l).size ≤ 1000000) :
    Calls Tryd.prog 36 #[v, .string ⟨#[44]⟩] w fun e w' => e = .returned (.string (joinS l)) ∧ Below w.heap.size w w' := by
  cases l with
  | nil =>
    obtain ⟨A, c, rfl⟩ := own_form ho
    refine (Tryd.strings_Join_none A c ⟨#[44]⟩ w).mono ?_
    rintro e w' ⟨rfl, rfl⟩
    exact ⟨rfl, Below.refl _ _⟩
  | cons x t =>
    rcases ho.2 with ⟨_, h0⟩ | ⟨g, cap, cur, rfl, hbg, hg, hnc, hcm, hcs, htake⟩
    · simp at h0
    · have hcells : ∀ (j : Nat) y, (x :: t)[j]? = some y → w.cell? ⟨g, 0 + j, none⟩ = some (.string y) := fun j y hy => by
        obtain ⟨hj, rfl⟩ := List.getElem?_eq_some_iff.1 hy
        rw [Nat.zero_add]
        exact own_cells ho rfl j hj
      have hsz : (Lib.join ((x :: t).map (·.data.toList)) [44]).length ≤ 140737488355328 := by
        have e : (joinS (x :: t)).size = (Lib.join ((x :: t).map (·.data.toList)) [44]).length := strL_size _
        omega
      exact Tryd.strings_Join g 0 cap (x :: t) ⟨#[44]⟩ w hcells (blk_lt hg) (by omega) hnc hsz
set_option maxHeartbeats 400000 in
theorem splitSeq_calls (s : ByteArray) (w : World) : Calls Tryd.prog 35 #[.string s, .string ⟨#[44]⟩] w fun e w' =>
    e = .returned (.func (.func 50) #[] #[.pointer (some ⟨w.heap.size + 1, 0, none⟩), .pointer (some ⟨w.heap.size, 0, none⟩), .pointer (some ⟨w.heap.size + 2, 0, none⟩)]) ∧
      w' = ((w.alloc (.cells #[.string s] 9)).alloc (.cells #[.string ⟨#[44]⟩] 9)).alloc (.cells #[.int .i64 0] 3) := by
  have hin : Calls Tryd.prog 43 #[.string s, .string ⟨#[44]⟩, .int .i64 0] w fun e w' =>
      e = .returned (.func (.func 50) #[] #[.pointer (some ⟨w.heap.size + 1, 0, none⟩), .pointer (some ⟨w.heap.size, 0, none⟩), .pointer (some ⟨w.heap.size + 2, 0, none⟩)]) ∧
        w' = ((w.alloc (.cells #[.string s] 9)).alloc (.cells #[.string ⟨#[44]⟩] 9)).alloc (.cells #[.int .i64 0] 3) := by
    go_enter Tryd.func43, Tryd.ntmps43
    go_wp2
    go_ret
    exact ⟨rfl, rfl⟩
  have HIN := Lib.hid hin
  clear hin
  go_enter Tryd.func35, Tryd.ntmps35
  go_wp2_with fail
  refine HIN.out.mono ?_
  rintro e w1 ⟨rfl, hw⟩
  have HW := Lib.hid hw
  clear hw
  go_wp2_with fail
  go_ret
  exact ⟨rfl, HW.out⟩
end Go.Proofs.YtaebjpfgjgnpoaaDoor
