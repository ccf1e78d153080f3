/- The siphash part: what the state's take does. -/
import Derived.Test.YtbcmmmcbineipaaDoorSipA
import Derived.LoopTactic
import Derived.Lib.Hide
set_option linter.unusedVariables false
set_option linter.unusedSimpArgs false
namespace Go.Proofs.YtbcmmmcbineipaaDoor
open Go.RowKit

def srounds : Nat → Sip → Sip
  | 0, s => s
  | k + 1, s => sround (srounds k s)
def stake (s : Sip) (m : Int) : Sip :=
  let t := srounds 2 { s with d := Go.bits .xor .u64 s.d m }
  { t with a := Go.bits .xor .u64 t.a m }
theorem sround_calls' (g : Nat) (s : Sip) (v : Value) (n : Int) (w0 : World) (hg : w0.heap[g]? = some (.cells (sipCells s v n) 82 (0, 0))) :
    Calls Tryd.prog 47 #[.pointer (some ⟨g, 0, none⟩)] w0 fun e w' => e = .returned (.tuple #[]) ∧ w'.heap[g]? = some (.cells (sipCells (sround s) v n) 82 (0, 0)) ∧ w0.grownBy w' (some g) :=
  sround_calls g s.a s.b s.c s.d v n w0 hg
theorem sip_cell {w : World} {g : Nat} {s : Sip} {v : Value} {n : Int} (h : w.heap[g]? = some (.cells (sipCells s v n) 82 (0, 0))) :
    w.cell? ⟨g, 0, none⟩ = some (.int .u64 s.a) ∧ w.cell? ⟨g, 1, none⟩ = some (.int .u64 s.b) ∧ w.cell? ⟨g, 2, none⟩ = some (.int .u64 s.c) ∧ w.cell? ⟨g, 3, none⟩ = some (.int .u64 s.d) ∧ w.cell? ⟨g, 4, none⟩ = some v ∧ w.cell? ⟨g, 5, none⟩ = some (.int .i64 n) :=
  ⟨cell_of_row w g 0 _ _ _ h, cell_of_row w g 1 _ _ _ h, cell_of_row w g 2 _ _ _ h, cell_of_row w g 3 _ _ _ h, cell_of_row w g 4 _ _ _ h, cell_of_row w g 5 _ _ _ h⟩
theorem gb_trans {w w1 w2 : World} {g : Nat} (h : w.grownBy w1 (some g)) (k : w1.grownBy w2 (some g)) : w.grownBy w2 (some g) :=
  ⟨k.os.trans h.os, k.tape.trans h.tape, k.output.trans h.output, Nat.le_trans h.size k.size, fun i hi hne => (k.block i (Nat.lt_of_lt_of_le hi h.size) hne).trans (h.block i hi hne)⟩

set_option maxHeartbeats 4000000 in
set_option maxRecDepth 100000 in
theorem stake_calls (g : Nat) (s : Sip) (m : Int) (v : Value) (n : Int) (w0 : World) (hg : w0.heap[g]? = some (.cells (sipCells s v n) 82 (0, 0))) :
    Calls Tryd.prog 46 #[.pointer (some ⟨g, 0, none⟩), .int .u64 m] w0 fun e w' => e = .returned (.tuple #[]) ∧ w'.heap[g]? = some (.cells (sipCells (stake s m) v n) 82 (0, 0)) ∧ w0.grownBy w' (some g) := by
  have HG : Hid (w0.heap[g]? = some (.cells (sipCells s v n) 82 (0, 0))) := hg
  clear hg
  have c3 := (sip_cell HG.out).2.2.2.1
  have f3 : w0.frozen? ⟨g, 3, none⟩ = false := fz_of HG
  have HK := gb_refl w0 (some g)
  go_enter Tryd.func46, Tryd.ntmps46
  go_wp2
  replace HG := st_blk (u := .int .u64 (Go.bits .xor .u64 s.d m)) HG 3
  replace HG : Hid ((w0.setCell ⟨g, 3, none⟩ (.int .u64 (Go.bits .xor .u64 s.d m))).heap[g]? = some (.cells (sipCells { s with d := Go.bits .xor .u64 s.d m } v n) 82 (0, 0))) := HG
  replace HK := gb_set (u := .int .u64 (Go.bits .xor .u64 s.d m)) HK 3
  clear c3 f3
  generalize (w0.setCell ⟨g, 3, none⟩ (.int .u64 (Go.bits .xor .u64 s.d m))) = w1 at HG HK ⊢
  generalize hs1 : ({ s with d := Go.bits .xor .u64 s.d m } : Sip) = s1 at HG
  have Hs1 : Hid (({ s with d := Go.bits .xor .u64 s.d m } : Sip) = s1) := hs1
  clear hs1
  go_loopw [12] (fun x wr => ∃ k : Nat, k ≤ 2 ∧ x = .int .i64 k ∧ Hid (wr.heap[g]? = some (.cells (sipCells (srounds k s1) v n) 82 (0, 0))) ∧ Hid (w0.grownBy wr (some g))) (fun x _ => 2 - (intOf x).toNat)
  case atStart => exact ⟨0, by omega, rfl, HG, HK⟩
  case round =>
    obtain ⟨k, hk, rfl, HG, HK⟩ := hrel
    by_cases hlt : k < 2
    · go_wp2_with (go_at_call 47; refine (sround_calls' g _ v n _ HG.out).mono ?_; rintro e w2 ⟨rfl, hg2, hk2⟩; have HG2 := Lib.hid hg2; have HK2 := Lib.hid hk2; clear hg2 hk2)
      go_roundw
      case rel => exact ⟨k + 1, by omega, by go_num, HG2, gb_trans HK.out HK2.out⟩
      case measure => simp [intOf]; omega
    · obtain rfl : k = 2 := by omega
      have c0 := (sip_cell HG.out).1
      have f0 : wr.frozen? ⟨g, 0, none⟩ = false := fz_of HG
      go_wp2
      refine bodyPost_end (results_none rfl _ _ _) rfl ⟨rfl, ?_, ?_⟩
      · have e : stake s m = { srounds 2 s1 with a := Go.bits .xor .u64 (srounds 2 s1).a m } := by rw [← Hs1.out]; rfl
        rw [e]
        exact (st_blk HG 0).out
      · exact (gb_set HK 0).out
end Go.Proofs.YtbcmmmcbineipaaDoor
