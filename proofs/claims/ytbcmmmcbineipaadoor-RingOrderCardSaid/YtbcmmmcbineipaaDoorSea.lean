/- The search in a ring. -/
import Derived.Test.YtbcmmmcbineipaaDoorCmp
set_option linter.unusedVariables false
set_option linter.unusedSimpArgs false
namespace Go.Proofs.YtbcmmmcbineipaaDoor
open Go.RowKit Go.Proofs.YtbcmmmcbineipaaDoorW.PrintWords Go.Proofs.YtbcmmmcbineipaaDoorW.PrintLast Go.Proofs.YtbcmmmcbineipaaDoorW.PrintMore
open Go.Proofs.YtbcmmmcbineipaaDoor.PR

theorem blk_next (w : World) (o o' : Obj) : ((w.alloc o).alloc o').heap[w.heap.size + 1]? = some o' := by
  have h := blk_new (w.alloc o) o'
  have hz : (w.alloc o).heap.size = w.heap.size + 1 := by
    change (w.heap.push o).size = _
    exact Array.size_push ..
  rwa [hz] at h
theorem from1_calls (p : S67) (x : Int) (w0 : World) :
    Calls Tryd.prog 45 #[.agg #[.int .u64 p.f0, .string p.f1], .int .u64 x] w0 fun e w' => e = .returned (.int .i64 (cmpOr (cmpI p.f0 x) 1)) ∧ Below w0.heap.size w0 w' := by
  obtain ⟨r, Hr⟩ : ∃ r : Int, Hid (r = cmpI p.f0 x) := ⟨_, rfl⟩
  have hu := fun w => cmpU_calls p.f0 x w
  simp only [← Hr.out] at hu ⊢
  have HU := Lib.hid hu
  clear hu
  go_enter Tryd.func45, Tryd.ntmps45
  go_wp2_with (first | (go_at_call 38; refine (HU.out _).mono ?_; rintro e w1 ⟨rfl, rfl⟩) | (go_at_call 37; fail))
  have hb0 := below_alloc (Below.refl w0.heap.size w0) (Obj.cells #[Value.int IntKind.u64 p.f0, Value.string p.f1] 67)
  have hb1 := below_alloc hb0 (Obj.cells #[Value.int IntKind.i64 r, Value.int IntKind.i64 1] 3)
  refine (or_calls r 1 _ _ (blk_cell (blk_next _ _ _) 0) (blk_cell (blk_next _ _ _) 1)).mono ?_
  rintro e w' ⟨rfl, n, rfl⟩
  go_wp2
  go_ret
  exact ⟨rfl, pw_below_drewN hb1 n⟩
end Go.Proofs.YtbcmmmcbineipaaDoor
