/- How points are compared, as a sort reads it. -/
import Derived.Test.YtbcmmmcbineipaaDoorSea
import Derived.Sort.Grow
set_option linter.unusedVariables false
set_option linter.unusedSimpArgs false
namespace Go.Proofs.YtbcmmmcbineipaaDoor
open Go.RowKit Go.Proofs.YtbcmmmcbineipaaDoorW.PrintWords Go.Proofs.YtbcmmmcbineipaaDoorW.PrintLast Go.Proofs.YtbcmmmcbineipaaDoorW.PrintMore
open Go.Proofs.YtbcmmmcbineipaaDoor.PR
theorem alloc_grow (w : World) (o : Obj) : w.alloc o = Go.Sort.grow w #[o] := by
  change _ = { w with heap := w.heap ++ #[o] }
  rfl
set_option maxRecDepth 4000 in
set_option maxHeartbeats 400000 in
theorem cmpP_calls (x y : S67) (W : World) : Calls Tryd.prog 26 #[.agg #[.int .u64 x.f0, .string x.f1], .agg #[.int .u64 y.f0, .string y.f1]] W fun e w' => e = .returned (.int .i64 (cmpP x y)) ∧ ∃ q os', w' = Go.Sort.grow (W.drewN q) os' := by
  obtain ⟨r, Hr⟩ : ∃ r : Int, Hid (r = cmpI x.f0 y.f0) := ⟨_, rfl⟩
  obtain ⟨s, Hs⟩ : ∃ r : Int, Hid (r = cmpS x.f1 y.f1) := ⟨_, rfl⟩
  have hu := fun w => cmpU_calls x.f0 y.f0 w
  have hs := fun w => cmpS_calls x.f1 y.f1 w
  unfold cmpP
  simp only [← Hr.out, ← Hs.out] at hu hs ⊢
  have HU := Lib.hid hu
  have HS := Lib.hid hs
  clear hu hs
  go_enter Tryd.func26, Tryd.ntmps26
  go_wp2_with fail
  have c1 := blk_cell (blk_alloc (blk_new W (Obj.cells #[Value.int IntKind.u64 x.f0, Value.string x.f1] 67)) (Obj.cells #[Value.int IntKind.u64 y.f0, Value.string y.f1] 67)) 0
  have c2 := blk_cell (blk_alloc (blk_new W (Obj.cells #[Value.int IntKind.u64 x.f0, Value.string x.f1] 67)) (Obj.cells #[Value.int IntKind.u64 y.f0, Value.string y.f1] 67)) 1
  have c3 := blk_cell (blk_next W (Obj.cells #[Value.int IntKind.u64 x.f0, Value.string x.f1] 67) (Obj.cells #[Value.int IntKind.u64 y.f0, Value.string y.f1] 67)) 0
  have c4 := blk_cell (blk_next W (Obj.cells #[Value.int IntKind.u64 x.f0, Value.string x.f1] 67) (Obj.cells #[Value.int IntKind.u64 y.f0, Value.string y.f1] 67)) 1
  simp only [List.getElem?_toArray, List.getElem?_cons_zero, List.getElem?_cons_succ] at c1 c2 c3 c4
  have HW : Hid (∃ q os', (W.alloc (Obj.cells #[Value.int IntKind.u64 x.f0, Value.string x.f1] 67)).alloc (Obj.cells #[Value.int IntKind.u64 y.f0, Value.string y.f1] 67) = Go.Sort.grow (W.drewN q) os') :=
    Lib.hid ⟨0, _, by rw [alloc_grow, alloc_grow, Go.Sort.grow_grow]; rfl⟩
  generalize ((W.alloc (Obj.cells #[Value.int IntKind.u64 x.f0, Value.string x.f1] 67)).alloc (Obj.cells #[Value.int IntKind.u64 y.f0, Value.string y.f1] 67)) = w at c1 c2 c3 c4 HW ⊢
  go_still_tail 10, (by kernel_rfl)
  repeat still_step
  still_call (HU.out _)
  repeat still_step
  still_call (HS.out _)
  repeat still_step
  refine wpStill_nil ?_
  change wpList _ _ _ _ _ (World.drew w)
  clear c1 c2 c3 c4
  replace HW : Hid (∃ q os', w.drew = Go.Sort.grow (W.drewN q) os') := by
    obtain ⟨q, os', h⟩ := HW.out
    exact Lib.hid ⟨q + 1, os', by rw [h]; rfl⟩
  generalize World.drew w = w1 at HW ⊢
  go_wp2_with (go_at_call 37; fail)
  refine (or_calls r s _ _ (blk_cell (blk_new _ _) 0) (blk_cell (blk_new _ _) 1)).mono ?_
  rintro e w' ⟨rfl, n, rfl⟩
  go_wp2
  go_ret
  obtain ⟨q, os', h⟩ := HW.out
  exact ⟨rfl, q + n, _, by rw [h, alloc_grow, Go.Sort.grow_grow]; show Go.Sort.grow ((W.drewN q).drewN n) _ = _; rw [World.drewN_drewN]⟩
end Go.Proofs.YtbcmmmcbineipaaDoor
