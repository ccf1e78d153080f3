/- How points are compared. The search in a ring. How points are compared, as a sort reads it. DERIVED: THE SHELF's CONTRACTS AT THIS DUMP, IN PLAIN WORDS (tools/lay-plain.mjs out of 'YtbcmmmcbineipaaDoorShelf.lean', which tools/lay-shelf.mjs wrote): THE SAME DECLARATIONS UNDER THE SAME NAMES: 'import', 'namespace', 'open', 'def', 'theorem' AND NOTHING ELSE: no command of the shelf's: FOR A HAND-IN. Each laying: the table of numbers ('.._ren') and one theorem, a field a fact of the dump's own or the kernel's comparison; each contract: ONE APPLICATION. The digits of a small number. The points, sorted. The binary search in a ring. The place of the first point of a number or more. -/
import Derived.Test.YtbcmmmcbineipaaDoorMa
import Derived.Sort.Grow
import Derived.Shelf.Strconv.Itoa3
import Derived.Shelf.SlSortCmp.WholeK
import Derived.Shelf.SlSortCmp.NoneTotal
import Derived.Ground.NamesProg
import Derived.Ground.SlsfProg
import Derived.Test.YtbcmmmcbineipaaDoorProg
set_option linter.unusedVariables false
set_option linter.unusedSimpArgs false
namespace Go.Proofs.YtbcmmmcbineipaaDoor
open Go.RowKit Go.Proofs.YtbcmmmcbineipaaDoorW.PrintWords Go.Proofs.YtbcmmmcbineipaaDoorW.PrintLast Go.Proofs.YtbcmmmcbineipaaDoorW.PrintMore
open Go.Proofs.YtbcmmmcbineipaaDoor.PR

theorem nanU (x : Int) (w : World) : Calls Tryd.prog 59 #[.int .u64 x] w fun e w' => e = .returned (.bool false) ∧ w' = w := by
  have h : (x != x) = false := by simp
  go_enter Tryd.func59, Tryd.ntmps59
  go_wp2
  go_ret
  exact ⟨by simp, rfl⟩
theorem nanS (x : ByteArray) (w : World) : Calls Tryd.prog 60 #[.string x] w fun e w' => e = .returned (.bool false) ∧ w' = w := by
  go_enter Tryd.func60, Tryd.ntmps60
  go_wp2
  go_ret
  exact ⟨by simp, rfl⟩
def cmpI (x y : Int) : Int := if x < y then -1 else if y < x then 1 else 0
def cmpS (x y : ByteArray) : Int := if Op.bytesLess x.toList y.toList = true then -1 else if x.toList = y.toList then 0 else 1
theorem cmpU_calls (x y : Int) (w : World) : Calls Tryd.prog 38 #[.int .u64 x, .int .u64 y] w fun e w' => e = .returned (.int .i64 (cmpI x y)) ∧ w' = w := by
  by_cases h1 : x < y
  · have E1 : Hid (cmpI x y = -1) := if_pos h1
    go_enter Tryd.func38, Tryd.ntmps38
    go_wp2_with (first | (go_at_call 59; refine (nanU _ _).mono ?_; rintro e w1 ⟨rfl, rfl⟩))
    go_ret
    exact ⟨by rw [E1.out]; rfl, rfl⟩
  · by_cases h2 : y < x
    · have E1 : Hid (cmpI x y = 1) := (if_neg h1).trans (if_pos h2)
      go_enter Tryd.func38, Tryd.ntmps38
      go_wp2_with (first | (go_at_call 59; refine (nanU _ _).mono ?_; rintro e w1 ⟨rfl, rfl⟩))
      go_ret
      exact ⟨by rw [E1.out]; rfl, rfl⟩
    · have E1 : Hid (cmpI x y = 0) := (if_neg h1).trans (if_neg h2)
      go_enter Tryd.func38, Tryd.ntmps38
      go_wp2_with (first | (go_at_call 59; refine (nanU _ _).mono ?_; rintro e w1 ⟨rfl, rfl⟩))
      go_ret
      exact ⟨by rw [E1.out]; rfl, rfl⟩
theorem bytesLess_irrefl (l : List UInt8) : Op.bytesLess l l = false := by
  induction l with
  | nil => rfl
  | cons a l ih => simp [Op.bytesLess, ih]
theorem cmpS_calls (x y : ByteArray) (w : World) : Calls Tryd.prog 39 #[.string x, .string y] w fun e w' => e = .returned (.int .i64 (cmpS x y)) ∧ w' = w := by
  cases h1 : Op.bytesLess x.toList y.toList with
  | true =>
    have e1 : cmpS x y = -1 := by simp [cmpS, h1]
    have E1 := Lib.hid e1
    clear e1
    go_enter Tryd.func39, Tryd.ntmps39
    go_wp2_with (first | (go_at_call 60; refine (nanS _ _).mono ?_; rintro e w1 ⟨rfl, rfl⟩))
    go_ret
    exact ⟨by rw [E1.out]; rfl, rfl⟩
  | false =>
    by_cases h2 : x.toList = y.toList
    · have hb : (x.toList == y.toList) = true := by simpa using h2
      have e1 : cmpS x y = 0 := by simp [cmpS, h1, h2, bytesLess_irrefl]
      have E1 := Lib.hid e1
      clear e1 h2
      go_enter Tryd.func39, Tryd.ntmps39
      go_wp2_with (first | (go_at_call 60; refine (nanS _ _).mono ?_; rintro e w1 ⟨rfl, rfl⟩))
      go_ret
      exact ⟨by rw [E1.out]; rfl, rfl⟩
    · have hb : (x.toList == y.toList) = false := by simpa using h2
      have e1 : cmpS x y = 1 := by simp [cmpS, h1, h2]
      have E1 := Lib.hid e1
      clear e1 h2
      go_enter Tryd.func39, Tryd.ntmps39
      go_wp2_with (first | (go_at_call 60; refine (nanS _ _).mono ?_; rintro e w1 ⟨rfl, rfl⟩))
      go_ret
      exact ⟨by rw [E1.out]; rfl, rfl⟩
/-- A point's two cells. -/
def encPt (x : S67) : List Value := [.int .u64 x.f0, .string x.f1]
def cmpOr (a b : Int) : Int := if a = 0 then b else a
def cmpP (x y : S67) : Int := cmpOr (cmpI x.f0 y.f0) (cmpS x.f1 y.f1)
theorem or_some (a b : Int) : cmp_Or_int.f 3 [a, b] = some (cmpOr a b) := by
  have w1 : wrap64 (0 + 1) = 1 := by unfold wrap64; omega
  have w2 : wrap64 (1 + 1) = 2 := by unfold wrap64; omega
  have w1' : wrap64 1 = 1 := by unfold wrap64; omega
  have w2' : wrap64 2 = 2 := by unfold wrap64; omega
  by_cases h1 : a = 0
  · by_cases h2 : b = 0
    · simp [cmp_Or_int.f, cmp_Or_int.l0, rd, w1, w2, w1', w2', h1, h2, cmpOr]
    · simp [cmp_Or_int.f, cmp_Or_int.l0, rd, w1, w2, w1', w2', h1, h2, cmpOr]
  · simp [cmp_Or_int.f, cmp_Or_int.l0, rd, w1, w2, w1', h1, cmpOr]
theorem or_calls (a b : Int) (g : Nat) (w : World) (h0 : w.cell? ⟨g, 0, none⟩ = some (.int .i64 a)) (h1 : w.cell? ⟨g, 1, none⟩ = some (.int .i64 b)) :
    Calls Tryd.prog 37 #[.slice (some ⟨g, 0, none⟩) 2 2] w fun e w' => e = .returned (.int .i64 (cmpOr a b)) ∧ ∃ n, w' = w.drewN n := by
  have hr : Kd.C (Kd.int .i64) w (some ⟨g, 0, none⟩) [a, b].length [a, b] := by
    refine Kd.C_of_reads (d := (0 : Int)) ⟨rfl, (by show 2 ≤ _; omega), fun _ => ⟨_, rfl, fun j hj => ?_⟩⟩
    rw [add_at, Nat.zero_add]
    match j, hj with
    | 0, _ => exact h0
    | 1, _ => exact h1
  exact (cmp_Or_int.calls 3 (some ⟨g, 0, none⟩) 2 [a, b] (cmpOr a b) w hr (Nat.le_refl _) (or_some a b)).mono fun _ _ ⟨he, ⟨hd⟩⟩ => ⟨he, hd⟩
end Go.Proofs.YtbcmmmcbineipaaDoor
set_option linter.unusedVariables false
set_option linter.unusedSimpArgs false
namespace Go.Proofs.YtbcmmmcbineipaaDoor
open Go.RowKit Go.Proofs.YtbcmmmcbineipaaDoorW.PrintWords Go.Proofs.YtbcmmmcbineipaaDoorW.PrintLast Go.Proofs.YtbcmmmcbineipaaDoorW.PrintMore
open Go.Proofs.YtbcmmmcbineipaaDoor.PR

theorem blk_next (w : World) (o o' : Obj) : ((w.alloc o).alloc o').heap[w.heap.size + 1]? = some o' := by
  have h := blk_new (w.alloc o) o'
  have hz : (w.alloc o).heap.size = w.heap.size + 1 := by
    change (w.heap.push o).size = _
    exact Array.size_push ..
  rwa [hz] at h
theorem from1_calls (p : S67) (x : Int) (w0 : World) :
    Calls Tryd.prog 45 #[.agg #[.int .u64 p.f0, .string p.f1], .int .u64 x] w0 fun e w' => e = .returned (.int .i64 (cmpOr (cmpI p.f0 x) 1)) ∧ Below w0.heap.size w0 w' := by
  obtain ⟨r, Hr⟩ : ∃ r : Int, Hid (r = cmpI p.f0 x) := ⟨_, rfl⟩
  have hu := fun w => cmpU_calls p.f0 x w
  simp only [← Hr.out] at hu ⊢
  have HU := Lib.hid hu
  clear hu
  go_enter Tryd.func45, Tryd.ntmps45
  go_wp2_with (first | (go_at_call 38; refine (HU.out _).mono ?_; rintro e w1 ⟨rfl, rfl⟩) | (go_at_call 37; fail))
  have hb0 := below_alloc (Below.refl w0.heap.size w0) (Obj.cells #[Value.int IntKind.u64 p.f0, Value.string p.f1] 67)
  have hb1 := below_alloc hb0 (Obj.cells #[Value.int IntKind.i64 r, Value.int IntKind.i64 1] 3)
  refine (or_calls r 1 _ _ (blk_cell (blk_next _ _ _) 0) (blk_cell (blk_next _ _ _) 1)).mono ?_
  rintro e w' ⟨rfl, n, rfl⟩
  go_wp2
  go_ret
  exact ⟨rfl, pw_below_drewN hb1 n⟩
end Go.Proofs.YtbcmmmcbineipaaDoor
set_option linter.unusedVariables false
set_option linter.unusedSimpArgs false
namespace Go.Proofs.YtbcmmmcbineipaaDoor
open Go.RowKit Go.Proofs.YtbcmmmcbineipaaDoorW.PrintWords Go.Proofs.YtbcmmmcbineipaaDoorW.PrintLast Go.Proofs.YtbcmmmcbineipaaDoorW.PrintMore
open Go.Proofs.YtbcmmmcbineipaaDoor.PR
theorem alloc_grow (w : World) (o : Obj) : w.alloc o = Go.Sort.grow w #[o] := by
  change _ = { w with heap := w.heap ++ #[o] }
  rfl
set_option maxRecDepth 4000 in
set_option maxHeartbeats 400000 in
theorem cmpP_calls (x y : S67) (W : World) : Calls Tryd.prog 26 #[.agg #[.int .u64 x.f0, .string x.f1], .agg #[.int .u64 y.f0, .string y.f1]] W fun e w' => e = .returned (.int .i64 (cmpP x y)) ∧ ∃ q os', w' = Go.Sort.grow (W.drewN q) os' := by
  obtain ⟨r, Hr⟩ : ∃ r : Int, Hid (r = cmpI x.f0 y.f0) := ⟨_, rfl⟩
  obtain ⟨s, Hs⟩ : ∃ r : Int, Hid (r = cmpS x.f1 y.f1) := ⟨_, rfl⟩
  have hu := fun w => cmpU_calls x.f0 y.f0 w
  have hs := fun w => cmpS_calls x.f1 y.f1 w
  unfold cmpP
  simp only [← Hr.out, ← Hs.out] at hu hs ⊢
  have HU := Lib.hid hu
  have HS := Lib.hid hs
  clear hu hs
  go_enter Tryd.func26, Tryd.ntmps26
  go_wp2_with fail
  have c1 := blk_cell (blk_alloc (blk_new W (Obj.cells #[Value.int IntKind.u64 x.f0, Value.string x.f1] 67)) (Obj.cells #[Value.int IntKind.u64 y.f0, Value.string y.f1] 67)) 0
  have c2 := blk_cell (blk_alloc (blk_new W (Obj.cells #[Value.int IntKind.u64 x.f0, Value.string x.f1] 67)) (Obj.cells #[Value.int IntKind.u64 y.f0, Value.string y.f1] 67)) 1
  have c3 := blk_cell (blk_next W (Obj.cells #[Value.int IntKind.u64 x.f0, Value.string x.f1] 67) (Obj.cells #[Value.int IntKind.u64 y.f0, Value.string y.f1] 67)) 0
  have c4 := blk_cell (blk_next W (Obj.cells #[Value.int IntKind.u64 x.f0, Value.string x.f1] 67) (Obj.cells #[Value.int IntKind.u64 y.f0, Value.string y.f1] 67)) 1
  simp only [List.getElem?_toArray, List.getElem?_cons_zero, List.getElem?_cons_succ] at c1 c2 c3 c4
  have HW : Hid (∃ q os', (W.alloc (Obj.cells #[Value.int IntKind.u64 x.f0, Value.string x.f1] 67)).alloc (Obj.cells #[Value.int IntKind.u64 y.f0, Value.string y.f1] 67) = Go.Sort.grow (W.drewN q) os') :=
    Lib.hid ⟨0, _, by rw [alloc_grow, alloc_grow, Go.Sort.grow_grow]; rfl⟩
  generalize ((W.alloc (Obj.cells #[Value.int IntKind.u64 x.f0, Value.string x.f1] 67)).alloc (Obj.cells #[Value.int IntKind.u64 y.f0, Value.string y.f1] 67)) = w at c1 c2 c3 c4 HW ⊢
  go_still_tail 10, (by kernel_rfl)
  repeat still_step
  still_call (HU.out _)
  repeat still_step
  still_call (HS.out _)
  repeat still_step
  refine wpStill_nil ?_
  change wpList _ _ _ _ _ (World.drew w)
  clear c1 c2 c3 c4
  replace HW : Hid (∃ q os', w.drew = Go.Sort.grow (W.drewN q) os') := by
    obtain ⟨q, os', h⟩ := HW.out
    exact Lib.hid ⟨q + 1, os', by rw [h]; rfl⟩
  generalize World.drew w = w1 at HW ⊢
  go_wp2_with (go_at_call 37; fail)
  refine (or_calls r s _ _ (blk_cell (blk_new _ _) 0) (blk_cell (blk_new _ _) 1)).mono ?_
  rintro e w' ⟨rfl, n, rfl⟩
  go_wp2
  go_ret
  obtain ⟨q, os', h⟩ := HW.out
  exact ⟨rfl, q + n, _, by rw [h, alloc_grow, Go.Sort.grow_grow]; show Go.Sort.grow ((W.drewN q).drewN n) _ = _; rw [World.drewN_drewN]⟩
end Go.Proofs.YtbcmmmcbineipaaDoor
namespace Go.Proofs
open Go.Shelf
def Tryd.lays171_ren : Go.Shelf.Ren := ⟨fun | 171 => 34 | 243 => 48 | 246 => 63 | 283 => 69 | 284 => 70 | 285 => 71 | 286 => 72 | 129 => 58 | 317 => 74 | 318 => 75 | 319 => 76 | 320 => 77 | 337 => 78 | 338 => 79 | n => n, fun | 3 => 3 | 9 => 9 | 2 => 2 | 4 => 4 | 171 => 120 | 0 => 0 | 53 => 39 | 37 => 37 | 5 => 5 | 173 => 122 | 212 => 129 | 51 => 109 | 20 => 20 | 213 => 130 | 46 => 87 | 232 => 132 | 233 => 133 | n => n, fun | 17 => 0 | 18 => 1 | 19 => 2 | n => n⟩
theorem Tryd.lays171 : Go.Proofs.Lays.n171 Tryd.prog Tryd.lays171_ren := {
  mixed := by kernel_rfl
  f129 := Tryd.func58.trans (congrArg some (by kernel_rfl))
  f171 := Tryd.func34.trans (congrArg some (by kernel_rfl))
  f243 := Tryd.func48.trans (congrArg some (by kernel_rfl))
  f246 := Tryd.func63.trans (congrArg some (by kernel_rfl))
  f283 := Tryd.func69.trans (congrArg some (by kernel_rfl))
  f284 := Tryd.func70.trans (congrArg some (by kernel_rfl))
  f285 := Tryd.func71.trans (congrArg some (by kernel_rfl))
  f286 := Tryd.func72.trans (congrArg some (by kernel_rfl))
  f317 := Tryd.func74.trans (congrArg some (by kernel_rfl))
  f318 := Tryd.func75.trans (congrArg some (by kernel_rfl))
  f319 := Tryd.func76.trans (congrArg some (by kernel_rfl))
  f320 := Tryd.func77.trans (congrArg some (by kernel_rfl))
  f337 := Tryd.func78.trans (congrArg some (by kernel_rfl))
  f338 := Tryd.func79.trans (congrArg some (by kernel_rfl))
  t0 := Tryd.underlying0
  a0 := Tryd.isAgg0
  z0 := Tryd.sizeOf0
  v0 := Tryd.zeroValue0
  t2 := Tryd.underlying2
  a2 := Tryd.isAgg2
  z2 := Tryd.sizeOf2
  v2 := Tryd.zeroValue2
  t3 := Tryd.underlying3
  a3 := Tryd.isAgg3
  z3 := Tryd.sizeOf3
  v3 := Tryd.zeroValue3
  t4 := Tryd.underlying4
  a4 := Tryd.isAgg4
  z4 := Tryd.sizeOf4
  v4 := Tryd.zeroValue4
  t5 := Tryd.underlying5
  a5 := Tryd.isAgg5
  z5 := Tryd.sizeOf5
  v5 := Tryd.zeroValue5
  t9 := Tryd.underlying9
  a9 := Tryd.isAgg9
  z9 := Tryd.sizeOf9
  v9 := Tryd.zeroValue9
  t20 := Tryd.underlying20
  a20 := Tryd.isAgg20
  z20 := Tryd.sizeOf20
  v20 := Tryd.zeroValue20
  t37 := Tryd.underlying37
  a37 := Tryd.isAgg37
  z37 := Tryd.sizeOf37
  v37 := Tryd.zeroValue37
  t46 := Tryd.underlying87
  a46 := Tryd.isAgg87
  z46 := Tryd.sizeOf87
  v46 := Tryd.zeroValue87
  t51 := Tryd.underlying109
  a51 := Tryd.isAgg109
  z51 := Tryd.sizeOf109
  v51 := Tryd.zeroValue109
  t53 := Tryd.underlying39
  a53 := Tryd.isAgg39
  z53 := Tryd.sizeOf39
  v53 := Tryd.zeroValue39
  t171 := Tryd.underlying120
  a171 := Tryd.isAgg120
  z171 := Tryd.sizeOf120
  v171 := Tryd.zeroValue120
  t173 := Tryd.underlying122
  a173 := Tryd.isAgg122
  z173 := Tryd.sizeOf122
  v173 := Tryd.zeroValue122
  t212 := Tryd.underlying129
  a212 := Tryd.isAgg129
  z212 := Tryd.sizeOf129
  v212 := Tryd.zeroValue129
  t213 := Tryd.underlying130
  a213 := Tryd.isAgg130
  z213 := Tryd.sizeOf130
  t232 := Tryd.underlying132
  a232 := Tryd.isAgg132
  z232 := Tryd.sizeOf132
  v232 := Tryd.zeroValue132
  t233 := Tryd.underlying133
  a233 := Tryd.isAgg133
  z233 := Tryd.sizeOf133
  v233 := Tryd.zeroValue133
  g17 := by kernel_rfl
  g18 := by kernel_rfl
  g19 := by kernel_rfl }
def Tryd.sortPt_ren : Go.Shelf.Ren := ⟨fun | 6 => 25 | 15 => 36 | 14 => 35 | 28 => 57 | 29 => 58 | 20 => 49 | 21 => 50 | 22 => 51 | 23 => 52 | 24 => 53 | 25 => 54 | 26 => 55 | 27 => 56 | 46 => 64 | 47 => 65 | 48 => 66 | 49 => 67 | 50 => 68 | 57 => 73 | n => n, fun | 22 => 61 | 24 => 67 | 25 => 69 | 3 => 3 | 39 => 87 | 0 => 0 | 53 => 109 | 55 => 39 | 4 => 4 | 46 => 103 | 45 => 102 | 50 => 96 | 5 => 5 | 9 => 9 | 66 => 115 | 70 => 118 | 76 => 124 | 77 => 125 | n => n, fun | n => n⟩
theorem Tryd.sortPt : Go.Proofs.SlLaysF0.n6 Tryd.prog Tryd.sortPt_ren := {
  mixed := by kernel_rfl
  f6 := ⟨Tryd.f25.name, by decide, Tryd.func25.trans (congrArg some (by kernel_rfl))⟩
  f14 := ⟨Tryd.f35.name, by decide, Tryd.func35.trans (congrArg some (by kernel_rfl))⟩
  f15 := Tryd.func36.trans (congrArg some (by kernel_rfl))
  f20 := ⟨Tryd.f49.name, by decide, Tryd.func49.trans (congrArg some (by kernel_rfl))⟩
  f21 := ⟨Tryd.f50.name, by decide, Tryd.func50.trans (congrArg some (by kernel_rfl))⟩
  f22 := ⟨Tryd.f51.name, by decide, Tryd.func51.trans (congrArg some (by kernel_rfl))⟩
  f23 := ⟨Tryd.f52.name, by decide, Tryd.func52.trans (congrArg some (by kernel_rfl))⟩
  f24 := ⟨Tryd.f53.name, by decide, Tryd.func53.trans (congrArg some (by kernel_rfl))⟩
  f25 := ⟨Tryd.f54.name, by decide, Tryd.func54.trans (congrArg some (by kernel_rfl))⟩
  f26 := ⟨Tryd.f55.name, by decide, Tryd.func55.trans (congrArg some (by kernel_rfl))⟩
  f27 := ⟨Tryd.f56.name, by decide, Tryd.func56.trans (congrArg some (by kernel_rfl))⟩
  f28 := Tryd.func57.trans (congrArg some (by kernel_rfl))
  f29 := Tryd.func58.trans (congrArg some (by kernel_rfl))
  f46 := ⟨Tryd.f64.name, by decide, Tryd.func64.trans (congrArg some (by kernel_rfl))⟩
  f47 := Tryd.func65.trans (congrArg some (by kernel_rfl))
  f48 := Tryd.func66.trans (congrArg some (by kernel_rfl))
  f49 := ⟨Tryd.f67.name, by decide, Tryd.func67.trans (congrArg some (by kernel_rfl))⟩
  f50 := ⟨Tryd.f68.name, by decide, Tryd.func68.trans (congrArg some (by kernel_rfl))⟩
  f57 := ⟨Tryd.f73.name, by decide, Tryd.func73.trans (congrArg some (by kernel_rfl))⟩
  t0 := Tryd.underlying0
  a0 := Tryd.isAgg0
  z0 := Tryd.sizeOf0
  v0 := Tryd.zeroValue0
  t3 := Tryd.underlying3
  a3 := Tryd.isAgg3
  z3 := Tryd.sizeOf3
  v3 := Tryd.zeroValue3
  t4 := Tryd.underlying4
  a4 := Tryd.isAgg4
  z4 := Tryd.sizeOf4
  v4 := Tryd.zeroValue4
  t5 := Tryd.underlying5
  a5 := Tryd.isAgg5
  z5 := Tryd.sizeOf5
  v5 := Tryd.zeroValue5
  t9 := Tryd.underlying9
  a9 := Tryd.isAgg9
  z9 := Tryd.sizeOf9
  v9 := Tryd.zeroValue9
  t22 := Tryd.underlying61
  a22 := Tryd.isAgg61
  z22 := Tryd.sizeOf61
  v22 := Tryd.zeroValue61
  t25 := Tryd.underlying69
  a25 := Tryd.isAgg69
  z25 := Tryd.sizeOf69
  v25 := Tryd.zeroValue69
  t39 := Tryd.underlying87
  a39 := Tryd.isAgg87
  z39 := Tryd.sizeOf87
  v39 := Tryd.zeroValue87
  t45 := Tryd.underlying102
  a45 := Tryd.isAgg102
  z45 := Tryd.sizeOf102
  v45 := Tryd.zeroValue102
  t46 := Tryd.underlying103
  a46 := Tryd.isAgg103
  z46 := Tryd.sizeOf103
  v46 := Tryd.zeroValue103
  t50 := Tryd.underlying96
  a50 := Tryd.isAgg96
  z50 := Tryd.sizeOf96
  v50 := Tryd.zeroValue96
  t53 := Tryd.underlying109
  a53 := Tryd.isAgg109
  z53 := Tryd.sizeOf109
  v53 := Tryd.zeroValue109
  t55 := Tryd.underlying39
  a55 := Tryd.isAgg39
  z55 := Tryd.sizeOf39
  v55 := Tryd.zeroValue39
  t66 := Tryd.underlying115
  a66 := Tryd.isAgg115
  z66 := Tryd.sizeOf115
  v66 := Tryd.zeroValue115
  t70 := Tryd.underlying118
  a70 := Tryd.isAgg118
  z70 := Tryd.sizeOf118
  v70 := Tryd.zeroValue118
  t76 := Tryd.underlying124
  a76 := Tryd.isAgg124
  z76 := Tryd.sizeOf124
  v76 := Tryd.zeroValue124
  t77 := Tryd.underlying125
  a77 := Tryd.isAgg125
  z77 := Tryd.sizeOf125
  v77 := Tryd.zeroValue125 }
end Go.Proofs
set_option linter.unusedVariables false
set_option linter.unusedSimpArgs false
namespace Go.Proofs.YtbcmmmcbineipaaDoor
open Go.RowKit Go.Proofs.YtbcmmmcbineipaaDoorW.PrintWords Go.Proofs.YtbcmmmcbineipaaDoorW.PrintLast Go.Proofs.YtbcmmmcbineipaaDoorW.PrintMore
open Go.Proofs.YtbcmmmcbineipaaDoor.PR
theorem itoa_small (i : Nat) (hi : i < 100) (w : World) :
    Calls Tryd.prog 34 #[.int .i64 i] w fun e w' => e = .returned (.string ⟨(Lib.decDigits i).toArray⟩) ∧ w' = w := Any.strconv_Itoa_small Tryd.lays171 i hi w
theorem digits_calls (i : Nat) (hi : i < 100) (w : World) :
    Calls Tryd.prog 24 #[.int .i64 i] w fun e w' => e = .returned (.string ⟨(Lib.decDigits i).toArray⟩) ∧ w' = w := by
  have HI := Lib.hid (itoa_small i hi w)
  obtain ⟨d, Hd⟩ : ∃ d : ByteArray, Hid (d = ⟨(Lib.decDigits i).toArray⟩) := ⟨_, rfl⟩
  rw [← Hd.out] at HI ⊢
  have hm : max (0 : Int) i = i := by omega
  go_enter Tryd.func24, Tryd.ntmps24
  go_wp2_with (go_at_call 34; refine HI.out.mono ?_; rintro e w' ⟨rfl, rfl⟩)
  go_ret
  exact ⟨rfl, rfl⟩
end Go.Proofs.YtbcmmmcbineipaaDoor
set_option linter.unusedVariables false
set_option linter.unusedSimpArgs false
namespace Go.Proofs.YtbcmmmcbineipaaDoor
open Go.RowKit Go.Shelf Go.Lib Go.Sort
open Go.Proofs.YtbcmmmcbineipaaDoorW.PrintWords Go.Proofs.YtbcmmmcbineipaaDoorW.PrintLast Go.Proofs.YtbcmmmcbineipaaDoorW.PrintMore
open Go.Proofs.YtbcmmmcbineipaaDoor.PR
instance : Inhabited S67 := ⟨⟨0, ByteArray.empty⟩⟩
/-- One point lies ahead of another. -/
def ltP (x y : S67) : Prop := x.f0 < y.f0 ∨ (x.f0 = y.f0 ∧ x.f1.data.toList < y.f1.data.toList)
instance (x y : S67) : Decidable (ltP x y) := inferInstanceAs (Decidable (_ ∨ _))
theorem cmpS_eq (x y : ByteArray) : cmpS x y = if x.data.toList < y.data.toList then -1 else if x.data.toList = y.data.toList then 0 else 1 := by
  unfold cmpS
  rw [bytesLess_eq, Lib.toList_data, Lib.toList_data]
  simp
theorem cmpI_eq0 (a b : Int) : cmpI a b = 0 ↔ a = b := by
  unfold cmpI
  by_cases h : a < b
  · simp [h]; omega
  · by_cases h2 : b < a
    · simp [h, h2]; omega
    · simp [h, h2]; omega
theorem cmpP_lt (x y : S67) : cmpP x y < 0 ↔ ltP x y := by
  unfold ltP cmpP cmpOr
  by_cases h : x.f0 = y.f0
  · rw [if_pos ((cmpI_eq0 _ _).2 h), cmpS_eq]
    by_cases h2 : x.f1.data.toList < y.f1.data.toList
    · rw [if_pos h2]
      exact ⟨fun _ => .inr ⟨h, h2⟩, fun _ => by omega⟩
    · have hno : ¬ (x.f0 < y.f0 ∨ x.f0 = y.f0 ∧ x.f1.data.toList < y.f1.data.toList) := by
        rintro (h4 | ⟨_, h4⟩)
        · omega
        · exact absurd h4 h2
      rw [if_neg h2]
      by_cases h3 : x.f1.data.toList = y.f1.data.toList
      · rw [if_pos h3]
        exact ⟨fun h4 => absurd h4 (by omega), fun h4 => absurd h4 hno⟩
      · rw [if_neg h3]
        exact ⟨fun h4 => absurd h4 (by omega), fun h4 => absurd h4 hno⟩
  · rw [if_neg (fun e => h ((cmpI_eq0 _ _).1 e))]
    unfold cmpI
    by_cases h2 : x.f0 < y.f0
    · rw [if_pos h2]
      exact ⟨fun _ => .inl h2, fun _ => by omega⟩
    · have h3 : y.f0 < x.f0 := by omega
      rw [if_neg h2, if_pos h3]
      exact ⟨fun h4 => absurd h4 (by omega), fun h4 => by
        rcases h4 with h4 | ⟨h4, _⟩
        · exact absurd h4 h2
        · exact absurd h4 h⟩
theorem ltOf_cmpP (x y : S67) : ltOf cmpP x y = decide (ltP x y) := decide_eq_decide.2 (cmpP_lt x y)
theorem ltP_irrefl (x : S67) : ¬ ltP x x := by
  rintro (h | ⟨_, h⟩)
  · omega
  · exact List.lt_irrefl _ h
theorem ltP_trans {x y z : S67} (h1 : ltP x y) (h2 : ltP y z) : ltP x z := by
  rcases h1 with h1 | ⟨h1, h1'⟩ <;> rcases h2 with h2 | ⟨h2, h2'⟩
  · exact .inl (by omega)
  · exact .inl (by omega)
  · exact .inl (by omega)
  · exact .inr ⟨by omega, List.lt_trans h1' h2'⟩
theorem ltP_tri (x y : S67) : ltP x y ∨ x = y ∨ ltP y x := by
  by_cases h : x.f0 < y.f0
  · exact .inl (.inl h)
  · by_cases h2 : y.f0 < x.f0
    · exact .inr (.inr (.inl h2))
    · have he : x.f0 = y.f0 := by omega
      by_cases h3 : x.f1.data.toList < y.f1.data.toList
      · exact .inl (.inr ⟨he, h3⟩)
      · by_cases h4 : y.f1.data.toList < x.f1.data.toList
        · exact .inr (.inr (.inr ⟨he.symm, h4⟩))
        · refine .inr (.inl ?_)
          have h5 : x.f1.data.toList = y.f1.data.toList := List.le_antisymm (List.not_lt.1 h4) (List.not_lt.1 h3)
          obtain ⟨a, ⟨⟨s⟩⟩⟩ := x
          obtain ⟨b, ⟨⟨t⟩⟩⟩ := y
          simp only at he h5
          subst he
          subst h5
          rfl
theorem swoP : SWO (ltOf cmpP) where
  irrefl x := by rw [ltOf_cmpP]; simpa using ltP_irrefl x
  trans x y z h1 h2 := by
    rw [ltOf_cmpP, decide_eq_true_iff] at *
    exact ltP_trans h1 h2
  ntrans x y z h1 h2 := by
    rw [ltOf_cmpP, decide_eq_false_iff_not] at *
    intro h3
    rcases ltP_tri x y with h | rfl | h
    · exact h1 h
    · exact h2 h3
    · rcases ltP_tri y z with k | rfl | k
      · exact h2 k
      · exact h1 h3
      · exact ltP_irrefl _ (ltP_trans h3 (ltP_trans k h))
theorem totP (x y : S67) (h1 : ltOf cmpP x y = false) (h2 : ltOf cmpP y x = false) : x = y := by
  rw [ltOf_cmpP, decide_eq_false_iff_not] at h1 h2
  rcases ltP_tri x y with h | h | h
  · exact absurd h h1
  · exact h
  · exact absurd h h2
/-- The points in their order. -/
def ptSort (l : List S67) : List S67 := l.mergeSort fun x y => !(ltOf cmpP) y x
set_option maxRecDepth 100000 in
theorem sort_calls (blk off c : Nat) (l : List S67) (w : World) (hH : HoldsK encPt 2 w blk off l.toArray) (hblk : blk < w.heap.size) (hsz : l.length < 4611686018427387904) :
    Calls Tryd.prog 25 #[.slice (some ⟨blk, off, none⟩) l.length c, .func (.func 26) #[] #[]] w fun e w' => e = .returned (.tuple #[]) ∧ ∃ n os, w' = sortWorldK encPt 2 w blk off n (ptSort l).toArray os := by
  have eg : ∀ args w, (callFunc 26 args).run Tryd.prog w = .ok (.enter 26 args) w := enters_of Tryd.func26 (by kernel_rfl) rfl
  have h := AnyQ.slices_SortFunc_total Tryd.sortPt 2 Tryd.isAgg67 Tryd.sizeOf67 encPt (fun _ => rfl) (fun x v hv => by simp [encPt] at hv; rcases hv with rfl | rfl <;> rfl) cmpP swoP 26 #[] blk off c l.toArray w eg (fun _ _ _ _ x y => cmpP_calls x y _) hH hblk (by simpa using hsz) totP
  exact h
theorem sort_none (p : Option Addr) (c : Nat) (fv : Value) (w : World) : Calls Tryd.prog 25 #[.slice p 0 c, fv] w fun e w' => e = .returned (.tuple #[]) ∧ w' = w :=
  AnyF.slices_SortFunc_none Tryd.sortPt p c fv w
end Go.Proofs.YtbcmmmcbineipaaDoor
set_option linter.unusedVariables false
set_option linter.unusedSimpArgs false
namespace Go.Proofs.YtbcmmmcbineipaaDoor
open Go.RowKit Go.Proofs.YtbcmmmcbineipaaDoorW.PrintWords Go.Proofs.YtbcmmmcbineipaaDoorW.PrintLast Go.Proofs.YtbcmmmcbineipaaDoorW.PrintMore
open Go.Proofs.YtbcmmmcbineipaaDoor.PR

theorem cmp1 (a x : Int) : cmpOr (cmpI a x) 1 = if a < x then -1 else 1 := by
  unfold cmpOr cmpI
  by_cases h : a < x
  · simp [h]
  · by_cases h2 : x < a
    · simp [h, h2]
    · simp [h, h2]
theorem pt_at {w : World} {A : Option Addr} {l : List S67} (h : Kd.C k67 w A l.length l) (k : Nat) (hk : k < l.length) : ∃ ad, A = some ad ∧ w.cell? (ad.add (k * 2)) = some (.int .u64 l[k].f0) ∧ w.cell? ⟨(ad.add (k * 2)).block, (ad.add (k * 2)).off + 1, none⟩ = some (.string l[k].f1) := by
  obtain ⟨ad, rfl, hc0, hc1⟩ := at_T67 h (k : Int) (by omega) (by omega)
  have ex : rd_T67 l (k : Int) = l[k] := by simp [rd_T67, List.getD_eq_getElem?_getD, List.getElem?_eq_getElem hk]
  rw [ex] at hc0 hc1
  simp only [Int.toNat_natCast] at hc0 hc1
  exact ⟨ad, rfl, hc0, hc1⟩

set_option maxHeartbeats 400000 in
set_option maxRecDepth 100000 in
theorem bs_calls (A : Option Addr) (c : Nat) (l : List S67) (x : Int) (w0 : World) (hr : Kd.C k67 w0 A l.length l) (hc : l.length ≤ c) (hl : l.length ≤ 1000000) (hso : ∀ (a b : Nat) (ha : a ≤ b) (hb : b < l.length), l[a].f0 ≤ l[b].f0) :
    Calls Tryd.prog 44 #[.slice A l.length c, .int .u64 x, .func (.func 45) #[] #[]] w0 fun e w' => (∃ k : Nat, e = .returned (.tuple #[.int .i64 k, .bool false]) ∧ k ≤ l.length ∧ (∀ (q : Nat) (hq : q < l.length), q < k → l[q].f0 < x) ∧ (∀ (q : Nat) (hq : q < l.length), k ≤ q → x ≤ l[q].f0)) ∧ Below w0.heap.size w0 w' := by
  have HR := Lib.hid hr
  have HO := Lib.hid hso
  clear hr hso
  go_enter Tryd.func44, Tryd.ntmps44
  go_wp2_with fail
  go_loopw [9, 10] (fun i j wr => ∃ a b : Nat, a ≤ b ∧ b ≤ l.length ∧ i = .int .i64 a ∧ j = .int .i64 b ∧ Hid (∀ (q : Nat) (hq : q < l.length), q < a → l[q].f0 < x) ∧ Hid (∀ (q : Nat) (hq : q < l.length), b ≤ q → x ≤ l[q].f0) ∧ Hid (Below w0.heap.size w0 wr)) (fun i j _ => (intOf j).toNat - (intOf i).toNat)
  case atStart => exact ⟨0, l.length, by omega, by omega, rfl, rfl, (fun q hq h => absurd h (by omega)), (fun q hq h => absurd h (by omega)), Below.refl _ _⟩
  case round =>
    obtain ⟨a, b, hab, hb, rfl, rfl, HA, HZ, HB⟩ := hrel
    by_cases hlt : a < b
    · obtain ⟨ad, rfl, hc0, hc1⟩ := pt_at (Kd.C_below HR.out HB.out) ((a + b) / 2) (by omega)
      obtain ⟨p, Hp⟩ : ∃ p : S67, Hid (p = l[(a + b) / 2]) := ⟨l[(a + b) / 2], rfl⟩
      rw [← Hp.out] at hc0 hc1
      have hcall := fun w => from1_calls p x w
      have hsz0 := HB.out.size
      by_cases hp : p.f0 < x
      · rw [cmp1, if_pos hp] at hcall
        have HC := Lib.hid hcall
        clear hcall
        go_wp2_with fail
        refine (HC.out _).mono ?_
        rintro e w3 ⟨rfl, hb3⟩
        have HB3 := Lib.hid (HB.out.trans (hb3.mono hsz0))
        clear hb3 HC hc0 hc1
        go_wp2
        go_roundw
        case rel =>
          refine ⟨(a + b) / 2 + 1, b, by omega, hb, by go_num, rfl, fun q hq hqa => ?_, HZ, HB3⟩
          have := HO.out q ((a + b) / 2) (by omega) (by omega)
          rw [← Hp.out] at this
          omega
        case measure => simp [intOf]; omega
      · rw [cmp1, if_neg hp] at hcall
        have HC := Lib.hid hcall
        clear hcall
        go_wp2_with fail
        refine (HC.out _).mono ?_
        rintro e w3 ⟨rfl, hb3⟩
        have HB3 := Lib.hid (HB.out.trans (hb3.mono hsz0))
        clear hb3 HC hc0 hc1
        go_wp2
        go_roundw
        case rel =>
          refine ⟨a, (a + b) / 2, by omega, by omega, rfl, by go_num, HA, fun q hq hqa => ?_, HB3⟩
          have := HO.out ((a + b) / 2) q hqa hq
          rw [← Hp.out] at this
          omega
        case measure => simp [intOf]; omega
    · obtain rfl : a = b := by omega
      by_cases hend : a < l.length
      · obtain ⟨ad, rfl, hc0, hc1⟩ := pt_at (Kd.C_below HR.out HB.out) a (by omega)
        obtain ⟨p, Hp⟩ : ∃ p : S67, Hid (p = l[a]) := ⟨l[a], rfl⟩
        rw [← Hp.out] at hc0 hc1
        obtain ⟨r, hr0, hcall⟩ : ∃ r : Int, (r == 0) = false ∧ ∀ w, Calls Tryd.prog 45 #[.agg #[.int .u64 p.f0, .string p.f1], .int .u64 x] w fun e w' => e = .returned (.int .i64 r) ∧ Below w.heap.size w w' := by
          refine ⟨cmpOr (cmpI p.f0 x) 1, ?_, fun w => from1_calls p x w⟩
          rw [cmp1]
          by_cases hp : p.f0 < x <;> simp [hp]
        have HC := Lib.hid hcall
        clear hcall
        have hd : decide ((a : Int) < l.length) = true := decide_eq_true (by omega)
        go_wp2_with fail
        refine (HC.out _).mono ?_
        rintro e w3 ⟨rfl, hb3⟩
        have HB3 := Lib.hid (HB.out.trans (hb3.mono HB.out.size))
        clear hb3 HC hc0 hc1
        go_wp2
        go_ret2
        exact ⟨⟨a, rfl, by omega, HA.out, HZ.out⟩, HB3.out⟩
      · have hd : decide ((a : Int) < l.length) = false := decide_eq_false (by omega)
        go_wp2_with fail
        go_ret2
        exact ⟨⟨a, rfl, by omega, HA.out, HZ.out⟩, HB.out⟩
end Go.Proofs.YtbcmmmcbineipaaDoor
set_option linter.unusedVariables false
set_option linter.unusedSimpArgs false
namespace Go.Proofs.YtbcmmmcbineipaaDoor
open Go.RowKit Go.Proofs.YtbcmmmcbineipaaDoorW.PrintWords Go.Proofs.YtbcmmmcbineipaaDoorW.PrintLast Go.Proofs.YtbcmmmcbineipaaDoorW.PrintMore
open Go.Proofs.YtbcmmmcbineipaaDoor.PR

/-- The least place of a number or more. -/
def lowb (l : List S67) (x : Int) : Nat := (l.takeWhile fun p => decide (p.f0 < x)).length
theorem lowb_of (l : List S67) (x : Int) (k : Nat) (hk : k ≤ l.length) (h1 : ∀ (q : Nat) (hq : q < l.length), q < k → l[q].f0 < x) (h2 : ∀ (q : Nat) (hq : q < l.length), k ≤ q → x ≤ l[q].f0) : lowb l x = k := by
  induction l generalizing k with
  | nil => simp at hk; simp [lowb, hk]
  | cons p l ih =>
    cases k with
    | zero =>
      have := h2 0 (by simp) (by omega)
      simp only [List.getElem_cons_zero] at this
      simp [lowb, List.takeWhile_cons, show ¬ (p.f0 < x) by omega]
    | succ k =>
      have := h1 0 (by simp) (by omega)
      simp only [List.getElem_cons_zero] at this
      have hi := ih k (by simpa using hk) (fun q hq hqk => by have := h1 (q + 1) (by simpa using hq) (by omega); simpa using this) (fun q hq hqk => by have := h2 (q + 1) (by simpa using hq) (by omega); simpa using this)
      unfold lowb at hi ⊢
      rw [List.takeWhile_cons, if_pos (by simpa using this), List.length_cons, hi]
def frm (l : List S67) (x : Int) : Nat := if lowb l x = l.length then 0 else lowb l x
theorem frm_le (l : List S67) (x : Int) : frm l x ≤ l.length := by
  unfold frm lowb
  split
  · omega
  · exact (List.takeWhile_prefix _).length_le
/-- A ring, read. -/
def RingAt (w : World) (g : Nat) (l : List S67) : Prop := ∃ (A : Option Addr) (c : Nat), w.heap[g]? = some (.cells #[.slice A l.length c] 63 (0, 0)) ∧ Kd.C k67 w A l.length l ∧ l.length ≤ c ∧ l.length ≤ 1000000
theorem RingAt.below {w w' : World} {g : Nat} {l : List S67} (h : RingAt w g l) (hb : Below w.heap.size w w') : RingAt w' g l := by
  obtain ⟨A, c, h1, h2, h3, h4⟩ := h
  exact ⟨A, c, blk_below h1 hb, Kd.C_below h2 hb, h3, h4⟩
set_option maxHeartbeats 400000 in
set_option maxRecDepth 100000 in
theorem from_calls (g : Nat) (l : List S67) (x : Int) (w0 : World) (hr : RingAt w0 g l) (hso : ∀ (a b : Nat) (ha : a ≤ b) (hb : b < l.length), l[a].f0 ≤ l[b].f0) :
    Calls Tryd.prog 30 #[.pointer (some ⟨g, 0, none⟩), .int .u64 x] w0 fun e w' => e = .returned (.int .i64 (frm l x)) ∧ Below w0.heap.size w0 w' := by
  obtain ⟨A, c, hg, hC, hc, hl⟩ := hr
  have HG := Lib.hid hg
  have HC := Lib.hid hC
  have HO := Lib.hid hso
  have cg := blk_cell hg 0
  simp only [List.getElem?_toArray, List.getElem?_cons_zero] at cg
  clear hg hC hso
  go_enter Tryd.func30, Tryd.ntmps30
  go_wp2_with fail
  refine (bs_calls A c l x _ HC.out hc hl HO.out).mono ?_
  rintro e w1 ⟨⟨k, rfl, hk, h1, h2⟩, hb⟩
  have hlo := lowb_of l x k hk h1 h2
  have HB := Lib.hid hb
  have HG1 := blk_below HG.out hb
  have cg1 := blk_cell HG1 0
  simp only [List.getElem?_toArray, List.getElem?_cons_zero] at cg1
  clear cg hb h1 h2
  by_cases he : k = l.length
  · have E : Hid (((frm l x : Nat) : Int) = 0) := by
      show _ = _
      rw [frm, if_pos (by omega)]; rfl
    have hd : ((k : Int) == l.length) = true := by simp; omega
    go_wp2_with fail
    go_ret
    exact ⟨by rw [E.out]; rfl, HB.out⟩
  · have E : Hid (((frm l x : Nat) : Int) = k) := by
      show _ = _
      rw [frm, if_neg (by omega), hlo]
    have hd : ((k : Int) == l.length) = false := by simp; omega
    go_wp2_with fail
    go_ret
    exact ⟨by rw [E.out]; rfl, HB.out⟩
end Go.Proofs.YtbcmmmcbineipaaDoor
