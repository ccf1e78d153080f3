/- The reference's sum: the rounds. -/
import Derived.Test.YtbcmmmcbineipaaDoorMa
set_option linter.unusedVariables false
set_option linter.unusedSimpArgs false
namespace Go.Proofs.YtbcmmmcbineipaaDoor
open Go.RowKit Go.Proofs.YtbcmmmcbineipaaDoorW.PrintWords Go.Proofs.YtbcmmmcbineipaaDoorW.PrintLast Go.Proofs.YtbcmmmcbineipaaDoorW.PrintMore
open Go.Proofs.YtbcmmmcbineipaaDoor.PR

theorem turn_below (x n p q : Int) (w : World) (hn0 : 0 ≤ n) (hn : n ≤ 63) (hp : (2 : Int) ^ n.toNat = p) (hq : (2 : Int) ^ (64 - n).toNat = q) :
    Calls Tryd.prog 61 #[.int .u64 x, .int .i64 n] w fun e w' => e = .returned (.int .u64 (rot x p q)) ∧ Below w.heap.size w w' := by
  have e1 : wrap64 (64 - n) = 64 - n := by unfold wrap64; omega
  have hb : IntKind.u64.bits = 64 := rfl
  have h : stewardref01_turn.f x n = some (rot x p q) := by
    unfold stewardref01_turn.f rot shl shr
    rw [if_pos hn0, e1, if_pos (by omega), hb, Nat.min_eq_left (by omega), Nat.min_eq_left (by omega), hp, hq]
  refine (stewardref01_turn.calls x n _ w h).mono ?_
  rintro e w' ⟨rfl, ⟨m, rfl⟩⟩
  exact ⟨rfl, pw_below_drewN (Below.refl _ _) m⟩
def sips (s : Sip) : Array Value := #[.int .u64 s.a, .int .u64 s.b, .int .u64 s.c, .int .u64 s.d]
set_option maxHeartbeats 1000000 in
set_option maxRecDepth 100000 in
theorem rround_calls (s : Sip) (w0 : World) :
    Calls Tryd.prog 42 #[.agg (sips s)] w0 fun e w' => e = .returned (.agg (sips (sround s))) ∧ Below w0.heap.size w0 w' := by
  obtain ⟨a, b, c, d⟩ := s
  show Calls Tryd.prog 42 #[.agg #[.int .u64 a, .int .u64 b, .int .u64 c, .int .u64 d]] w0 _
  go_enter Tryd.func42, Tryd.ntmps42
  go_wp2_with fail
  have hbx := blk_new w0 (.cells #[.int .u64 a, .int .u64 b, .int .u64 c, .int .u64 d] 92)
  have hB1 := below_alloc (Below.refl w0.heap.size w0) (.cells #[.int .u64 a, .int .u64 b, .int .u64 c, .int .u64 d] 92)
  have hsz : (w0.alloc (.cells #[.int .u64 a, .int .u64 b, .int .u64 c, .int .u64 d] 92)).heap.size = w0.heap.size + 1 := World.size_alloc _ _
  generalize (w0.alloc (.cells #[.int .u64 a, .int .u64 b, .int .u64 c, .int .u64 d] 92)) = wa at hbx hB1 hsz ⊢
  have hrs := blk_new wa (.cells #[.int .u64 0, .int .u64 0, .int .u64 0, .int .u64 0] 92)
  have hbx1 := blk_below hbx (below_alloc (Below.refl wa.heap.size wa) (.cells #[.int .u64 0, .int .u64 0, .int .u64 0, .int .u64 0] 92))
  have hB2 := below_alloc hB1 (.cells #[.int .u64 0, .int .u64 0, .int .u64 0, .int .u64 0] 92)
  rw [hsz] at hrs
  generalize (wa.alloc (.cells #[.int .u64 0, .int .u64 0, .int .u64 0, .int .u64 0] 92)) = w1 at hbx1 hB2 hrs ⊢
  have c0 := blk_cell hbx1 0
  have c1 := blk_cell hbx1 1
  have c2 := blk_cell hbx1 2
  have c3 := blk_cell hbx1 3
  simp only [List.getElem?_toArray, List.getElem?_cons_zero, List.getElem?_cons_succ] at c0 c1 c2 c3
  have HB0 := Lib.hid hB2
  have HR0 := Lib.hid hrs
  clear hbx hB1 hsz hrs hbx1 hB2
  go_quiet (fail)
  have HB1 := Lib.hid (pw_below_drewN HB0.out nq)
  have HR1 := Lib.hid (blk_below HR0.out (pw_below_drewN (Below.refl _ _) nq))
  clear HB0 HR0 c0 c1 c2 c3
  generalize w1.drewN nq = w1' at HB1 HR1 ⊢
  go_wp2_with fail
  refine (turn_below _ _ 8192 2251799813685248 _ (by omega) (by omega) (by decide) (by decide)).mono ?_
  rintro e w2 ⟨rfl, hb⟩
  have HB2 : Hid (Below w0.heap.size w0 w2) := HB1.out.trans (hb.mono HB1.out.size)
  have HR2 := Lib.hid (blk_below HR1.out hb)
  clear hb HB1 HR1
  go_wp2_with fail
  refine (turn_below _ _ 4294967296 4294967296 _ (by omega) (by omega) (by decide) (by decide)).mono ?_
  rintro e w3 ⟨rfl, hb⟩
  have HB3 : Hid (Below w0.heap.size w0 w3) := HB2.out.trans (hb.mono HB2.out.size)
  have HR3 := Lib.hid (blk_below HR2.out hb)
  clear hb HB2 HR2
  go_wp2_with fail
  refine (turn_below _ _ 65536 281474976710656 _ (by omega) (by omega) (by decide) (by decide)).mono ?_
  rintro e w4 ⟨rfl, hb⟩
  have HB4 : Hid (Below w0.heap.size w0 w4) := HB3.out.trans (hb.mono HB3.out.size)
  have HR4 := Lib.hid (blk_below HR3.out hb)
  clear hb HB3 HR3
  go_wp2_with fail
  refine (turn_below _ _ 2097152 8796093022208 _ (by omega) (by omega) (by decide) (by decide)).mono ?_
  rintro e w5 ⟨rfl, hb⟩
  have HB5 : Hid (Below w0.heap.size w0 w5) := HB4.out.trans (hb.mono HB4.out.size)
  have HR5 := Lib.hid (blk_below HR4.out hb)
  clear hb HB4 HR4
  go_wp2_with fail
  refine (turn_below _ _ 131072 140737488355328 _ (by omega) (by omega) (by decide) (by decide)).mono ?_
  rintro e w6 ⟨rfl, hb⟩
  have HB6 : Hid (Below w0.heap.size w0 w6) := HB5.out.trans (hb.mono HB5.out.size)
  have HR6 := Lib.hid (blk_below HR5.out hb)
  clear hb HB5 HR5
  go_wp2_with fail
  refine (turn_below _ _ 4294967296 4294967296 _ (by omega) (by omega) (by decide) (by decide)).mono ?_
  rintro e w7 ⟨rfl, hb⟩
  have HB7 : Hid (Below w0.heap.size w0 w7) := HB6.out.trans (hb.mono HB6.out.size)
  have HR7 := Lib.hid (blk_below HR6.out hb)
  clear hb HB6 HR6
  have r0 := blk_cell HR7.out 0
  have r1 := blk_cell HR7.out 1
  have r2 := blk_cell HR7.out 2
  have r3 := blk_cell HR7.out 3
  simp only [List.getElem?_toArray, List.getElem?_cons_zero, List.getElem?_cons_succ] at r0 r1 r2 r3
  have f0 := fz_of (i := 0) HR7
  have f1 := fz_of (i := 1) HR7
  have f2 := fz_of (i := 2) HR7
  have f3 := fz_of (i := 3) HR7
  go_wp2_with fail
  refine bodyPost_ret (v := .agg (sips (sround ⟨a, b, c, d⟩))) (by simp [results, Tryd.results42, go_sem, sips, sround, r0, r1, r2, r3]) rfl ⟨rfl, ?_⟩
  exact (((HB7.out.setCell (Nat.le_succ _) _).setCell (Nat.le_succ _) _).setCell (Nat.le_succ _) _).setCell (Nat.le_succ _) _
/-- Four words in a block, known whole. -/
theorem sips_cell {w : World} {g t : Nat} {s : Sip} (h : w.heap[g]? = some (.cells (sips s) t (0, 0))) :
    w.cell? ⟨g, 0, none⟩ = some (.int .u64 s.a) ∧ w.cell? ⟨g, 1, none⟩ = some (.int .u64 s.b) ∧ w.cell? ⟨g, 2, none⟩ = some (.int .u64 s.c) ∧ w.cell? ⟨g, 3, none⟩ = some (.int .u64 s.d) :=
  ⟨cell_of_row w g 0 _ _ _ h, cell_of_row w g 1 _ _ _ h, cell_of_row w g 2 _ _ _ h, cell_of_row w g 3 _ _ _ h⟩
theorem sips_set4 {w : World} {g t : Nat} {s : Sip} (u : Sip) (h : Hid (w.heap[g]? = some (.cells (sips s) t (0, 0)))) :
    Hid (((((w.setCell ⟨g, 0, none⟩ (.int .u64 u.a)).setCell ⟨g, 1, none⟩ (.int .u64 u.b)).setCell ⟨g, 2, none⟩ (.int .u64 u.c)).setCell ⟨g, 3, none⟩ (.int .u64 u.d)).heap[g]? = some (.cells (sips u) t (0, 0))) :=
  st_blk (st_blk (st_blk (st_blk h 0) 1) 2) 3
set_option maxHeartbeats 1000000 in
set_option maxRecDepth 100000 in
theorem rtake_calls (s : Sip) (m : Int) (w0 : World) :
    Calls Tryd.prog 41 #[.agg (sips s), .int .u64 m] w0 fun e w' => e = .returned (.agg (sips (stake s m))) ∧ Below w0.heap.size w0 w' := by
  obtain ⟨a, b, c, d⟩ := s
  show Calls Tryd.prog 41 #[.agg #[.int .u64 a, .int .u64 b, .int .u64 c, .int .u64 d], .int .u64 m] w0 _
  go_enter Tryd.func41, Tryd.ntmps41
  go_wp2_with fail
  obtain ⟨s1, Hs1⟩ : ∃ s1 : Sip, Hid (s1 = ⟨a, b, c, Go.bits .xor .u64 d m⟩) := ⟨_, rfl⟩
  have hs1 : (#[.int .u64 a, .int .u64 b, .int .u64 c, .int .u64 (Go.bits .xor .u64 d m)] : Array Value) = sips s1 := by rw [Hs1.out]; rfl
  rw [hs1]
  have hbx := blk_new w0 (.cells (sips s1) 92)
  have hB1 := below_alloc (Below.refl w0.heap.size w0) (.cells (sips s1) 92)
  have hsz : (w0.alloc (.cells (sips s1) 92)).heap.size = w0.heap.size + 1 := World.size_alloc _ _
  generalize (w0.alloc (.cells (sips s1) 92)) = wa at hbx hB1 hsz ⊢
  have hrs := blk_new wa (.cells #[.int .u64 0, .int .u64 0, .int .u64 0, .int .u64 0] 92)
  have hbx1 := blk_below hbx (below_alloc (Below.refl wa.heap.size wa) (.cells #[.int .u64 0, .int .u64 0, .int .u64 0, .int .u64 0] 92))
  have hB2 := below_alloc hB1 (.cells #[.int .u64 0, .int .u64 0, .int .u64 0, .int .u64 0] 92)
  rw [hsz] at hrs
  generalize (wa.alloc (.cells #[.int .u64 0, .int .u64 0, .int .u64 0, .int .u64 0] 92)) = w1 at hbx1 hB2 hrs ⊢
  have HX1 : Hid (w1.heap[w0.heap.size]? = some (.cells (sips s1) 92 (0, 0))) := hbx1
  have HZ1 : Hid (w1.heap[w0.heap.size + 1]? = some (.cells (sips ⟨0, 0, 0, 0⟩) 92 (0, 0))) := hrs
  have HB1 := Lib.hid hB2
  clear hbx hB1 hsz hrs hbx1 hB2 hs1
  refine (rround_calls s1 _).mono ?_
  rintro e w2 ⟨rfl, hb⟩
  have HB2 : Hid (Below w0.heap.size w0 w2) := HB1.out.trans (hb.mono HB1.out.size)
  have HX2 := Lib.hid (blk_below HX1.out hb)
  have HZ2 := Lib.hid (blk_below HZ1.out hb)
  clear hb HB1 HX1 HZ1
  obtain ⟨s2, Hs2⟩ : ∃ s2 : Sip, Hid (s2 = sround s1) := ⟨_, rfl⟩
  rw [← Hs2.out]
  go_wp2_with fail
  refine (rround_calls s2 _).mono ?_
  rintro e w3 ⟨rfl, hb⟩
  have HB3 : Hid (Below w0.heap.size w0 w3) := HB2.out.trans (hb.mono HB2.out.size)
  have HX3 := Lib.hid (blk_below HX2.out hb)
  have HZ3 := Lib.hid (blk_below HZ2.out hb)
  clear hb HB2 HX2 HZ2
  obtain ⟨⟨a3, b3, c3, d3⟩, Hs3⟩ : ∃ s3 : Sip, Hid (s3 = sround s2) := ⟨_, rfl⟩
  rw [← Hs3.out]
  simp only [sips]
  obtain ⟨r0, r1, r2, r3⟩ := sips_cell HX3.out
  obtain ⟨q0, q1, q2, q3⟩ := sips_cell HZ3.out
  have f0 := fz_of (i := 0) HX3
  have f1 := fz_of (i := 1) HX3
  have f2 := fz_of (i := 2) HX3
  have f3 := fz_of (i := 3) HX3
  have g0 := fz_of (i := 0) HZ3
  have g1 := fz_of (i := 1) HZ3
  have g2 := fz_of (i := 2) HZ3
  have g3 := fz_of (i := 3) HZ3
  have HS : Hid (stake ⟨a, b, c, d⟩ m = ⟨Go.bits .xor .u64 a3 m, b3, c3, d3⟩) := by
    have e : sround (sround ⟨a, b, c, Go.bits .xor .u64 d m⟩) = ⟨a3, b3, c3, d3⟩ := by rw [Hs3.out, Hs2.out, Hs1.out]
    show _ = _
    unfold stake srounds srounds srounds
    simp only [e]
  go_wp2_with fail
  refine bodyPost_ret (v := .agg (sips ⟨Go.bits .xor .u64 a3 m, b3, c3, d3⟩)) (by simp [results, Tryd.results41, go_sem, sips, q0, q1, q2, q3]) rfl ⟨by rw [HS.out], ?_⟩
  have e1 : w0.heap.size ≤ w0.heap.size + 1 := Nat.le_succ _
  have e0 : w0.heap.size ≤ w0.heap.size := Nat.le_refl _
  exact ((((((((HB3.out.setCell e0 _).setCell e0 _).setCell e0 _).setCell e0 _).setCell e0 _).setCell e1 _).setCell e1 _).setCell e1 _).setCell e1 _
end Go.Proofs.YtbcmmmcbineipaaDoor
