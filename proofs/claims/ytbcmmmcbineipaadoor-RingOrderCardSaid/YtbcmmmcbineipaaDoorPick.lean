/- Who answers. -/
import Derived.Test.YtbcmmmcbineipaaDoorRnd
set_option linter.unusedVariables false
set_option linter.unusedSimpArgs false
namespace Go.Proofs.YtbcmmmcbineipaaDoor
open Go.RowKit Go.Shelf Go.Proofs.YtbcmmmcbineipaaDoorW.PrintWords Go.Proofs.YtbcmmmcbineipaaDoorW.PrintLast Go.Proofs.YtbcmmmcbineipaaDoorW.PrintMore
open Go.Proofs.YtbcmmmcbineipaaDoor.PR
attribute [local go_sem] Oper.semAt_some

/-- The first name from a number on. -/
def pick (l : List S67) (x : Int) : ByteArray := ((rnd l (frm l x)).head?.map (·.f1)).getD ⟨#[]⟩

set_option maxRecDepth 100000 in
set_option maxHeartbeats 800000 in
theorem pick_calls (g : Nat) (l : List S67) (x : Int) (w0 : World) (hr : RingAt w0 g l) (hso : ∀ (a b : Nat) (ha : a ≤ b) (hb : b < l.length), l[a].f0 ≤ l[b].f0) :
    Calls Tryd.prog 17 #[.pointer (some ⟨g, 0, none⟩), .int .u64 x] w0 fun e w' => e = .returned (.string (pick l x)) ∧ Below w0.heap.size w0 w' := by
  have HR := Lib.hid hr
  have HO := Lib.hid hso
  clear hr hso
  refine (callsIn_wide (n := 8)).1 ?_
  refine callsIn_of_wp_marks Tryd.func17 rfl trivial ?_ rfl
  simp only [Tryd.ntmps17, List.size_toArray, List.length_cons, List.length_nil, Nat.reduceAdd, Nat.reduceSub, Array.replicate_succ, Array.replicate_zero, List.push_toArray, List.append_toArray, List.nil_append, List.cons_append]
  have hB1 := below_alloc (Below.refl w0.heap.size w0) (Obj.cells #[Value.string { data := #[] }] 9)
  have hR1 := HR.out.below hB1
  have b1 := Boxed.new w0 9 (.string { data := #[] })
  gi_wp2_with fail
  generalize hw1 : w0.alloc (Obj.cells #[Value.string { data := #[] }] 9) = w1 at hB1 hR1 b1 ⊢
  clear hw1
  refine ⟨trivial, CallsIn.mono (callsIn_wide.2 (from_calls g l x w1 hR1 HO.out)) ?_⟩
  rintro e w2 ⟨rfl, hb2⟩
  have hB2 := hB1.trans (hb2.mono hB1.size)
  have hR2 := hR1.below hb2
  have b2 : Boxed w2 w0.heap.size 9 (.string { data := #[] }) := blk_below b1 hb2
  clear hb2 hR1 b1 hB1
  obtain ⟨s, Hs⟩ : ∃ s : Nat, Hid (s = frm l x) := ⟨_, rfl⟩
  have hsl : s ≤ l.length := by rw [Hs.out]; exact frm_le l x
  rw [← Hs.out]
  gi_wp2_with fail
  refine ⟨trivial, CallsIn.mono (callsIn_wide.2 (round_calls g s w2)) ?_⟩
  rintro e w3 ⟨rfl, hw3⟩
  have bBr : Boxed w3 w2.heap.size 28 (.pointer (some ⟨g, 0, none⟩)) := by rw [hw3]; exact (Boxed.new w2 28 _).alloc _
  have bBa : Boxed w3 (w2.heap.size + 1) 3 (.int .i64 s) := by rw [hw3]; exact blk_next w2 _ _
  have b3 : Boxed w3 w0.heap.size 9 (.string { data := #[] }) := by rw [hw3]; exact (b2.alloc _).alloc _
  have hB23 : Below w2.heap.size w2 w3 := by rw [hw3]; exact below_alloc (below_alloc (Below.refl _ _) _) _
  have hR3 := hR2.below hB23
  have hB3 := hB2.trans (hB23.mono hB2.size)
  clear hw3 hR2 hB2 b2
  obtain ⟨A, c, hg3, hC3, hc3, hl3⟩ := hR3
  have HBr := Lib.hid bBr
  have HBa := Lib.hid bBa
  have HB3 := Lib.hid b3
  have HG3 := Lib.hid hg3
  have HC3 := Lib.hid hC3
  have HW3 := Lib.hid hB3
  have hlt0 := b3.lt
  clear bBr bBa b3 hg3 hC3 hB3
  gi_wp2_with fail
  refine wpIn_rangeFunc_ownH (F := Fence.wide) rfl (by decide) (gf := 43) (lb := #[.pointer (some ⟨w2.heap.size, 0, none⟩), .pointer (some ⟨w2.heap.size + 1, 0, none⟩)]) rfl trivial (enters_of Tryd.func43 (by kernel_rfl) rfl)
    (rnd_stops 7 w2.heap.size (w2.heap.size + 1) g s c A l hl3 hsl (Below w3.heap.size) (fun W => Below w3.heap.size w3 W)
      (fun W h => ⟨(h.cell (p := ⟨w2.heap.size, 0, none⟩) HBr.out.lt).trans HBr.out.cell, (h.cell (p := ⟨w2.heap.size + 1, 0, none⟩) HBa.out.lt).trans HBa.out.cell, (h.cell (p := ⟨g, 0, none⟩) (blk_lt HG3.out)).trans (blk_cell HG3.out 0), Kd.C_below HC3.out h⟩)
      (fun W h => h.drew) (fun W W' h k => h.trans k) w3 (fun W h => h))
    belowK_t (belowK_b (Nat.le_refl _)) (Below.refl _ _) (fun _ => rfl)
    (fun pre W => (pre = [] ∧ Boxed W w0.heap.size 9 (.string { data := #[] })) ∧ Below w3.heap.size w3 W)
    (fun c pre W => (c = .ret ∧ ∃ p : S67, pre = [p] ∧ Boxed W w0.heap.size 9 (.string p.f1)) ∧ Below w0.heap.size w0 W)
    (OwnFrom.and (fun s A B row hs hg hr => ⟨hs.1, hs.2.kept hg (fun e => by have := (hr _ e.symm).1; omega)⟩) (ownFrom_below (Nat.le_refl _) (Nat.le_refl _)))
    (fun c => OwnFrom.and (fun s A B row hs hg hr => ⟨hs.1, by obtain ⟨p, h1, h2⟩ := hs.2; exact ⟨p, h1, h2.kept hg (fun e => by have := (hr _ e.symm).1; omega)⟩⟩) (ownFrom_below (Nat.le_refl _) (by omega)))
    ⟨⟨rfl, HB3.out⟩, Below.refl _ _⟩
    (fun p a' W => ∃ Bx, w3.heap.size ≤ Bx ∧ W.heap[Bx]? = some (.cells #[.int .u64 p.f0, .string p.f1] 67 (0, 0)) ∧ a' = { tmps := #[.pointer (some ⟨g, 0, none⟩), .int .u64 x, undef, undef, .pointer (some ⟨w0.heap.size, 0, none⟩), .pointer (some ⟨Bx, 0, none⟩), .pointer (some ⟨g, 0, none⟩), .pointer (some ⟨g, 0, none⟩), .int .u64 x, .int .i64 s, .func (.func 43) #[] #[.pointer (some ⟨w2.heap.size, 0, none⟩), .pointer (some ⟨w2.heap.size + 1, 0, none⟩)], .agg #[.int .u64 p.f0, .string p.f1], undef, undef], defers := [] })
    (fun p a' _ X Y row hs hg hr => by
      obtain ⟨Bx, h1, h2, h3⟩ := hs
      exact ⟨Bx, h1, (hg.block Bx (blk_lt h2) (fun e => by
        obtain ⟨o, ho, hoc⟩ := (hr _ e.symm).2
        rw [h2] at ho
        cases ho
        exact absurd hoc (by simp [Obj.isCells]))).trans h2, h3⟩)
    ?assign ?body ?done ?stop
  case assign =>
    rintro r pre p W K ⟨⟨hp, hb⟩, hB⟩ hK
    gi_wp2
    exact hK _ _ ((KeepsOthers.alloc _ _).from _) ((Below.refl _ W).alloc hB.size _) ⟨⟨hp, hb.alloc _⟩, hB.alloc hB.size _⟩ ⟨W.heap.size, hB.size, blk_new _ _, rfl⟩
  case body =>
    rintro r pre p a' W hl ⟨rr, hrr⟩ ⟨⟨rfl, hb⟩, hB⟩ ⟨Bx, hBx, hX, rfl⟩ hlt
    have cX := blk_cell hX 1
    have cR := hb.cell
    have fR := hb.frozen
    gi_wp2
    exact ⟨(KeepsOthers.setCell _ _ _).from _, ⟨rfl, p, rfl, hb.set _⟩, (HW3.out.trans (hB.mono HW3.out.size)).setCell (p := ⟨w0.heap.size, 0, none⟩) (Nat.le_refl _) _⟩
  case done =>
    rintro D ys W hD rfl ⟨⟨hp, hb⟩, hB⟩ hK
    have cR := hb.cell
    have fR := hb.frozen
    gi_wp2
    have hK' := (KeepsOthers.setCell W ⟨w0.heap.size, 0, none⟩ (.string { data := #[] })).same D _ hK rfl
    refine ⟨by simp, .inl ⟨_, _, rfl, run_takeDeferred hK', ?_⟩⟩
    have hc5 := cell_kept (World.cell?_setCell_same' W ⟨w0.heap.size, 0, none⟩ (.string { data := #[] }) (by rw [cR]; rfl)) (grownBy_putObj' _ D (.deferred none)) (fun r e => by cases e; exact ⟨_, hK', rfl⟩)
    have hpk : pick l x = { data := #[] } := by rw [pick, ← Hs.out, hp]; rfl
    refine ⟨.string { data := #[] }, ?_, by rw [hpk], ((HW3.out.trans (hB.mono HW3.out.size)).setCell (p := ⟨w0.heap.size, 0, none⟩) (Nat.le_refl _) _).trans (belowK_b (w := w3) (by omega) _ D _ _ (by omega) hK' rfl rfl)⟩
    simp [results, Tryd.f17, go_sem, hc5]
  case stop =>
    rintro D c pre W hD hpre ⟨⟨rfl, p, rfl, hb⟩, hB⟩ hK
    gi_wp2
    refine ⟨by simp, .inl ⟨_, _, rfl, run_takeDeferred hK, ?_⟩⟩
    have hc5 := cell_kept hb.cell (grownBy_putObj' _ D (.deferred none)) (fun r e => by cases e; exact ⟨_, hK, rfl⟩)
    have hpk : pick l x = p.f1 := by
      obtain ⟨t, ht⟩ := hpre
      rw [pick, ← Hs.out, ← ht]
      rfl
    refine ⟨.string p.f1, ?_, by rw [hpk], hB.trans (belowK_b (w := w3) (by omega) W D _ _ (by omega) hK rfl rfl)⟩
    simp [results, Tryd.f17, go_sem, hc5]
end Go.Proofs.YtbcmmmcbineipaaDoor
