/- How a ring is built: the walk to the sort. -/
import Derived.Test.YtbcmmmcbineipaaDoorBldA
import Derived.Test.YtbcmmmcbineipaaDoorHld
import Derived.Test.YtbcmmmcbineipaaDoorSrtB
set_option linter.unusedVariables false
set_option linter.unusedSimpArgs false
namespace Go.Proofs.YtbcmmmcbineipaaDoor
open Go.RowKit Go.Proofs.YtbcmmmcbineipaaDoorW.PrintWords Go.Proofs.YtbcmmmcbineipaaDoorW.PrintLast Go.Proofs.YtbcmmmcbineipaaDoorW.PrintMore
open Go.Proofs.YtbcmmmcbineipaaDoor.PR

theorem info67 : (Tryd.prog.info? 67).map (fun i => (i.zero, i.size, i.bytes)) = some (some (.agg #[.int .u64 0, .string ⟨#[]⟩]), 2, 24) := by kernel_rfl

theorem cell_alloc' {W : World} {a : Addr} {v : Value} (o : Obj) (h : W.cell? a = some v) : (W.alloc o).cell? a = some v := by rw [World.cell?_alloc_some W a o (by rw [h]; rfl), h]
theorem own_ne {w : World} {base : Nat} {e t : TypeId} {size : Nat} {v : Value} {n g : Nat} {xs : List Value} {cs : Array Value} (h : w.ownsRow base e size v n xs) (hb : w.heap[g]? = some (.cells cs t (0, 0))) (hte : t ≠ e) : v.ownBlock ≠ some g := by
  rcases h.2 with ⟨rfl, _⟩ | ⟨g', cap, cur, rfl, _, hgb, _⟩
  · simp [Value.ownBlock]
  · intro e'
    obtain rfl : g = g' := by simpa [Value.ownBlock] using e'.symm
    have := hb.symm.trans hgb
    simp at this
    exact hte this.2
theorem own_ge {w : World} {base : Nat} {e : TypeId} {size : Nat} {v : Value} {n g : Nat} {xs : List Value} (h : w.ownsRow base e size v n xs) (hg : v.ownBlock = some g) : base ≤ g := by
  rcases h.2 with ⟨rfl, _⟩ | ⟨g', cap, cur, rfl, hb, hgb, _⟩
  · simp [Value.ownBlock] at hg
  · obtain rfl : g = g' := by simpa [Value.ownBlock] using hg.symm
    exact hb
theorem grownBy_cell (W : World) (b : Nat) (v : Value) : W.grownBy (W.setCell ⟨b, 0, none⟩ v) (some b) :=
  ⟨rfl, rfl, rfl, by show _ ≤ (W.heap.modify b _).size; rw [Array.size_modify]; exact Nat.le_refl _, fun k _ hk => Below.heap_setCell _ _ _ k (fun e => hk (by rw [e]))⟩
theorem cell_grown {w wx : World} {row : Option Nat} {a : Addr} {v : Value} (hg : w.grownBy wx row) (hne : row ≠ some a.block) (h : w.cell? a = some v) : wx.cell? a = some v :=
  (World.cell?_of_block (hg.block a.block (World.block_lt_of_cell? w _ h) (Ne.symm hne))).trans h
theorem range_grown {w wx : World} {row : Option Nat} {b o : Nat} {cs : List Value} (hg : w.grownBy wx row) (hne : row ≠ some b) (h : w.rangeAt b o cs) : wx.rangeAt b o cs := fun j v hv => cell_grown (a := ⟨b, o + j, none⟩) hg hne (h j v hv)
theorem frz_alloc {W : World} {a : Addr} {v : Value} (o : Obj) (h : W.cell? a = some v) (f : W.frozen? a = false) : (W.alloc o).frozen? a = false :=
  (World.frozen?_of_block (Below.heap_alloc W o a.block (World.block_lt_of_cell? W _ h))).trans f
theorem frz_later {w wx : World} {a : Addr} {v : Value} (hb : Below w.heap.size w wx) (h : w.cell? a = some v) (f : w.frozen? a = false) : wx.frozen? a = false :=
  (World.frozen?_of_block (hb.block a.block (World.block_lt_of_cell? w _ h))).trans f
theorem frz_grown {w wx : World} {row : Option Nat} {a : Addr} {v : Value} (hg : w.grownBy wx row) (hne : row ≠ some a.block) (h : w.cell? a = some v) (f : w.frozen? a = false) : wx.frozen? a = false :=
  (World.frozen?_of_block (hg.block a.block (World.block_lt_of_cell? w _ h) (Ne.symm hne))).trans f
theorem range_later {w wx : World} {b o : Nat} {cs : List Value} (hb : Below w.heap.size w wx) (h : w.rangeAt b o cs) : wx.rangeAt b o cs := fun j v hv => cell_later hb (h j v hv)
theorem own_later {w wx : World} {base : Nat} {e : TypeId} {size : Nat} {v : Value} {n : Nat} {xs : List Value} (h : w.ownsRow base e size v n xs) (hb : Below w.heap.size w wx) : wx.ownsRow base e size v n xs := by
  rcases ho : v.ownBlock with _ | g
  · exact h.kept (row := none) ⟨hb.os, hb.tape, hb.output, hb.size, fun k hk _ => hb.block k hk⟩ (.inl ho)
  · exact h.kept (row := none) ⟨hb.os, hb.tape, hb.output, hb.size, fun k hk _ => hb.block k hk⟩ (.inr (by rw [ho]; simp))
theorem e46_at {w : World} {A : Option Addr} {l : List S46} (h : Kd.C k46 w A l.length l) (k : Nat) (hk : k < l.length) : ∃ ad, A = some ad ∧ w.cell? (ad.add (k * 2)) = some (.string l[k].f0) ∧ w.cell? ⟨(ad.add (k * 2)).block, (ad.add (k * 2)).off + 1, none⟩ = some (.int .i64 l[k].f1) := by
  obtain ⟨ad, rfl, hc0, hc1⟩ := at_T46 h (k : Int) (by omega) (by omega)
  have ex : rd_T46 l (k : Int) = l[k] := by simp [rd_T46, List.getD_eq_getElem?_getD, List.getElem?_eq_getElem hk]
  rw [ex] at hc0 hc1
  simp only [Int.toNat_natCast] at hc0 hc1
  exact ⟨ad, rfl, hc0, hc1⟩

set_option maxHeartbeats 400000 in
set_option maxRecDepth 100000 in
theorem build_calls (kb : List Int) (A : Option Addr) (c : Nat) (l : List S46) (per : Int) (w0 : World) (hkb : kb.length = 16) (hr : Kd.C k46 w0 A l.length l) (hc : l.length ≤ c) (hl : l.length ≤ 6) (hs : ∀ e ∈ l, e.f0.size ≤ 140737488354000) (hper : per ≤ 99) (hw : ∀ e ∈ l, 1 ≤ e.f1 ∧ e.f1 ≤ 65535) (hchk : chk l = 0) :
    Calls Tryd.prog 10 #[.agg (nums .u8 kb).toArray, .slice A l.length c, .int .i64 per] w0 fun e w' => (∃ g, e = .returned (.tuple #[.pointer (some ⟨g, 0, none⟩), .int .i64 0]) ∧ w0.heap.size ≤ g ∧ RingAt w' g (ptSort (rawPts kb per l))) ∧ Below w0.heap.size w0 w' := by
  have HR := Lib.hid hr
  have HS := Lib.hid hs
  have HW := Lib.hid hw
  clear hw
  have HKB := Lib.hid hkb
  have HCH := Lib.hid (chk_calls A c l)
  rw [hchk] at HCH
  clear hr hs hchk hkb
  have hbK : Hid ((w0.alloc (.cells (nums .u8 kb).toArray 26)).heap[w0.heap.size]? = some (.cells (nums .u8 kb).toArray 26 (0, 0))) := blk_new _ _
  have HB := Lib.hid (below_alloc (Below.refl w0.heap.size w0) (.cells (nums .u8 kb).toArray 26))
  obtain ⟨kl, Hkl⟩ : ∃ kl : List Value, Hid (kl = nums .u8 kb) := ⟨_, rfl⟩
  have hkl : kl.length = 16 := by rw [Hkl.out]; simp [nums, HKB.out]
  have hk1 : ∀ v ∈ kl, v.oneCell' = true := by
    rw [Hkl.out]
    intro v hv
    obtain ⟨i, _, rfl⟩ := List.mem_map.1 hv
    rfl
  have HKL := Lib.hid hkl
  have HK1 := Lib.hid hk1
  clear hkl hk1
  rw [← Hkl.out] at hbK HB ⊢
  go_enter Tryd.func10, Tryd.ntmps10
  go_wp2_with fail
  generalize w0.alloc (Obj.cells kl.toArray 26) = w1 at HB hbK ⊢
  refine (HCH.out w1 (Kd.C_below HR.out HB.out) hc (by omega) (fun e he => Nat.le_trans (HS.out e he) (by unfold maxLen; omega))).mono ?_
  rintro e w2 ⟨rfl, hb2⟩
  have HB2 := Lib.hid (HB.out.trans (hb2.mono HB.out.size))
  have HK2 := Lib.hid (blk_below hbK.out hb2)
  clear HB hbK hb2 HCH w1
  obtain ⟨p, Hp⟩ : ∃ p : Int, Hid (p = perOf per) := ⟨_, rfl⟩
  have hp1 : 1 ≤ p ∧ p ≤ 99 := by rw [Hp.out]; unfold perOf; omega
  have hp2 : max 1 (min per 256) = p := Hp.out.symm
  go_wp2_with fail
  go_loopw [9, 26] (fun gv i wr => ∃ k : Nat, k ≤ l.length ∧ i = .int .i64 k ∧ gv = .int .i64 (greatest (l.take k)) ∧ Hid (wr.heap[w0.heap.size]? = some (.cells kl.toArray 26 (0, 0))) ∧ Hid (Below w0.heap.size w0 wr)) (fun _ i _ => l.length - (intOf i).toNat)
  case atStart => exact ⟨0, Nat.zero_le _, rfl, rfl, HK2, HB2⟩
  case round =>
    obtain ⟨k, hk, rfl, rfl, HK3, HB3⟩ := hrel
    by_cases hlt : k < l.length
    · obtain ⟨ad, rfl, hc0, hc1⟩ := e46_at (Kd.C_below HR.out HB3.out) k hlt
      obtain ⟨x, Hx⟩ : ∃ x : S46, Hid (x = l[k]) := ⟨l[k], rfl⟩
      rw [← Hx.out] at hc0 hc1
      have hg := greatest_succ l k hlt
      rw [← Hx.out] at hg
      obtain ⟨G, HG⟩ : ∃ G : Int, Hid (G = greatest (l.take k)) := ⟨_, rfl⟩
      rw [← HG.out] at hg ⊢
      obtain ⟨G2, HG2⟩ : ∃ G2 : Int, Hid (G2 = greatest (l.take (k + 1))) := ⟨_, rfl⟩
      rw [← HG2.out] at hg
      have hg' : max G x.f1 = G2 := hg.symm
      clear hg
      go_wp2_with fail
      go_roundw
      case rel => exact ⟨k + 1, by omega, by go_num, by rw [← HG2.out], blk_alloc HK3.out _, HB3.out.alloc HB3.out.size _⟩
      case measure => simp [intOf]; omega
    · obtain rfl : k = l.length := by omega
      rw [List.take_length]
      obtain ⟨G, HG⟩ : ∃ G : Int, Hid (G = greatest l) := ⟨_, rfl⟩
      rw [← HG.out]
      go_wp2_with fail
      have hG1 : 1 ≤ G := by rw [HG.out]; exact greatest_pos l 1 (Int.le_refl _)
      have HGE : Hid (∀ e ∈ l, e.f1 ≤ G) := fun e he => by rw [HG.out]; exact (greatest_ge l 1).2 e he
      obtain ⟨gR, HgR⟩ : ∃ gR : Nat, Hid (gR = wr.heap.size) := ⟨_, rfl⟩
      have hbR : Hid ((wr.alloc (Obj.cells #[Value.slice none 0 0] 63)).heap[gR]? = some (.cells #[Value.slice none 0 0] 63 (0, 0))) := by rw [HgR.out]; exact blk_new _ _
      have HK4 := Lib.hid (blk_alloc HK3.out (Obj.cells #[Value.slice none 0 0] 63))
      have HB4 := Lib.hid (HB3.out.alloc HB3.out.size (Obj.cells #[Value.slice none 0 0] 63))
      have hgR : w0.heap.size ≤ gR := by rw [HgR.out]; exact HB3.out.size
      rw [← HgR.out]
      generalize wr.alloc (Obj.cells #[Value.slice none 0 0] 63) = w4 at hbR HK4 HB4 ⊢
      clear HK3 HB3 HgR hlt
      go_loopw [39] (fun i wr => ∃ k : Nat, k ≤ l.length ∧ i = .int .i64 k ∧ ∃ v : Value, Hid (wr.heap[gR]? = some (.cells #[v] 63 (0, 0))) ∧ Hid (wr.ownsRow w0.heap.size 67 2 v ((l.take k).flatMap (ptsOf kb p G)).length (flat ((l.take k).flatMap (ptsOf kb p G)))) ∧ ((l.take k).flatMap (ptsOf kb p G)).length ≤ k * 99 ∧ Hid (wr.heap[w0.heap.size]? = some (.cells kl.toArray 26 (0, 0))) ∧ Hid (Below w0.heap.size w0 wr)) (fun i _ => l.length - (intOf i).toNat)
      case atStart => exact ⟨0, Nat.zero_le _, rfl, _, hbR, World.ownsRow_nil _ _ _ _, Nat.zero_le _, HK4, HB4⟩
      case round =>
        obtain ⟨k, hk, rfl, v, HV5, HO5, hn5, HK5, HB5⟩ := hrel
        by_cases hlt : k < l.length
        · obtain ⟨ad, rfl, hc0, hc1⟩ := e46_at (Kd.C_below HR.out HB5.out) k hlt
          obtain ⟨x, Hx⟩ : ∃ x : S46, Hid (x = l[k]) := ⟨l[k], rfl⟩
          rw [← Hx.out] at hc0 hc1
          have hxm : x ∈ l := by rw [Hx.out]; exact List.getElem_mem hlt
          have hx1 := HW.out x hxm
          have hxg := HGE.out x hxm
          have hcnt := cnt_le p G x hp1.1 hx1.1 hxg
          obtain ⟨cn, Hcn⟩ : ∃ cn : Nat, Hid (cn = cntOf p G x) := ⟨_, rfl⟩
          rw [← Hcn.out] at hcnt
          have hm0 : 0 ≤ p * x.f1 := Int.mul_nonneg (by omega) (by omega)
          have hm1 : p * x.f1 ≤ 99 * 65535 := Int.mul_le_mul hp1.2 hx1.2 (by omega) (by omega)
          have hmul : IntKind.i64.wrap (p * x.f1) = p * x.f1 := by unfold IntKind.wrap; simp [IntKind.bits, IntKind.signed]; omega
          have hG0 : ¬ G = 0 := by omega
          obtain ⟨q, Hq⟩ : ∃ q : Int, Hid (q = (p * x.f1) / G) := ⟨_, rfl⟩
          have hq1 : (p * x.f1) / G = q := Hq.out.symm
          have hq2 : (p * x.f1).tdiv G = q := by rw [Int.tdiv_eq_ediv_of_nonneg hm0]; exact hq1
          have hq0 : 0 ≤ q ∧ q ≤ 99 * 65535 := by
            rw [← hq1]
            exact ⟨Int.ediv_nonneg hm0 (by omega), Int.le_trans (Int.ediv_le_self _ hm0) hm1⟩
          have hqw : IntKind.i64.wrap q = q := by unfold IntKind.wrap; simp [IntKind.bits, IntKind.signed]; omega
          have hN : max 1 q = (cn : Int) := by rw [Hcn.out, ← hq1]; unfold cntOf; omega
          go_wp2_with fail
          obtain ⟨gE, HgE⟩ : ∃ gE : Nat, Hid (gE = wr.heap.size) := ⟨_, rfl⟩
          have hbE : Hid ((wr.alloc (Obj.cells #[Value.string x.f0, Value.int IntKind.i64 x.f1] 58)).heap[gE]? = some (.cells #[Value.string x.f0, Value.int IntKind.i64 x.f1] 58 (0, 0))) := by rw [HgE.out]; exact blk_new _ _
          have HV6 := Lib.hid (blk_alloc HV5.out (Obj.cells #[Value.string x.f0, Value.int IntKind.i64 x.f1] 58))
          have HO6 := Lib.hid (HO5.out.alloc (Obj.cells #[Value.string x.f0, Value.int IntKind.i64 x.f1] 58))
          have HK6 := Lib.hid (blk_alloc HK5.out (Obj.cells #[Value.string x.f0, Value.int IntKind.i64 x.f1] 58))
          have HB6 := Lib.hid (HB5.out.alloc HB5.out.size (Obj.cells #[Value.string x.f0, Value.int IntKind.i64 x.f1] 58))
          rw [← HgE.out]
          generalize wr.alloc (Obj.cells #[Value.string x.f0, Value.int IntKind.i64 x.f1] 58) = w6 at hbE HV6 HO6 HK6 HB6 ⊢
          clear HV5 HO5 HK5 HB5 HgE hm0 hm1 hmul hq1 hq2 hq0 hqw Hq
          obtain ⟨R, HR6⟩ : ∃ R : List S67, Hid (R = (l.take k).flatMap (ptsOf kb p G)) := ⟨_, rfl⟩
          rw [← HR6.out] at HO6 hn5
          go_loopw [50] (fun i wr => ∃ j : Nat, j ≤ cn ∧ i = .int .i64 j ∧ ∃ v : Value, Hid (wr.heap[gR]? = some (.cells #[v] 63 (0, 0))) ∧ Hid (wr.ownsRow w0.heap.size 67 2 v (R ++ (List.range j).map (ptOf kb x)).length (flat (R ++ (List.range j).map (ptOf kb x)))) ∧ Hid (wr.heap[gE]? = some (.cells #[Value.string x.f0, Value.int IntKind.i64 x.f1] 58 (0, 0))) ∧ Hid (wr.heap[w0.heap.size]? = some (.cells kl.toArray 26 (0, 0))) ∧ Hid (Below w0.heap.size w0 wr)) (fun i _ => cn - (intOf i).toNat)
          case atStart => exact ⟨0, Nat.zero_le _, rfl, v, HV6, by simpa using HO6, hbE, HK6, HB6⟩
          case round =>
            obtain ⟨j, hj, rfl, v7, HV7, HO7, HE7, HK7, HB7⟩ := hrel
            by_cases hlj : j < cn
            · obtain ⟨d, Hd⟩ : ∃ d : ByteArray, Hid (d = digs j) := ⟨_, rfl⟩
              have hdig := fun w => digits_calls j (by omega) w
              have hdl : d.size ≤ 2 := by rw [Hd.out]; exact decDigits_small j (by omega)
              obtain ⟨S, HS7⟩ : ∃ S : Int, Hid (S = ssum kb (lbytes [x.f0, ⟨#[35]⟩, d])) := ⟨_, rfl⟩
              have hsum := fun B t w => sum3_calls kb HKB.out x.f0 ⟨#[35]⟩ d (by have := HS.out x hxm; show _ + 1 + _ ≤ _; omega) B t w
              rw [← HS7.out, ← Hkl.out] at hsum
              have HSU := Lib.hid hsum
              have HDI : Hid (∀ w, Calls Tryd.prog 24 #[.int .i64 j] w fun e w' => e = .returned (.string d) ∧ w' = w) := by rw [Hd.out]; exact hdig
              clear hsum hdig
              go_wp2_with fail
              have hu := Tryd.underlying26
              have hi : (Tryd.prog.info? 26).map (·.size) = some kl.length := by rw [HKL.out]; kernel_rfl
              have hkl := HKL.out
              have hk1 := HK1.out
              have cR := blk_cell HV7.out 0
              have fR : wr.frozen? ⟨gR, 0, none⟩ = false := blk_frozen HV7.out 0
              have cE := blk_cell HE7.out 0
              have rK : wr.rangeAt w0.heap.size 0 kl := fun i v hi => by
                rw [Nat.zero_add, blk_cell HK7.out]
                simpa using hi
              simp only [List.getElem?_toArray, List.getElem?_cons_zero] at cR cE
              obtain ⟨i0, hi0, hz0, hz1, hz2⟩ := info_parts info67
              have hn8 : (R ++ List.map (ptOf kb x) (List.range j)).length ≤ 1000 := by simp; omega
              obtain ⟨xs, Hxs⟩ : ∃ xs : List S67, Hid (xs = R ++ List.map (ptOf kb x) (List.range j)) := ⟨_, rfl⟩
              rw [← Hxs.out] at HO7 hn8
              have hneR := own_ne HO7.out HV7.out (by decide)
              have hneE := own_ne HO7.out HE7.out (by decide)
              have hneK := own_ne HO7.out HK7.out (by decide)
              have hn9 : xs.length + 1 ≤ maxLen := by unfold maxLen; omega
              have hn10 : (xs.length + 1) * 24 ≤ 140737488355328 := by omega
              obtain ⟨Sp, HSp⟩ : ∃ Sp : World → Prop, Hid (Sp = fun w' => w'.cell? ⟨gR, 0, none⟩ = some v7 ∧ w'.cell? ⟨gE, 0, none⟩ = some (.string x.f0) ∧ w'.rangeAt w0.heap.size 0 kl) := ⟨_, rfl⟩
              refine wp_region_noPanic ?_
              have hBt : True := trivial
              refine hd_region (n := 19) (S := fun w' => w'.cell? ⟨gR, 0, none⟩ = some v7 ∧ w'.cell? ⟨gE, 0, none⟩ = some (.string x.f0) ∧ w'.rangeAt w0.heap.size 0 kl) (by kernel_rfl) (by kernel_rfl) ⟨cR, cE, rK⟩ (fun hHeld => ?_)
              clear hBt
              refine HdSt.takeAt (i := 0) 53 (v := ?_) (by kernel_rfl) rfl rfl (by decide) (by kernel_rfl) (by kernel_rfl) (fun _ _ _ h => h) (Or.inl ⟨by rfl, ?_⟩) (by assumption) ?_
              rotate_left 1
              · intro w hSw; (try dsimp only at hSw); go_simp; try with_reducible rfl
              try simp only [Act.put, List.setIfInBounds_toArray, List.set_cons_zero, List.set_cons_succ]
              refine HdSt.takeAt (i := 1) 54 (v := ?_) (by kernel_rfl) rfl rfl (by decide) (by kernel_rfl) (by kernel_rfl) (fun _ _ _ h => h) (Or.inl ⟨by rfl, ?_⟩) (by assumption) ?_
              rotate_left 1
              · intro w hSw; (try dsimp only at hSw); go_simp; try with_reducible rfl
              try simp only [Act.put, List.setIfInBounds_toArray, List.set_cons_zero, List.set_cons_succ]
              refine HdSt.takeAt (i := 2) 55 (v := ?_) (by kernel_rfl) rfl rfl (by decide) (by kernel_rfl) (by kernel_rfl) (fun _ _ _ h => h) (Or.inl ⟨by rfl, ?_⟩) (by assumption) ?_
              rotate_left 1
              · intro w hSw; (try dsimp only at hSw); go_simp; try with_reducible rfl
              try simp only [Act.put, List.setIfInBounds_toArray, List.set_cons_zero, List.set_cons_succ]
              refine HdSt.takeAt (i := 3) 56 (v := ?_) (by kernel_rfl) rfl rfl (by decide) (by kernel_rfl) (by kernel_rfl) (fun _ _ _ h => h) (Or.inl ⟨by rfl, ?_⟩) (by assumption) ?_
              rotate_left 1
              · intro w hSw; (try dsimp only at hSw); go_simp; try with_reducible rfl
              try simp only [Act.put, List.setIfInBounds_toArray, List.set_cons_zero, List.set_cons_succ]
              refine HdSt.takeAt (i := 4) 57 (v := ?_) (by kernel_rfl) rfl rfl (by decide) (by kernel_rfl) (by kernel_rfl) (fun _ _ _ h => h) (Or.inl ⟨by rfl, ?_⟩) (by assumption) ?_
              rotate_left 1
              · intro w hSw; (try dsimp only at hSw); go_simp; try with_reducible rfl
              try simp only [Act.put, List.setIfInBounds_toArray, List.set_cons_zero, List.set_cons_succ]
              refine' HdSt.takeAt (i := 5) 58 (v := _) (by kernel_rfl) rfl rfl (by decide) (by kernel_rfl) (by kernel_rfl) (fun _ _ _ h => h) (yieldsIf_load_mid (by rfl) _ _ rfl _ _ rfl _ _ ?hS5 ?hu5 ?hd5 ?hi5) (by assumption) ?rest5
              case hS5 => intro w hSw; exact hSw.2.2
              case hu5 => assumption
              case hd5 => rfl
              case hi5 => assumption
              try simp only [Act.put, List.setIfInBounds_toArray, List.set_cons_zero, List.set_cons_succ]
              refine HdSt.takeAt (i := 6) 59 (v := ?_) (by kernel_rfl) rfl rfl (by decide) (by kernel_rfl) (by kernel_rfl) (fun _ _ _ h => h) (Or.inl ⟨by rfl, ?_⟩) (by assumption) ?_
              rotate_left 1
              · intro w hSw; (try dsimp only at hSw); go_simp; try with_reducible rfl
              try simp only [Act.put, List.setIfInBounds_toArray, List.set_cons_zero, List.set_cons_succ]
              refine HdSt.takeAt (i := 7) 60 (v := ?_) (by kernel_rfl) rfl rfl (by decide) (by kernel_rfl) (by kernel_rfl) (fun _ _ _ h => h) (Or.inl ⟨by rfl, ?_⟩) (by assumption) ?_
              rotate_left 1
              · intro w hSw; (try dsimp only at hSw); go_simp; try with_reducible rfl
              try simp only [Act.put, List.setIfInBounds_toArray, List.set_cons_zero, List.set_cons_succ]
              refine HdSt.takeAt (i := 8) 61 (v := ?_) (by kernel_rfl) rfl rfl (by decide) (by kernel_rfl) (by kernel_rfl) (fun _ _ _ h => h) (Or.inl ⟨by rfl, ?_⟩) (by assumption) ?_
              rotate_left 1
              · intro w hSw; (try dsimp only at hSw); go_simp; try with_reducible rfl
              try simp only [Act.put, List.setIfInBounds_toArray, List.set_cons_zero, List.set_cons_succ]
              refine HdSt.takeAt (i := 12) 65 (v := ?_) (by kernel_rfl) rfl rfl (by decide) (by kernel_rfl) (by kernel_rfl) (fun _ _ _ h => h) (Or.inl ⟨by rfl, ?_⟩) (by assumption) ?_
              rotate_left 1
              · intro w hSw; (try dsimp only at hSw); go_simp; try with_reducible rfl
              try simp only [Act.put, List.setIfInBounds_toArray, List.set_cons_zero, List.set_cons_succ]
              refine HdSt.takeAt (i := 13) 66 (v := ?_) (by kernel_rfl) rfl rfl (by decide) (by kernel_rfl) (by kernel_rfl) (fun _ _ _ h => h) (Or.inl ⟨by rfl, ?_⟩) (by assumption) ?_
              rotate_left 1
              · intro w hSw; (try dsimp only at hSw); go_simp; try with_reducible rfl
              try simp only [Act.put, List.setIfInBounds_toArray, List.set_cons_zero, List.set_cons_succ]
              refine HdSt.one (i := 9) (by kernel_rfl) (by decide) rfl (fun K hK => ?_)
              go_simp
              refine (HDI.out _).mono ?_
              rintro e w' ⟨rfl, rfl⟩
              refine hK.out _ _ ⟨cR, cE, rK⟩ (fun hHeld => ?_)
              clear hK K
              try simp only [Act.put, List.setIfInBounds_toArray, List.set_cons_zero, List.set_cons_succ]
              refine HdSt.one (i := 10) (by kernel_rfl) (by decide) rfl (fun K hK => ?_)
              go_simp
              refine hK.out _ _ ⟨cell_alloc' _ cR, cell_alloc' _ cE, World.rangeAt_alloc rK _⟩ (fun hHeld => ?_)
              clear hK K
              try simp only [Act.put, List.setIfInBounds_toArray, List.set_cons_zero, List.set_cons_succ]
              refine HdSt.one (i := 11) (by kernel_rfl) (by decide) rfl (fun K hK => ?_)
              go_simp
              refine (HSU.out _ _ _ (blk_drew (blk_new _ _))).mono ?_
              rintro e w8 ⟨rfl, hb8⟩
              have HO8 := Lib.hid (own_later (HO7.out.alloc _).drew hb8)
              refine hK.out _ _ ⟨cell_later hb8 hHeld.1, cell_later hb8 hHeld.2.1, range_later hb8 hHeld.2.2⟩ (fun hHeld => ?_)
              clear hK K
              try simp only [Act.put, List.setIfInBounds_toArray, List.set_cons_zero, List.set_cons_succ]
              refine HdSt.takeAt (i := 14) 67 (v := ?_) (by kernel_rfl) rfl rfl (by decide) (by kernel_rfl) (by kernel_rfl) (fun _ _ _ h => h) (Or.inl ⟨by rfl, ?_⟩) (by assumption) ?_
              rotate_left 1
              · intro w hSw; (try dsimp only at hSw); go_simp; try with_reducible rfl
              try simp only [Act.put, List.setIfInBounds_toArray, List.set_cons_zero, List.set_cons_succ]
              refine HdSt.one (i := 15) (by kernel_rfl) (by decide) rfl (fun K hK => ?_)
              go_simp
              refine hK.out _ _ ⟨cell_alloc' _ hHeld.1, cell_alloc' _ hHeld.2.1, World.rangeAt_alloc hHeld.2.2 _⟩ (fun hHeld => ?_)
              clear hK K
              try simp only [Act.put, List.setIfInBounds_toArray, List.set_cons_zero, List.set_cons_succ]
              refine HdSt.one (i := 16) (by kernel_rfl) (by decide) rfl (fun K hK => ?_)
              refine step_append_lies _ (by rfl) _ _ _ (by rfl) w0.heap.size 67 i0 _ 2 24 Tryd.underlying61 hi0 hz0 hz1 hz2 rfl (by omega) v7 xs.length (flat xs) (by rfl) (HO8.out.alloc _)
                ⟨w8.heap.size, 0, none⟩ 1 1 [.int .u64 S, .string x.f0] (by rfl) (by rfl) (World.news_of_block (cs := #[.int .u64 S, .string x.f0]) (t := 67) (fr := (0, 0)) (heap_alloc_new w8 _)) (by simp [Value.oneCell'])
                (by omega) hn9 hn10 (by have h1 := HB7.out.size; have h2 := hb8.size; simp at h2 ⊢; omega) _ (by rfl) ?_
              intro gg cap w9 hown9 hgrow hat hlt9
              refine hK.out _ _ ⟨cell_grown hgrow hneR hHeld.1, cell_grown hgrow hneE hHeld.2.1, range_grown hgrow hneK hHeld.2.2⟩ (fun hHeld => ?_)
              clear hK K
              try simp only [Act.put, List.setIfInBounds_toArray, List.set_cons_zero, List.set_cons_succ]
              refine HdSt.takeAt (i := 17) 70 (v := ?_) (by kernel_rfl) rfl rfl (by decide) (by kernel_rfl) (by kernel_rfl) (fun _ _ _ h => h) (Or.inl ⟨by rfl, ?_⟩) (by assumption) ?_
              rotate_left 1
              · intro w hSw; (try dsimp only at hSw); go_simp; try with_reducible rfl
              try simp only [Act.put, List.setIfInBounds_toArray, List.set_cons_zero, List.set_cons_succ]
              refine HdSt.takeAt (i := 18) 71 (v := ?_) (by kernel_rfl) rfl rfl (by decide) (by kernel_rfl) (by kernel_rfl) (fun _ _ _ h => h) (Or.inl ⟨by rfl, ?_⟩) (by assumption) ?_
              rotate_left 1
              · intro w hSw; (try dsimp only at hSw); go_simp; try with_reducible rfl
              try simp only [Act.put, List.setIfInBounds_toArray, List.set_cons_zero, List.set_cons_succ]
              refine HdSt.done (by kernel_rfl) ?_
              have HV9 := Lib.hid (blk_grown (blk_alloc (blk_below (blk_drew (blk_alloc HV7.out _)) hb8) _) hgrow (Ne.symm hneR))
              have HE9 := Lib.hid (blk_grown (blk_alloc (blk_below (blk_drew (blk_alloc HE7.out _)) hb8) _) hgrow (Ne.symm hneE))
              have HK9 := Lib.hid (blk_grown (blk_alloc (blk_below (blk_drew (blk_alloc HK7.out _)) hb8) _) hgrow (Ne.symm hneK))
              have hsz7 := HB7.out.size
              have hsz8 : wr.heap.size + 1 ≤ w8.heap.size := by have := hb8.size; simpa using this
              have HB8 : Hid (Below w0.heap.size w0 w8) := (((HB7.out.alloc hsz7 _).drew).trans (hb8.mono (by simp; omega)))
              have HB9 : Hid (Below w0.heap.size w0 w9) := (HB8.out.alloc (by omega) _).grown hgrow (by simp; omega) (fun g hg => own_ge HO7.out hg)
              have fR9 : w9.frozen? ⟨gR, 0, none⟩ = false := blk_frozen HV9.out 0
              have cR9 := hHeld.1
              have HO9 := Lib.hid hown9
              clear hHeld hown9 hgrow hb8 hneR hneE hneK
              change wpList _ _ _ [_] _ _
              go_wp2
              refine NoPanic.normal ?_
              have HVx : Hid ((w9.setCell ⟨gR, 0, none⟩ (Value.slice (some ⟨gg, 0, none⟩) (xs.length + 1) cap)).heap[gR]? = some (.cells #[Value.slice (some ⟨gg, 0, none⟩) (xs.length + 1) cap] 63 (0, 0))) := blk_set HV9.out 0 _
              have hne := own_ne HO9.out HV9.out (by decide)
              have HOx : Hid ((w9.setCell ⟨gR, 0, none⟩ (Value.slice (some ⟨gg, 0, none⟩) (xs.length + 1) cap)).ownsRow w0.heap.size 67 2 (.slice (some ⟨gg, 0, none⟩) (xs.length + 1) cap) (xs.length + 1) (flat xs ++ [Value.int IntKind.u64 S, Value.string x.f0])) := HO9.out.kept (grownBy_cell w9 gR _) (.inr hne)
              have HEx : Hid ((w9.setCell ⟨gR, 0, none⟩ (Value.slice (some ⟨gg, 0, none⟩) (xs.length + 1) cap)).heap[gE]? = some (.cells #[Value.string x.f0, Value.int IntKind.i64 x.f1] 58 (0, 0))) := blk_far HE9.out (blk_ne HE9.out HV9.out (by decide)) _
              have HKx : Hid ((w9.setCell ⟨gR, 0, none⟩ (Value.slice (some ⟨gg, 0, none⟩) (xs.length + 1) cap)).heap[w0.heap.size]? = some (.cells kl.toArray 26 (0, 0))) := blk_far HK9.out (blk_ne HK9.out HV9.out (by decide)) _
              have HBx : Hid (Below w0.heap.size w0 (w9.setCell ⟨gR, 0, none⟩ (Value.slice (some ⟨gg, 0, none⟩) (xs.length + 1) cap))) := HB9.out.setCell (p := ⟨gR, 0, none⟩) hgR _
              obtain ⟨sv, Hsv⟩ : ∃ sv : Value, Hid (sv = Value.slice (some ⟨gg, 0, none⟩) (xs.length + 1) cap) := ⟨_, rfl⟩
              rw [← Hsv.out] at HVx HOx HEx HKx HBx ⊢
              generalize w9.setCell ⟨gR, 0, none⟩ sv = wx at HVx HOx HEx HKx HBx ⊢
              clear fR9 cR9
              have hstep : flat xs ++ [Value.int IntKind.u64 S, Value.string x.f0] = flat (R ++ List.map (ptOf kb x) (List.range (j + 1))) := by
                rw [List.range_succ, List.map_append, ← List.append_assoc, ← Hxs.out, flat_append]
                congr 1
                rw [HS7.out, Hd.out]
                rfl
              have hlen : xs.length + 1 = (R ++ List.map (ptOf kb x) (List.range (j + 1))).length := by rw [Hxs.out]; simp; omega
              rw [hstep, hlen] at HOx
              go_wp2
              go_roundw
              case rel => exact ⟨j + 1, by omega, by go_num, sv, HVx, HOx, HEx, HKx, HBx⟩
              case measure => simp [intOf]; omega
            · obtain rfl : j = cn := by omega
              have hfl : R ++ List.map (ptOf kb x) (List.range j) = (l.take (k + 1)).flatMap (ptsOf kb p G) := by
                rw [List.take_succ_eq_append_getElem hlt, List.flatMap_append, ← HR6.out, ← Hx.out]
                congr 1
                simp [ptsOf, ← Hcn.out]
              have hnl : (R ++ List.map (ptOf kb x) (List.range j)).length ≤ (k + 1) * 99 := by simp; omega
              rw [hfl] at HO7 hnl
              go_wp2
              go_roundw
              case rel => exact ⟨k + 1, by omega, by go_num, v7, HV7, HO7, hnl, HK7, HB7⟩
              case measure => simp [intOf]; omega
        · obtain rfl : k = l.length := by omega
          rw [List.take_length] at HO5 hn5
          obtain ⟨R, HRr⟩ : ∃ R : List S67, Hid (R = l.flatMap (ptsOf kb p G)) := ⟨_, rfl⟩
          rw [← HRr.out] at HO5 hn5
          have cR := blk_cell HV5.out 0
          simp only [List.getElem?_toArray, List.getElem?_cons_zero] at cR
          have hraw : R = rawPts kb per l := by rw [HRr.out, HG.out, Hp.out]; rfl
          have HRW := Lib.hid hraw
          clear hraw
          go_wp2_with fail
          refine (sort_own w0.heap.size _ v R wr HO5.out rfl (by omega)).mono ?_
          rintro e w8 ⟨rfl, A8, c8, rfl, hc8, hC8, hg8⟩
          have hV8 := Lib.hid (blk_grown HV5.out hg8 (Ne.symm (own_ne HO5.out HV5.out (by decide))))
          have HB8 : Hid (Below w0.heap.size w0 w8) := HB5.out.grown hg8 HB5.out.size (fun g hg => own_ge HO5.out hg)
          have HC8 := Lib.hid hC8
          clear hC8 hg8 cR
          go_wp2_with fail
          go_ret2
          refine ⟨⟨gR, rfl, hgR, ?_⟩, HB8.out⟩
          have hlen : (ptSort R).length = R.length := List.length_mergeSort R
          rw [← HRW.out]
          exact ⟨A8, c8, by rw [hlen]; exact hV8.out, by rw [hlen]; exact HC8.out, by rw [hlen]; exact hc8, by rw [hlen]; omega⟩
end Go.Proofs.YtbcmmmcbineipaaDoor
