/- The siphash part: what the state's end does. -/
import Derived.Test.YtbcmmmcbineipaaDoorSipD
import Derived.Laws.CopyOwn
set_option linter.unusedVariables false
set_option linter.unusedSimpArgs false
namespace Go.Proofs.YtbcmmmcbineipaaDoor
open Go.RowKit Go.Proofs.YtbcmmmcbineipaaDoorW.PrintWords Go.Proofs.YtbcmmmcbineipaaDoorW.PrintLast Go.Proofs.YtbcmmmcbineipaaDoorW.PrintMore
open Go.Proofs.YtbcmmmcbineipaaDoor.PR

def slast (xs : List Int) (n : Int) : List Int := (xs ++ List.replicate (8 - xs.length) 0).set 7 (n % 256)
def sfinal (s : Sip) (m : Int) : Int :=
  let t := stake s m
  let t := srounds 4 { t with c := Go.bits .xor .u64 t.c 255 }
  Go.bits .xor .u64 (Go.bits .xor .u64 (Go.bits .xor .u64 t.a t.b) t.c) t.d
def send (s : Sip) (xs : List Int) (n : Int) : Int := sfinal s (sword (slast xs n))

theorem splice8 (xs : List Int) (h : xs.length < 8) : splice [.int .u8 0, .int .u8 0, .int .u8 0, .int .u8 0, .int .u8 0, .int .u8 0, .int .u8 0, .int .u8 0] 0 (nums .u8 xs) = nums .u8 (xs ++ List.replicate (8 - xs.length) 0) := by
  have e : ([.int .u8 0, .int .u8 0, .int .u8 0, .int .u8 0, .int .u8 0, .int .u8 0, .int .u8 0, .int .u8 0] : List Value) = List.replicate 8 (.int .u8 0) := rfl
  rw [e, splice, List.drop_replicate]
  simp [nums, nums_length]
theorem reads_block {w : World} {b t : Nat} {xs : List Int} (h : w.heap[b]? = some (.cells (nums .u8 xs).toArray t (0, 0))) (hm : xs.length ≤ 9223372036854775807) : Kd.C (Kd.int .u8) w (some ⟨b, 0, none⟩) xs.length xs := by
  refine Kd.C_of_reads (d := (0 : Int)) ⟨rfl, hm, fun hp => ⟨_, rfl, fun j hj => ?_⟩⟩
  rw [add_at, cell_of_row w b _ _ t (0, 0) h]
  simp [nums, List.getElem?_eq_getElem hj, List.getD_eq_getElem?_getD]
theorem last7 {w : World} {b : Nat} {ys : List Int} (h : Hid (w.heap[b]? = some (.cells (nums .u8 ys).toArray 100 (0, 0)))) (hx : ys.length = 8) : w.cell? ⟨b, 7, none⟩ = some (.int .u8 (ys.getD 7 0)) := by
  rw [cell_of_row w b 7 _ 100 (0, 0) h.out]
  simp [nums, List.getElem?_eq_getElem (show 7 < ys.length by omega), List.getD_eq_getElem?_getD]
theorem pad_length (xs : List Int) (h : xs.length < 8) : (xs ++ List.replicate (8 - xs.length) (0 : Int)).length = 8 := by simp; omega
theorem slast_length (xs : List Int) (n : Int) (h : xs.length < 8) : (slast xs n).length = 8 := by simp [slast]; omega

set_option maxHeartbeats 4000000 in
set_option maxRecDepth 100000 in
theorem send_calls (g : Nat) (s : Sip) (v : Value) (n : Int) (xs : List Int) (w0 : World) (hg : w0.heap[g]? = some (.cells (sipCells s v n) 82 (0, 0)))
    (hq : QRow w0 g 5 1 v xs.length (nums .u8 xs)) (h0 : 0 ≤ n) (hn : n ≤ 4611686018427387904) (hx : xs.length < 8) :
    Calls Tryd.prog 33 #[.pointer (some ⟨g, 0, none⟩)] w0 fun e w' => e = .returned (.int .u64 (send s xs n)) ∧ Below g w0 w' := by
  obtain ⟨A, c, rfl, hxl, hnc, hmx, hC⟩ := q_reads hq
  have HG : Hid (w0.heap[g]? = some (.cells (sipCells s (.slice A xs.length c) n) 82 (0, 0))) := hg
  have HQ := Lib.hid hq
  have hgl : g ≤ w0.heap.size := Nat.le_of_lt (Array.getElem?_eq_some_iff.1 hg).1
  have HNE := Lib.hid (q_block_ne hq hg)
  clear hg hq hxl hC
  have c4 := (sip_cell HG.out).2.2.2.2.1
  have c5 := (sip_cell HG.out).2.2.2.2.2
  have HB := Lib.hid (below_alloc (Below.refl w0.heap.size w0) (.cells #[.int .u8 0, .int .u8 0, .int .u8 0, .int .u8 0, .int .u8 0, .int .u8 0, .int .u8 0, .int .u8 0] 100))
  have HL := Lib.hid (heap_alloc_new w0 (.cells #[.int .u8 0, .int .u8 0, .int .u8 0, .int .u8 0, .int .u8 0, .int .u8 0, .int .u8 0, .int .u8 0] 100))
  have hgl' : g < w0.heap.size := (Array.getElem?_eq_some_iff.1 HG.out).1
  clear c4 c5
  go_enter Tryd.func33, Tryd.ntmps33
  go_wp2_with fail
  generalize (w0.alloc (.cells #[.int .u8 0, .int .u8 0, .int .u8 0, .int .u8 0, .int .u8 0, .int .u8 0, .int .u8 0, .int .u8 0] 100)) = w1 at HB HL ⊢
  have HG1 := Lib.hid (blk_below HG.out HB.out)
  have HQ1 := Lib.hid (q_move HQ.out (fun k hk => HB.out.block k (q_lt HQ.out k hk)))
  obtain ⟨hxl, hmx1, hcells⟩ : xs.length = xs.length ∧ True ∧ (0 < xs.length → ∃ ad, A = some ad ∧ ∀ j u, (nums .u8 xs)[j]? = some u → w1.cell? (ad.add j) = some u) := ⟨rfl, trivial, fun h => q_cells HQ1.out h⟩
  have HC := Lib.hid hcells
  clear hxl hmx1 hcells
  have c4 := (sip_cell HG1.out).2.2.2.2.1
  go_still_tail 5, (by kernel_rfl)
  change wpList _ _ _ _ _ (World.drew w1)
  have HL2 : Hid ((World.drew w1).heap[w0.heap.size]? = some (.cells [.int .u8 0, .int .u8 0, .int .u8 0, .int .u8 0, .int .u8 0, .int .u8 0, .int .u8 0, .int .u8 0].toArray 100 (0, 0))) := HL
  have hl8 : (nums .u8 xs).length = Nat.min xs.length 8 := by rw [nums_length]; exact (Nat.min_eq_left (by omega)).symm
  have HL8 := Lib.hid hl8
  clear hl8
  refine wpList_copy_splice rfl (.tmp 4) (.tmp 8) 37 37 rfl 5 Tryd.underlying37 (by kernel_rfl) _ _ 8 8 xs.length c rfl rfl w0.heap.size 0 [.int .u8 0, .int .u8 0, .int .u8 0, .int .u8 0, .int .u8 0, .int .u8 0, .int .u8 0, .int .u8 0] 100 HL2.out (nums .u8 xs) HL8.out (fun h => ⟨rfl, HC.out (by rw [nums_length] at h; exact h)⟩) (by rw [nums_length]; simp; omega) (fun v hv => by simp [nums] at hv; obtain ⟨x, _, rfl⟩ := hv; rfl) w0.heap.size (World.drew w1) (Below.refl _ _) (Nat.le_refl _) ?_
  intro w2 hl2 hb2
  rw [splice8 xs hx] at hl2
  have HB2 : Hid (Below w0.heap.size w0 w2) := (below_drew HB.out).trans hb2
  have HG2 := Lib.hid (blk_below HG.out HB2.out)
  clear hb2 c4
  have c5 := (sip_cell HG2.out).2.2.2.2.2
  have c7 := last7 hl2 (pad_length xs hx)
  have f7 : w2.frozen? ⟨w0.heap.size, 7, none⟩ = false := fz_of hl2
  have hs3 := st_blk (u := .int .u8 (n % 256)) hl2 7
  have hs4 : Hid ((w2.setCell ⟨w0.heap.size, 7, none⟩ (.int .u8 (n % 256))).heap[w0.heap.size]? = some (.cells (nums .u8 (slast xs n)).toArray 100 (0, 0))) := by
    have h := hs3.out
    have e : (nums .u8 (xs ++ List.replicate (8 - xs.length) 0)).toArray.setIfInBounds 7 (.int .u8 (n % 256)) = (nums .u8 (slast xs n)).toArray := by
      simp [nums, slast, List.map_set]
    rw [e] at h
    exact h
  clear hs3
  have HB3 : Hid (Below w0.heap.size w0 (w2.setCell ⟨w0.heap.size, 7, none⟩ (.int .u8 (n % 256)))) := HB2.out.setCell (p := ⟨w0.heap.size, 7, none⟩) (Nat.le_refl _) _
  go_wp2_with fail
  clear c5 c7 f7
  generalize w2.setCell ⟨w0.heap.size, 7, none⟩ (.int .u8 (n % 256)) = w3 at hs4 HB3 ⊢
  have hC3 := Lib.hid (reads_block hs4.out (by rw [slast_length xs n hx]; omega))
  have HG3 := Lib.hid (blk_below HG.out HB3.out)
  have hl := slast_length xs n hx
  obtain ⟨ls, Hls⟩ : ∃ ls : List Int, Hid (ls = slast xs n) := ⟨_, rfl⟩
  rw [← Hls.out] at hC3 hl
  have hl2' : 8 ≤ ls.length := by omega
  have hC4 : Hid (Kd.C (Kd.int .u8) w3 (some ⟨w0.heap.size, 0, none⟩) ls.length ls) := hC3
  refine (calls_of_args (by rw [hl]) (siphash_word.calls 9 (some ⟨w0.heap.size, 0, none⟩) 8 ls (sword ls) _ hC4.out (by omega) (sword_some ls hl2'))).mono ?_
  rintro e w4 ⟨rfl, ⟨⟨nq, rfl⟩⟩⟩
  clear hl hl2'
  go_wp2_with fail
  refine (stake_calls g s (sword ls) _ _ _ (blk_drewN HG3.out nq)).mono ?_
  rintro e w5 ⟨rfl, hg5, hk5⟩
  have HG5 := Lib.hid hg5
  have HB5 : Hid (Below g w0 w5) := ((HB3.out.mono hgl).trans ((Below.refl g w3).grown (row := some g) ⟨hk5.os, hk5.tape, hk5.output, hk5.size, hk5.block⟩ (Nat.le_of_lt (Array.getElem?_eq_some_iff.1 HG3.out).1) (fun k hk => by injection hk with hk; omega)))
  clear hg5 hk5
  obtain ⟨s5, Hs5⟩ : ∃ s5 : Sip, Hid (s5 = stake s (sword ls)) := ⟨_, rfl⟩
  rw [← Hs5.out] at HG5
  have c2 := (sip_cell HG5.out).2.2.1
  have f2 : w5.frozen? ⟨g, 2, none⟩ = false := fz_of HG5
  go_wp2_with fail
  clear c2 f2
  have HG6 : Hid ((w5.setCell ⟨g, 2, none⟩ (.int .u64 (Go.bits .xor .u64 s5.c 255))).heap[g]? = some (.cells (sipCells { s5 with c := Go.bits .xor .u64 s5.c 255 } (.slice A xs.length c) n) 82 (0, 0))) := st_blk HG5 2
  have HB6 := Lib.hid (HB5.out.setCell (p := ⟨g, 2, none⟩) (Nat.le_refl g) (.int .u64 (Go.bits .xor .u64 s5.c 255)))
  generalize w5.setCell ⟨g, 2, none⟩ (.int .u64 (Go.bits .xor .u64 s5.c 255)) = w6 at HG6 HB6 ⊢
  obtain ⟨s6, Hs6⟩ : ∃ s6 : Sip, Hid (s6 = { s5 with c := Go.bits .xor .u64 s5.c 255 }) := ⟨_, rfl⟩
  rw [← Hs6.out] at HG6
  go_loopw [27] (fun x wr => ∃ k : Nat, k ≤ 4 ∧ x = .int .i64 k ∧ Hid (wr.heap[g]? = some (.cells (sipCells (srounds k s6) (.slice A xs.length c) n) 82 (0, 0))) ∧ Hid (Below g w0 wr)) (fun x _ => 4 - (intOf x).toNat)
  case atStart => exact ⟨0, by omega, rfl, HG6, HB6⟩
  case round =>
    obtain ⟨k, hk, rfl, HG7, HB7⟩ := hrel
    by_cases hlt : k < 4
    · go_wp2_with fail
      refine (sround_calls' g _ _ n _ HG7.out).mono ?_
      rintro e w7 ⟨rfl, hg7, hk7⟩
      have HG8 := Lib.hid hg7
      have HB8 : Hid (Below g w0 w7) := (HB7.out.trans ((Below.refl g wr).grown (row := some g) hk7 (Nat.le_of_lt (Array.getElem?_eq_some_iff.1 HG7.out).1) (fun k hk => by injection hk with hk; omega)))
      clear hg7 hk7
      go_wp2
      go_roundw
      case rel => exact ⟨k + 1, by omega, by go_num, HG8, HB8⟩
      case measure => simp [intOf]; omega
    · obtain rfl : k = 4 := by omega
      have c0 := (sip_cell HG7.out).1
      have c1 := (sip_cell HG7.out).2.1
      have c2 := (sip_cell HG7.out).2.2.1
      have c3 := (sip_cell HG7.out).2.2.2.1
      go_wp2_with fail
      go_quiet (fail)
      go_wp2
      go_ret
      refine ⟨?_, pw_below_drewN HB7.out _⟩
      have e : send s xs n = Go.bits .xor .u64 (Go.bits .xor .u64 (Go.bits .xor .u64 (srounds 4 s6).a (srounds 4 s6).b) (srounds 4 s6).c) (srounds 4 s6).d := by
        rw [Hs6.out, Hs5.out, Hls.out]
        rfl
      rw [e]
      rfl
end Go.Proofs.YtbcmmmcbineipaaDoor
